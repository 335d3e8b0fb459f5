/- Inf TpEnum Orb2 Bsr Low Topl Dmb -/
import Derived.Test.YtlgcmaoimpgedaaGreatDoorT10
import Derived.Test.YtlgcmaoimpgedaaGreatDoorT05
set_option maxRecDepth 100000
set_option linter.unusedSimpArgs false
namespace Go.Proofs.YtlgcmaoimpgedaaGreatDoor
open Go.Value renaming slice->qS
section
open Go.RowKit
namespace Game
variable {c:LL}
def neg(v:Vec):Vec:=fun k=>- v k
theorem zGX(v:Vec):neg (neg v)=v:=by funext k;simp[neg]
theorem zGC(A:Mat)(i:Nat)(v:Vec):s A i (neg v)=neg (s A i v):=by
 funext k;simp only[Game.s,neg,Int.neg_mul];omega
theorem zwY(A:Mat):∀(w:List Nat) (v:Vec),act A w (neg v)=neg (act A w v)
 |[],_=>rfl
 |i::w,v=>by simp only[Game.act];rw[zwY A w v,zGC]
theorem ztF{A:Mat}{n:Nat}(hA:Car A n):∀(l:List Nat) (v:Vec),zbE A n l v->zbE A n l.reverse (neg (run A l v))/\run A l.reverse (neg (run A l v))=neg v
 |[],_,_=>⟨trivial,rfl⟩
 |i::l,v,h=>by
  obtain⟨hi,hv,hl⟩:=h;obtain⟨h1,h2⟩:=ztF hA l (s A i v) hl;simp only[Game.run,List.reverse_cons];refine⟨zbE.append h1 ?_,?_⟩
  ·rw[h2];refine⟨hi,?_,trivial⟩;simp only[neg,Game.s,hA.two i hi];omega
  ·rw[ziE,h2];simp only[Game.run];rw[zGC,s_s hA hi]
theorem zGY(n:Nat):toV (zdu n)=neg (toV (zax n)):=by
 funext k;simp only[toV,neg,zdu,zax];by_cases h:k<n
 ·simp[List.getD,h]
 ·simp[List.getD,h]
theorem zCA(hC:IsC c){long:LI}(ei:zbJ c 30 (zdu c.length)=some long)(iY:zct c long (zax c.length)=zdu c.length):∃Wl,long=zae Wl/\Elt c long.length Wl/\act (ent c) Wl (toV (zax c.length))=neg (toV (zax c.length)):=by
 have bR:=zCu ei;rw[zfk] at bR;have Pt:=zmK ei
 have he:long=zae (long.map Int.toNat):=by
  unfold zae;rw[List.map_map];apply List.ext_getElem (by simp);intro i h1 h2;have:=bR i h1;simp[List.getD,h1] at this ⊢;omega
 have ac:∀i∈long.map Int.toNat,i<c.length:=by
  intro i hi;obtain⟨x,hx,rfl⟩:=List.mem_map.1 hi;obtain⟨k,hk,rfl⟩:=List.mem_iff_getElem.1 hx;have:=bR k hk;simp[List.getD,hk] at this;omega
 generalize hW:long.map Int.toNat=Wl at*;have am:Wl.length=long.length:=by rw[he,zai]
 obtain⟨W,Mm⟩:=zjL hC ac (by omega);have h1:=Mm.norm;rw[<-he,iY,ei] at h1;have h2:long=zae W:=Option.some.inj h1;have h3:Wl=W:=zlo (by rw[<-he];exact h2);subst h3;refine⟨Wl,he,⟨Mm,am⟩,?_⟩;rw[<-zeZ hC ac (by omega),<-he,iY,zGY]
theorem zJj(hC:IsC c){long:LI}(ei:zbJ c 30 (zdu c.length)=some long)(iY:zct c long (zax c.length)=zdu c.length){n:Nat}{W:List Nat}(hW:Elt c n W):n<=long.length:=by
 have hA:=zbS hC;obtain⟨Wl,he,hE,dw⟩:=zCA hC ei iY;have e1:act (ent c) (W++Wl) (toV (zax c.length))=neg (act (ent c) W (toV (zax c.length))):=by rw[zfa,dw,zwY]
 have ac:∀i∈W++Wl,i<c.length:=by
  intro i hi
  rcases List.mem_append.1 hi with h|h
  ·exact hW.nf.lt i h
  ·exact hE.nf.lt i h
 obtain⟨l',hp,-⟩:=zdg hA (zgw c.length) (W++Wl) ac;rw[e1] at hp;obtain⟨h1,h2⟩:=ztF hA l' _ hp.1;rw[hp.2] at h1 h2;rw[zGX] at h2;have uD:=hW.nf.plays;rw[<-h2] at uD;have Pu:=zaF.append h1 uD;have tV:=hE.nf.plays;rw[dw] at tV;have:=(zaF.unique hA (zgw _) tV Pu).1;rw[qA,hE.len,hW.len] at this;omega
theorem zmR(f g:Nat->Int):∀n,zaQ n (fun k=>f k+g k)=zaQ n f+zaQ n g
 |0=>rfl
 |n+1=>by simp only[zaQ];rw[zmR f g n];omega
theorem zjN(a:Int)(f:Nat->Int):∀n,zaQ n (fun k=>a*f k)=a*zaQ n f
 |0=>by simp[zaQ]
 |n+1=>by simp only[zaQ];rw[zjN a f n,Int.mul_add]
theorem zhR{f g:Nat->Int}:∀n,(∀k,k<n->f k=g k)->zaQ n f=zaQ n g
 |0,_=>rfl
 |n+1,h=>by simp only[zaQ];rw[zhR n (fun k hk=>h k (by omega)),h n (by omega)]
def phi(c:LL)(y:Nat->Int)(v:Vec):Int:=zaQ c.length (fun k=>y k*v k)
theorem zGD(y:Nat->Int)(v:Vec)(i:Nat):phi c y (s (ent c) i v)=phi c y v+(- v i)*zaQ c.length (fun k=>y k*ent c k i):=by
 unfold phi;rw[<-zjN,<-zmR];refine zhR _ fun k _=>?_
 simp only[Game.s];rw[Int.mul_sub,Int.neg_mul,<-Int.mul_assoc,<-Int.mul_assoc,Int.mul_comm (y k) (v i)];omega
end Game
end
section
open Go.RowKit
namespace Game
variable {c:LL}
def dl(j:Nat)(x:Int)(k:Nat):Int:=if k=j then x else 0
theorem zLl(j:Nat)(x:Int)(f:Nat->Int):∀n,zaQ n (fun k=>dl j x k*f k)=if j<n then x*f j else 0
 |0=>by simp[zaQ]
 |n+1=>by
  simp only[zaQ];rw[zLl j x f n];unfold dl;by_cases h:j<n
  ·rw[if_pos h,if_neg (show¬n=j by omega),if_pos (show j<n+1 by omega)];simp
  ·rw[if_neg h];by_cases e:j=n
   ·subst e;rw[if_pos rfl,if_pos (show j<j+1 by omega)];simp
   ·rw[if_neg (show¬n=j by omega),if_neg (show¬j<n+1 by omega)];simp
theorem sum2{i j n:Nat}(hi:i<n)(hj:j<n)(x z:Int)(f:Nat->Int):zaQ n (fun k=>(dl i x k+dl j z k)*f k)=x*f i+z*f j:=by
 have:(fun k=>(dl i x k+dl j z k)*f k)=fun k=>dl i x k*f k+dl j z k*f k:=by funext k;rw[Int.add_mul]
 rw[this,zmR,zLl,zLl,if_pos hi,if_pos hj]
end Game
end
section
def zgd(c:LL)(k:Nat):Int:=det c.length (c.set k (List.replicate c.length 1))
def zbN(c:LL):Bool:=(List.range c.length).all fun i=>decide (0<zaQ c.length fun k=>zgd c k*ent c k i)
theorem zKm:zbN [[2]]=true:=by kernel_rfl
theorem zKn:ziY zbN=true:=by kernel_rfl
theorem zKo:ziZ zbN=true:=by kernel_rfl
theorem zCB:zad zbN (0,0) (0,0)=true:=by kernel_rfl
theorem zCC:zad zbN (0,0) (-1,-1)=true:=by kernel_rfl
theorem zCD:zad zbN (0,0) (-1,-2)=true:=by kernel_rfl
theorem zCE:zad zbN (0,0) (-2,-1)=true:=by kernel_rfl
theorem zCF:zad zbN (0,0) (-1,-3)=true:=by kernel_rfl
theorem zCG:zad zbN (0,0) (-3,-1)=true:=by kernel_rfl
theorem zCH:zad zbN (-1,-1) (0,0)=true:=by kernel_rfl
theorem zCI:zad zbN (-1,-1) (-1,-1)=true:=by kernel_rfl
theorem zCJ:zad zbN (-1,-1) (-1,-2)=true:=by kernel_rfl
theorem zCK:zad zbN (-1,-1) (-2,-1)=true:=by kernel_rfl
theorem zCL:zad zbN (-1,-1) (-1,-3)=true:=by kernel_rfl
theorem zCM:zad zbN (-1,-1) (-3,-1)=true:=by kernel_rfl
theorem zCN:zad zbN (-1,-2) (0,0)=true:=by kernel_rfl
theorem zCO:zad zbN (-1,-2) (-1,-1)=true:=by kernel_rfl
theorem zCP:zad zbN (-1,-2) (-1,-2)=true:=by kernel_rfl
theorem zCQ:zad zbN (-1,-2) (-2,-1)=true:=by kernel_rfl
theorem zCR:zad zbN (-1,-2) (-1,-3)=true:=by kernel_rfl
theorem zCS:zad zbN (-1,-2) (-3,-1)=true:=by kernel_rfl
theorem zCT:zad zbN (-2,-1) (0,0)=true:=by kernel_rfl
theorem zCU:zad zbN (-2,-1) (-1,-1)=true:=by kernel_rfl
theorem zCV:zad zbN (-2,-1) (-1,-2)=true:=by kernel_rfl
theorem zCW:zad zbN (-2,-1) (-2,-1)=true:=by kernel_rfl
theorem zCX:zad zbN (-2,-1) (-1,-3)=true:=by kernel_rfl
theorem zCY:zad zbN (-2,-1) (-3,-1)=true:=by kernel_rfl
theorem zCZ:zad zbN (-1,-3) (0,0)=true:=by kernel_rfl
theorem zDa:zad zbN (-1,-3) (-1,-1)=true:=by kernel_rfl
theorem zDb:zad zbN (-1,-3) (-1,-2)=true:=by kernel_rfl
theorem zDc:zad zbN (-1,-3) (-2,-1)=true:=by kernel_rfl
theorem zDd:zad zbN (-1,-3) (-1,-3)=true:=by kernel_rfl
theorem zDe:zad zbN (-1,-3) (-3,-1)=true:=by kernel_rfl
theorem zDf:zad zbN (-3,-1) (0,0)=true:=by kernel_rfl
theorem zDg:zad zbN (-3,-1) (-1,-1)=true:=by kernel_rfl
theorem zDh:zad zbN (-3,-1) (-1,-2)=true:=by kernel_rfl
theorem zDi:zad zbN (-3,-1) (-2,-1)=true:=by kernel_rfl
theorem zDj:zad zbN (-3,-1) (-1,-3)=true:=by kernel_rfl
theorem zDk:zad zbN (-3,-1) (-3,-1)=true:=by kernel_rfl
theorem zKp:zip zbN=true:=by
 rw[zhy];simp only[L6,List.all_cons,List.all_nil,Bool.and_true,zCB,zCC,zCD,zCE,zCF,zCG,zCH,zCI,zCJ,zCK,zCL,zCM,zCN,zCO,zCP,zCQ,zCR,zCS,zCT,zCU,zCV,zCW,zCX,zCY,zCZ,zDa,zDb,zDc,zDd,zDe,zDf,zDg,zDh,zDi,zDj,zDk]
theorem zGZ{c:LL}(hC:IsC c)(hf:zaN c=true):∀i,i<c.length->0<zaQ c.length fun k=>zgd c k*ent c k i:=fun i hi=>by
 have h:=zgB zbN zKm zKn zKo zKp hC hf;unfold zbN at h;have:=List.all_eq_true.1 h i (List.mem_range.2 hi);simpa using this
end
section
open Go.RowKit
namespace Game
variable {c:LL}
structure zbY(c:LL)(v:LI):Prop where
 hC:IsC c
 fin:zaN c=true
 len:v.length=c.length
 small:∀j,j<v.length→-1000<=v.getD j 0/\v.getD j 0<=1000
theorem zGE(hC:IsC c)(hf:zaN c=true){n:Nat}{W:List Nat}(hW:Elt c n W):n<=24:=by
 obtain⟨long,opp,hL,FY⟩:=ztE hC hf;exact qt (zJj hC hL.norm hL.act hW) FY
theorem ziG(hC:IsC c)(hf:zaN c=true):∀(w:List Nat),(∀i∈w,i<c.length)->∃W,Elt c W.length W/\W.length<=24/\∀u,act (ent c) w u=act (ent c) W u
 |[],_=>⟨[],Elt.zero hC,by simp,fun _=>rfl⟩
 |i::w,hw=>by
  obtain⟨W,hE,hl,ha⟩:=ziG hC hf w (fun k hk=>hw k (List.mem_cons_of_mem _ hk))
  have ac:∀k∈i::W,k<c.length:=by
   intro k hk
   rcases List.mem_cons.1 hk with rfl|h
   ·exact hw k (by simp)
   ·exact hE.nf.lt k h
  obtain⟨X,hX⟩:=zjL hC ac (by simp;omega);have Mn:Elt c X.length X:=⟨hX.self,rfl⟩;exact⟨X,Mn,zGE hC hf Mn,fun u=>by rw[<-hX.act u];simp only[Game.act];rw[ha u]⟩
def zbv(c:LL)(v x:LI):Prop:=x.length=c.length/\∃w:List Nat,(∀i∈w,i<c.length)/\toV x=act (ent c) w (toV v)
theorem zbv.self{v:LI}(hv:v.length=c.length):zbv c v v:=⟨hv,[],by simp,rfl⟩
def zpc:Int:=281474976710656000
theorem zbv.bd{v x:LI}(hD:zbY c v)(h:zbv c v x):Bd c.length zpc (toV x):=by
 obtain⟨_,w,hw,e⟩:=h;obtain⟨W,hE,hl,ha⟩:=ziG hD.hC hD.fin w hw;rw[e,ha];have h0:Bd c.length 1000 (toV v):=fun k hk=>hD.small k (by rw[hD.len];exact hk)
 have h1:=Bd.word (zbS hD.hC) h0 W hE.nf.lt;have h2:(4:Nat) ^ W.length<=4 ^ 24:=Nat.pow_le_pow_right (by decide) hl;have h3:((4 ^ W.length:Nat):Int)=(4:Int) ^ W.length:=by simp
 have h4:(4:Nat) ^ 24=281474976710656:=by decide
 rw[<-h3] at h1;rw[h4] at h2;generalize 4 ^ W.length=q at*;intro k hk;have:=h1 k hk;unfold zpc;omega
theorem zbv.toV_refl{v x:LI}(hD:zbY c v)(h:zbv c v x){i:Nat}(hi:i<c.length):toV (refl c i x)=s (ent c) i (toV x):=
 Game.toV_refl hD.hC h.1 hi (M:=zpc) (by decide) (h.bd hD)
theorem zbv.refl{v x:LI}(hD:zbY c v)(h:zbv c v x){i:Nat}(hi:i<c.length):zbv c v (refl c i x):=by
 obtain⟨hl,w,hw,e⟩:=id h;refine⟨by rw[zcf];exact hl,i::w,?_,?_⟩
 ·intro k hk
  rcases List.mem_cons.1 hk with rfl|h
  ·exact hi
  ·exact hw k h
 ·rw[h.toV_refl hD hi,e];rfl
theorem zbv.back{v x:LI}(hD:zbY c v)(h:zbv c v x){i:Nat}(hi:i<c.length):Proofs.YtlgcmaoimpgedaaGreatDoor.refl c i (Proofs.YtlgcmaoimpgedaaGreatDoor.refl c i x)=x:=by
 refine zgC (by simp[zcf]) ?_;rw[(h.refl hD hi).toV_refl hD hi,h.toV_refl hD hi,s_s (zbS hD.hC) hi]
theorem ztG(hC:IsC c):∀{y:List Nat},(∀i∈y,i<c.length)->∀u,act (ent c) y.reverse (act (ent c) y u)=u
 |[],_,_=>rfl
 |i::y,h,u=>by
  rw[List.reverse_cons,zfa];simp only[act];rw[s_s (zbS hC) (h i (by simp))];exact ztG hC (fun j hj=>h j (List.mem_cons_of_mem _ hj)) u
theorem zbv.from{v t x:LI}(hD:zbY c v)(ht:zbv c v t)(hx:zbv c v x):∃w:List Nat,(∀i∈w,i<c.length)/\toV x=act (ent c) w (toV t):=by
 obtain⟨-,u,hu,e1⟩:=ht;obtain⟨-,w,hw,e2⟩:=hx;refine⟨w++u.reverse,fun i hi=>?_,?_⟩
 ·rcases List.mem_append.1 hi with h|h
  ·exact hw i h
  ·exact hu i (List.mem_reverse.1 h)
 ·rw[zfa,e1,ztG hD.hC hu,e2]
theorem zxQ{v t:LI}(hD:zbY c v){Q:LL}(ht:zbv c v t)(h0:t∈Q)(hQ:∀x∈Q,∀i,i<c.length->Proofs.YtlgcmaoimpgedaaGreatDoor.refl c i x∈Q){x:LI}(hx:zbv c v x):x∈Q:=by
 obtain⟨w,hw,e⟩:=ht.from hD hx
 induction w generalizing x with
 |nil=>rw[zgC (by rw[hx.1,ht.1]) e];exact h0
 |cons i w ih=>
  have hi:=hw i (by simp);have hy:=ih (x:=Proofs.YtlgcmaoimpgedaaGreatDoor.refl c i x) (hx.refl hD hi) (fun k hk=>hw k (List.mem_cons_of_mem _ hk)) (by rw[hx.toV_refl hD hi,e];simp only[Game.act];rw[s_s (zbS hD.hC) hi]);have:=hQ _ hy i hi
  rwa [hx.back hD hi] at this
theorem zvU{v t:LI}(hD:zbY c v){Q:LL}(ht:zbv c v t)(il:Dom c.length (toV t))(h0:t∈Q)(hQ:∀x∈Q,∀i,i<c.length->0<x.getD i 0->Proofs.YtlgcmaoimpgedaaGreatDoor.refl c i x∈Q){x:LI}(hx:zbv c v x):x∈Q:=by
 have key:∀(l:List Nat) (x:LI),zbv c v x->zaF (ent c) c.length l (Game.toV x) (Game.toV t)->x∈Q:=by
  intro l
  induction l with
  |nil=>
   intro x hx hp;rw[zgC (by rw[hx.1,ht.1]) hp.2];exact h0
  |cons i l ih=>
   intro x hx hp;obtain⟨hi,dw,uE⟩:=zaF.cons.1 hp;have hy:=hx.refl hD hi;have ey:=hx.toV_refl hD hi;have hm:=ih _ hy (by rw[ey];exact uE)
   have aW:0<(Proofs.YtlgcmaoimpgedaaGreatDoor.refl c i x).getD i 0:=by
    have e1:(Proofs.YtlgcmaoimpgedaaGreatDoor.refl c i x).getD i 0=Game.toV (Proofs.YtlgcmaoimpgedaaGreatDoor.refl c i x) i:=rfl;rw[e1,ey];simp only[s,(zbS hD.hC).two i hi];omega
   have:=hQ _ hm i hi aW
   rwa [hx.back hD hi] at this
 obtain⟨w,hw,e⟩:=ht.from hD hx;obtain⟨l,hp,-⟩:=zdg (zbS hD.hC) il w hw;rw[<-e] at hp;exact key l x hx hp
theorem ztH{f g:Nat->Int}:∀n,(∀k,k<n->f k<=g k)->zaQ n f<=zaQ n g
 |0,_=>Int.le_refl _
 |n+1,h=>by
  simp only[zaQ];have:=ztH n (fun k hk=>h k (by omega));have:=h n (by omega);omega
theorem zJk{v:LI}(hD:zbY c v):∃l d,zaF (ent c) c.length l (Game.toV v) d/\Dom c.length d:=by
 have aW:=zGZ hD.hC hD.fin
 have Ir:∀x,zbv c v x->phi c (zgd c) (Game.toV x)<=zaQ c.length (fun k=>((zgd c k).natAbs:Int)*zpc):=fun x hx=>by
  have hb:=hx.bd hD;refine ztH _ fun k hk=>?_
  have h1:=hb k hk;have h2:zgd c k*Game.toV x k<=((zgd c k*Game.toV x k).natAbs:Int):=Int.le_natAbs;have h3:((zgd c k*Game.toV x k).natAbs:Int)=((zgd c k).natAbs:Int)*((Game.toV x k).natAbs:Int):=by rw[Int.natAbs_mul];simp
  have h4:((Game.toV x k).natAbs:Int)<=zpc:=by omega
  have h5:((zgd c k).natAbs:Int)*((Game.toV x k).natAbs:Int)<=((zgd c k).natAbs:Int)*zpc:=Int.mul_le_mul_of_nonneg_left h4 (by omega);omega
 generalize hB:zaQ c.length (fun k=>((zgd c k).natAbs:Int)*zpc)=B at*
 have key:∀(m:Nat) (x:LI),zbv c v x->(B-phi c (zgd c) (Game.toV x)).toNat<=m->∃l d,zaF (ent c) c.length l (Game.toV x) d/\Dom c.length d:=by
  intro m
  induction m with
  |zero=>
   intro x hx hm;have h1:=Ir x hx;by_cases il:Dom c.length (Game.toV x)
   ·exact⟨[],_,⟨trivial,rfl⟩,il⟩
   ·have:∃i,i<c.length/\Game.toV x i<0:=by
     apply Classical.byContradiction;intro aJ
     exact il fun i hi=>by
      apply Classical.byContradiction;intro h;exact aJ ⟨i,hi,by omega⟩
    obtain⟨i,hi,dw⟩:=this;have h2:=Ir _ (hx.refl hD hi);rw[hx.toV_refl hD hi,zGD] at h2;have h3:1*zaQ c.length (fun k=>zgd c k*ent c k i)<=(- Game.toV x i)*zaQ c.length (fun k=>zgd c k*ent c k i):=Int.mul_le_mul_of_nonneg_right (by omega) (by have:=aW i hi;omega);have:=aW i hi;omega
  |succ m ih=>
   intro x hx hm;by_cases il:Dom c.length (Game.toV x)
   ·exact⟨[],_,⟨trivial,rfl⟩,il⟩
   ·have:∃i,i<c.length/\Game.toV x i<0:=by
     apply Classical.byContradiction;intro aJ
     exact il fun i hi=>by
      apply Classical.byContradiction;intro h;exact aJ ⟨i,hi,by omega⟩
    obtain⟨i,hi,dw⟩:=this;have h2:=Ir _ hx;have h3:1*zaQ c.length (fun k=>zgd c k*ent c k i)<=(- Game.toV x i)*zaQ c.length (fun k=>zgd c k*ent c k i):=Int.mul_le_mul_of_nonneg_right (by omega) (by have:=aW i hi;omega);have hp:=aW i hi;obtain⟨l,d,g1,g2⟩:=ih _ (hx.refl hD hi) (by rw[hx.toV_refl hD hi,zGD];omega);rw[hx.toV_refl hD hi] at g1;exact⟨i::l,d,zaF.cons.2 ⟨hi,dw,g1⟩,g2⟩
 exact key _ v (zbv.self hD.len) (qr _)
theorem zzv{v:LI}(hD:zbY c v):∃l d,zaF (ent c) c.length l (Game.toV v) d/\Dom c.length d/\l.length<=24:=by
 obtain⟨l,d,h1,h2⟩:=zJk hD;obtain⟨W,hE,hl,ha⟩:=ziG hD.hC hD.fin l h1.1.lt;have e:=h1.eq_act (zbS hD.hC);rw[ha] at e;obtain⟨l2,g1,g2⟩:=zdg (zbS hD.hC) h2 W hE.nf.lt;rw[<-e] at g1;exact⟨l2,d,g1,h2,by omega⟩
def zdb(c:LL):Nat->LI->LI × List Nat
 |0,v=>(v,[])
 |f+1,v=>match zaG v with
  |none=>(v,[])
  |some i=>((zdb c f (Proofs.YtlgcmaoimpgedaaGreatDoor.refl c i v)).1,i::(zdb c f (Proofs.YtlgcmaoimpgedaaGreatDoor.refl c i v)).2)
def zbd(c:LL)(v:LI):LI:=(zdb c 30 v).1
def zcv(c:LL)(v:LI):List Nat:=(zdb c 30 v).2
theorem zmS{f:Nat}{v:LI}(h:zaG v=none):zdb c f v=(v,[]):=by
 cases f with
 |zero=>rfl
 |succ f=>unfold zdb;rw[h]
theorem zmT{f i:Nat}{v:LI}(h:zaG v=some i):zdb c (f+1) v=((zdb c f (Proofs.YtlgcmaoimpgedaaGreatDoor.refl c i v)).1,i::(zdb c f (Proofs.YtlgcmaoimpgedaaGreatDoor.refl c i v)).2):=by
 conv=>lhs;unfold zdb
 rw[h]
structure zGF(c:LL)(v x:LI)(f:Nat):Prop where
 orb:zbv c v x
 few:(zdb c f x).2.length<=f
 lt:∀i∈(zdb c f x).2,i<c.length
 dom:∀j,j<c.length->0<=(zdb c f x).1.getD j 0
 end_:zbv c v (zdb c f x).1
 plays:zaF (ent c) c.length (zdb c f x).2 (Game.toV x) (Game.toV (zdb c f x).1)
theorem ztI{v:LI}(hD:zbY c v){d:Vec}(hd:Dom c.length d):∀(f:Nat) (x:LI) (l:List Nat),zbv c v x->zaF (ent c) c.length l (Game.toV x) d->l.length<=f->zGF c v x f
 |0,x,l,hx,hp,hl=>by
  obtain rfl:l=[]:=List.eq_nil_of_length_eq_zero (by omega);have e:Game.toV x=d:=hp.2;exact⟨hx,by simp[zdb],by simp[zdb],fun j hj=>by have:=hd j hj;rw[<-e] at this;exact this,hx,⟨trivial,rfl⟩⟩
 |f+1,x,l,hx,hp,hl=>by
  cases hn:zaG x with
  |none=>
   have nT:=zfg hn;have e:zdb c (f+1) x=(x,[]):=zmS hn;exact⟨hx,by rw[e];simp,by rw[e];simp,fun j hj=>by rw[e];exact nT j (by rw[hx.1];exact hj),by rw[e];exact hx,by rw[e];exact⟨trivial,rfl⟩⟩
  |some i=>
   obtain⟨hi,dw,-⟩:=zdM hn;have kl:i<c.length:=by rw[<-hx.1];exact hi
   obtain⟨l',g1,g2,-⟩:=hp.first (zbS hD.hC) hd kl dw;have hr:=hx.toV_refl hD kl;obtain⟨q1,q2,q3,q4,q5,q6⟩:=ztI hD hd f (Proofs.YtlgcmaoimpgedaaGreatDoor.refl c i x) l' (hx.refl hD kl) (by rw[hr];exact(zaF.cons.1 g1).2.2) (by omega);have e:zdb c (f+1) x=((zdb c f (Proofs.YtlgcmaoimpgedaaGreatDoor.refl c i x)).1,i::(zdb c f (Proofs.YtlgcmaoimpgedaaGreatDoor.refl c i x)).2):=zmT hn;refine⟨hx,by rw[e];simpa using q2,fun j hj=>?_,fun j hj=>by rw[e];exact q4 j hj,by rw[e];exact q5,?_⟩
   ·rw[e] at hj
    rcases List.mem_cons.1 hj with rfl|h
    ·exact kl
    ·exact q3 j h
   ·rw[e];exact zaF.cons.2 ⟨kl,dw,by rw[<-hr];exact q6⟩
theorem zqi{v:LI}(hD:zbY c v):zGF c v v 30/\(zcv c v).length<=24:=by
 obtain⟨l,d,h1,h2,h3⟩:=zzv hD;have h:=ztI hD h2 30 v l (zbv.self hD.len) h1 (by omega);refine⟨h,?_⟩;obtain⟨l2,-,h5,-⟩:=zaF.any (zbS hD.hC) h2 h1 h.plays.1;unfold zcv;omega
def Desc(L:LL):Prop:=L.Pairwise fun a b=>zaU b a<0
theorem Desc.nodup{L:LL}(h:Desc L):L.Nodup:=by
 refine List.Pairwise.imp ?_ h;intro a b eC e;subst e;rw[zgS] at eC;omega
theorem Desc.uniq{L M:LL}(h:Desc L)(h':Desc M)(e:∀x,x∈L↔x∈M):L=M:=by
 have h1:Asc L.reverse:=List.pairwise_reverse.2 h;have h2:Asc M.reverse:=List.pairwise_reverse.2 h';have:=Asc.uniq h1 h2 (by simpa using e);simpa using congrArg List.reverse this
def zfv(c:LL)(v:LI)(L:LL):Prop:=Desc L/\∀x,x∈L↔zbv c v x
theorem zfv.uniq{v:LI}{L M:LL}(h:zfv c v L)(h':zfv c v M):L=M:=h.1.uniq h'.1 fun x=>(h.2 x).trans (h'.2 x).symm
theorem zhB{Q L:LL}(hQ:Q.Nodup)(hL:L.Nodup)(h:∀x∈Q,x∈L):Q.length<=L.length:=by
 have hp:Q.Perm (L.filter fun x=>decide (x∈Q)):=by
  refine(List.perm_ext_iff_of_nodup hQ (hL.filter _)).2 fun x=>?_
  simp only[List.mem_filter,decide_eq_true_eq];exact⟨fun hx=>⟨h x hx,hx⟩,fun hx=>hx.2⟩
 rw[hp.length_eq];exact List.length_filter_le _ _
def zlq(c:LL)(v:LI):Prop:=¬∃L,zfv c v L/\L.length<=200
theorem zKq{v:LI}{Q:LL}(hQ:Q.Nodup)(hP:∀x∈Q,zbv c v x)(hl:200<Q.length):zlq c v:=by
 rintro ⟨L,hL,h2⟩;have:=zhB hQ hL.1.nodup (fun x hx=>(hL.2 x).2 (hP x hx));omega
def zxR(c:LL)(v:LI)(M:LL)(b:Bool):Prop:=(zfv c v M/\M.length<=200/\b=true)∨(zlq c v/\M=[]/\b=false)
theorem zwZ(c:LL)(v:LI):∃M b,zxR c v M b:=by
 by_cases h:∃L,zfv c v L/\L.length<=200
 ·obtain⟨L,h1,h2⟩:=h;exact⟨L,true,.inl ⟨h1,h2,rfl⟩⟩
 ·exact⟨[],false,.inr ⟨h,rfl,rfl⟩⟩
structure QSt(c:LL)(v:LI)(down:Bool)(Q:LL)(k i:Nat):Prop where
 nodup:Q.Nodup
 orb:∀x∈Q,zbv c v x
 has:∃t,t∈Q/\zbv c v t/\(down=true->Dom c.length (Game.toV t))
 closed:∀t j,t<Q.length->j<c.length->(t<k∨t=k/\j<i)->(down=true->0<(Q.getD t []).getD j 0)->Proofs.YtlgcmaoimpgedaaGreatDoor.refl c j (Q.getD t [])∈Q
 le:k<=Q.length
section
variable {v:LI} {down:Bool} {Q:LL} {k i:Nat}
theorem QSt.start{t:LI}(ht:zbv c v t)(down:Bool)(hd:down=true->Dom c.length (Game.toV t)):QSt c v down [t] 0 0:=
 ⟨by simp,by intro x hx;rw[List.mem_singleton] at hx;subst hx;exact ht,⟨t,by simp,ht,hd⟩,fun t j _ _ h=>by omega,by simp⟩
theorem QSt.skip(h:QSt c v down Q k i)(hs:(down=true->0<(Q.getD k []).getD i 0)->Proofs.YtlgcmaoimpgedaaGreatDoor.refl c i (Q.getD k [])∈Q):QSt c v down Q k (i+1):=by
 refine⟨h.nodup,h.orb,h.has,fun t j ht hj hc hd=>?_,h.le⟩;by_cases e:t=k/\j=i
 ·obtain⟨rfl,rfl⟩:=e;exact hs hd
 ·exact h.closed t j ht hj (by omega) hd
theorem ztJ{Q:LL}{y:LI}{t:Nat}(ht:t<Q.length):(Q++[y]).getD t []=Q.getD t []:=by simp[List.getD,List.getElem?_append_left ht]
theorem QSt.row(h:QSt c v down Q k i)(hk:k<Q.length):zbv c v (Q.getD k []):=h.orb _ (by simp[List.getD,hk])
theorem QSt.add(h:QSt c v down Q k i)(hD:zbY c v)(hk:k<Q.length)(hi:i<c.length)(hn:Proofs.YtlgcmaoimpgedaaGreatDoor.refl c i (Q.getD k []) ∉ Q):QSt c v down (Q++[Proofs.YtlgcmaoimpgedaaGreatDoor.refl c i (Q.getD k [])]) k (i+1):=by
 refine⟨?_,?_,by obtain⟨t,h1,h2⟩:=h.has;exact⟨t,List.mem_append_left _ h1,h2⟩,fun t j ht hj hc hd=>?_,by rw[qA];omega⟩
 ·rw[List.nodup_append];exact⟨h.nodup,by simp,by intro a ha b hb e;rw[List.mem_singleton] at hb;subst hb;subst e;exact hn ha⟩
 ·intro x hx
  rcases List.mem_append.1 hx with h1|h1
  ·exact h.orb x h1
  ·rw[List.mem_singleton] at h1;subst h1;exact(h.row hk).refl hD hi
 ·have kS:t<Q.length:=by omega
  rw[ztJ kS] at hd ⊢;by_cases e:t=k/\j=i
  ·obtain⟨rfl,rfl⟩:=e;exact List.mem_append_right _ (by simp)
  ·exact List.mem_append_left _ (h.closed t j kS hj (by omega) hd)
theorem QSt.next(h:QSt c v down Q k c.length)(hk:k<Q.length):QSt c v down Q (k+1) 0:=
 ⟨h.nodup,h.orb,h.has,fun t j ht hj hc hd=>h.closed t j ht hj (by omega) hd,hk⟩
theorem QSt.all(h:QSt c v down Q Q.length 0)(hD:zbY c v):∀x,x∈Q↔zbv c v x:=by
 have hg:∀x∈Q,∀i,i<c.length->(down=true->0<x.getD i 0)->Proofs.YtlgcmaoimpgedaaGreatDoor.refl c i x∈Q:=by
  intro x hx i hi hd;obtain⟨t,ht,rfl⟩:=List.mem_iff_getElem.1 hx;have e:Q.getD t []=Q[t]:=by simp[List.getD,ht]
  have:=h.closed t i ht hi (.inl ht);rw[e] at this;exact this hd
 intro x;refine⟨h.orb x,fun hx=>?_⟩;obtain⟨t,t1,t2,t3⟩:=h.has
 cases down with
 |false=>exact zxQ hD t2 t1 (fun x hx i hi=>hg x hx i hi (by simp)) hx
 |true=>exact zvU hD t2 (t3 rfl) t1 (fun x hx i hi hp=>hg x hx i hi (fun _=>hp)) hx
theorem QSt.big(h:QSt c v down Q k i)(hl:200<Q.length):zlq c v:=zKq h.nodup h.orb hl
theorem QSt.big'(h:QSt c v down Q k i)(hD:zbY c v)(hk:k<Q.length)(hi:i<c.length)(hn:Proofs.YtlgcmaoimpgedaaGreatDoor.refl c i (Q.getD k []) ∉ Q)(hl:200<=Q.length):zlq c v:=
 (h.add hD hk hi hn).big (by rw[qA];simp;omega)
end
def zcD:LL->LI->LL
 |[],v=>[v]
 |x::l,v=>if x=v then x::l else if 0<zaU v x then v::x::l else x::zcD l v
theorem zpd{x:LI}:∀{l:LL} {v:LI},x∈zcD l v↔x=v∨x∈l
 |[],v=>by simp[zcD]
 |y::l,v=>by
  unfold zcD;by_cases h1:y=v
  ·rw[if_pos h1];subst h1;simp
  ·rw[if_neg h1];by_cases h2:0<zaU v y
   ·rw[if_pos h2];simp
   ·rw[if_neg h2,List.mem_cons,zpd (l:=l),List.mem_cons];constructor
    ·rintro (h|h|h)
     ·exact .inr (.inl h)
     ·exact .inl h
     ·exact .inr (.inr h)
    ·rintro (h|h|h)
     ·exact .inr (.inl h)
     ·exact .inl h
     ·exact .inr (.inr h)
theorem zrL:∀{l:LL} {v:LI},Desc l->Desc (zcD l v)
 |[],v,_=>List.pairwise_singleton _ _
 |y::l,v,h=>by
  have h0:=List.pairwise_cons.1 h;unfold zcD;by_cases h1:y=v
  ·rw[if_pos h1];exact h
  ·rw[if_neg h1];have ha:=zjf v y;by_cases h2:0<zaU v y
   ·rw[if_pos h2];refine List.pairwise_cons.2 ⟨fun z hz=>?_,h⟩
    rcases List.mem_cons.1 hz with rfl|hz
    ·omega
    ·exact zme (h0.1 z hz) (by omega)
   ·rw[if_neg h2];refine List.pairwise_cons.2 ⟨fun z hz=>?_,zrL h0.2⟩
    rcases zpd.1 hz with rfl|hz
    ·rcases Int.lt_trichotomy (zaU z y) 0 with g|g|g
     ·exact g
     ·exact absurd (zmP g).symm h1
     ·omega
    ·exact h0.1 z hz
def zdp(L:LL):LL:=L.foldl zcD []
theorem zeq:∀(L a:LL),Desc a->Desc (L.foldl zcD a)/\∀x,x∈L.foldl zcD a↔x∈L∨x∈a
 |[],a,h=>⟨h,by simp⟩
 |y::L,a,h=>by
  obtain⟨h1,h2⟩:=zeq L (zcD a y) (zrL h);refine⟨h1,fun x=>?_⟩;rw[List.foldl_cons,h2 x,zpd,List.mem_cons];constructor
  ·rintro (h|h|h)
   ·exact .inl (.inr h)
   ·exact .inl (.inl h)
   ·exact .inr h
  ·rintro ((h|h)|h)
   ·exact .inr (.inl h)
   ·exact .inl h
   ·exact .inr (.inr h)
theorem zqj{L:LL}{k:Nat}(hk:k<L.length):zdp (L.take (k+1))=zcD (zdp (L.take k)) (L.getD k []):=by
 have e:L.getD k []=L[k]:=by simp[List.getD,hk]
 unfold zdp;rw[e,qT hk,List.foldl_append];rfl
theorem zzw{v:LI}{L:LL}(h:∀x,x∈L↔zbv c v x):zfv c v (zdp L):=
 ⟨(zeq L [] List.Pairwise.nil).1,fun x=>by rw[<-h x];have:=(zeq L [] List.Pairwise.nil).2 x;simpa [zdp] using this⟩
theorem zkn(l:LL)(v:LI):(zcD l v).length<=l.length+1:=by
 induction l with
 |nil=>simp[zcD]
 |cons y l ih=>
  unfold zcD
  split
  ·simp
  ·split
   ·simp
   ·simp;exact ih
end Game
end
section
open Go.RowKit
namespace Game
variable {nx:LI->Nat->Option LI} {n:Nat}
def Rch(nx:LI->Nat->Option LI)(n:Nat)(v x:LI):Prop:=
 ∀S:LI->Prop,S v->(∀y t z,S y->t<n->nx y t=some z->S z)->S x
theorem Rch.self(v:LI):Rch nx n v v:=fun _ h _=>h
theorem Rch.step{v y z:LI}{t:Nat}(h:Rch nx n v y)(ht:t<n)(e:nx y t=some z):Rch nx n v z:=fun S h0 hs=>hs y t z (h S h0 hs) ht e
def zer(nx:LI->Nat->Option LI)(n:Nat)(v:LI)(L:LL):Prop:=Desc L/\∀x,x∈L↔Rch nx n v x
theorem zer.uniq{v:LI}{L M:LL}(h:zer nx n v L)(h':zer nx n v M):L=M:=h.1.uniq h'.1 fun x=>(h.2 x).trans (h'.2 x).symm
def zlr(nx:LI->Nat->Option LI)(n:Nat)(v:LI):Prop:=¬∃L,zer nx n v L/\L.length<=200
theorem zKr{v:LI}{Q:LL}(hQ:Q.Nodup)(hP:∀x∈Q,Rch nx n v x)(hl:200<Q.length):zlr nx n v:=by
 rintro ⟨L,hL,h2⟩;have:=zhB hQ hL.1.nodup (fun x hx=>(hL.2 x).2 (hP x hx));omega
def zxS(nx:LI->Nat->Option LI)(n:Nat)(v:LI)(M:LL)(b:Bool):Prop:=
 (zer nx n v M/\M.length<=200/\b=true)∨(zlr nx n v/\M=[]/\b=false)
theorem znP(nx:LI->Nat->Option LI)(n:Nat)(v:LI):∃M b,zxS nx n v M b:=by
 by_cases h:∃L,zer nx n v L/\L.length<=200
 ·obtain⟨L,h1,h2⟩:=h;exact⟨L,true,.inl ⟨h1,h2,rfl⟩⟩
 ·exact⟨[],false,.inr ⟨h,rfl,rfl⟩⟩
structure BSt(nx:LI->Nat->Option LI)(n:Nat)(v:LI)(Q:LL)(k i:Nat):Prop where
 nodup:Q.Nodup
 orb:∀x∈Q,Rch nx n v x
 has:v∈Q
 closed:∀t j y,t<Q.length->j<n->(t<k∨t=k/\j<i)->nx (Q.getD t []) j=some y->y∈Q
 le:k<=Q.length
section
variable {v:LI} {Q:LL} {k i:Nat}
theorem BSt.start(nx:LI->Nat->Option LI)(n:Nat)(v:LI):BSt nx n v [v] 0 0:=
 ⟨by simp,by intro x hx;rw[List.mem_singleton] at hx;subst hx;exact Rch.self x,by simp,fun t j _ _ _ h=>by omega,by simp⟩
theorem BSt.skip(h:BSt nx n v Q k i)(hs:∀y,nx (Q.getD k []) i=some y->y∈Q):BSt nx n v Q k (i+1):=by
 refine⟨h.nodup,h.orb,h.has,fun t j y ht hj hc hd=>?_,h.le⟩;by_cases e:t=k/\j=i
 ·obtain⟨rfl,rfl⟩:=e;exact hs y hd
 ·exact h.closed t j y ht hj (by omega) hd
theorem BSt.row(h:BSt nx n v Q k i)(hk:k<Q.length):Rch nx n v (Q.getD k []):=h.orb _ (by simp[List.getD,hk])
theorem BSt.add(h:BSt nx n v Q k i)(hk:k<Q.length)(hi:i<n){z:LI}(e0:nx (Q.getD k []) i=some z)(hn:z ∉ Q):BSt nx n v (Q++[z]) k (i+1):=by
 refine⟨?_,?_,List.mem_append_left _ h.has,fun t j y ht hj hc hd=>?_,by rw[qA];omega⟩
 ·rw[List.nodup_append];exact⟨h.nodup,by simp,by intro a ha b hb e;rw[List.mem_singleton] at hb;subst hb;subst e;exact hn ha⟩
 ·intro x hx
  rcases List.mem_append.1 hx with h1|h1
  ·exact h.orb x h1
  ·rw[List.mem_singleton] at h1;subst h1;exact(h.row hk).step hi e0
 ·have kS:t<Q.length:=by have:=h.le;omega
  rw[ztJ kS] at hd;by_cases e:t=k/\j=i
  ·obtain⟨rfl,rfl⟩:=e;rw[e0] at hd
   cases hd
   exact List.mem_append_right _ (by simp)
  ·exact List.mem_append_left _ (h.closed t j y kS hj (by omega) hd)
theorem BSt.next(h:BSt nx n v Q k n)(hk:k<Q.length):BSt nx n v Q (k+1) 0:=
 ⟨h.nodup,h.orb,h.has,fun t j y ht hj hc hd=>h.closed t j y ht hj (by omega) hd,hk⟩
theorem BSt.all(h:BSt nx n v Q Q.length 0):∀x,x∈Q↔Rch nx n v x:=by
 intro x;refine⟨h.orb x,fun hx=>hx (·∈Q) h.has fun y t z hy ht e=>?_⟩;obtain⟨j,hj,rfl⟩:=List.mem_iff_getElem.1 hy;have e2:Q.getD j []=Q[j]:=by simp[List.getD,hj]
 exact h.closed j t z hj ht (.inl hj) (by rw[e2];exact e)
theorem BSt.big(h:BSt nx n v Q k i)(hl:200<Q.length):zlr nx n v:=zKr h.nodup h.orb hl
theorem BSt.big'(h:BSt nx n v Q k i)(hk:k<Q.length)(hi:i<n){z:LI}(e0:nx (Q.getD k []) i=some z)(hn:z ∉ Q)(hl:200<=Q.length):zlr nx n v:=
 (h.add hk hi e0 hn).big (by rw[qA];simp;omega)
theorem zzx{L:LL}(h:∀x,x∈L↔Rch nx n v x):zer nx n v (zdp L):=
 ⟨(zeq L [] List.Pairwise.nil).1,fun x=>by rw[<-h x];have:=(zeq L [] List.Pairwise.nil).2 x;simpa [zdp] using this⟩
end
end Game
end
section
open Go.RowKit Game
def sg(n:Nat)(f:Nat->Int):Int:=((List.range n).map f).sum
theorem zHa(f:Nat->Int):sg 0 f=0:=rfl
theorem zch(n:Nat)(f:Nat->Int):sg (n+1) f=sg n f+f n:=by unfold sg;rw[List.range_succ,List.map_append,List.sum_append];simp
theorem zcw{n:Nat}{f g:Nat->Int}(h:∀k,k<n->f k=g k):sg n f=sg n g:=by
 induction n with
 |zero=>rfl
 |succ n ih=>rw[zch,zch,ih fun k hk=>h k (by omega),h n (by omega)]
theorem ztK(n:Nat)(f g:Nat->Int):(sg n fun k=>f k+g k)=sg n f+sg n g:=by
 induction n with
 |zero=>rfl
 |succ n ih=>rw[zch,zch,zch,ih];omega
theorem zJl(n:Nat)(f g:Nat->Int):(sg n fun k=>f k-g k)=sg n f-sg n g:=by
 induction n with
 |zero=>rfl
 |succ n ih=>rw[zch,zch,zch,ih];omega
theorem zmU(n:Nat)(a:Int)(f:Nat->Int):(sg n fun k=>a*f k)=a*sg n f:=by
 induction n with
 |zero=>simp[sg]
 |succ n ih=>rw[zch,zch,ih,Int.mul_add]
theorem znQ(n:Nat)(a:Int)(f:Nat->Int):(sg n fun k=>f k*a)=sg n f*a:=by
 rw[Int.mul_comm,<-zmU];exact zcw fun k _=>Int.mul_comm _ _
theorem zhC(n:Nat):(sg n fun _=>0)=0:=by
 induction n with
 |zero=>rfl
 |succ n ih=>rw[zch,ih];rfl
theorem zHb(n m:Nat)(f:Nat->Nat->Int):(sg n fun k=>sg m fun i=>f k i)=sg m fun i=>sg n fun k=>f k i:=by
 induction n with
 |zero=>
  rw[zHa];have:(sg m fun i=>sg 0 fun k=>f k i)=sg m fun _=>0:=zcw fun _ _=>rfl
  rw[this,zhC]
 |succ n ih=>
  rw[zch,ih,<-ztK];exact zcw fun i _=>(zch n _).symm
theorem ztc{n:Nat}{f g:Nat->Int}(h:∀k,k<n->f k<=g k):sg n f<=sg n g:=by
 induction n with
 |zero=>simp[sg]
 |succ n ih=>
  rw[zch,zch];have h1:=ih fun k hk=>h k (by omega)
  have h2:=h n (by omega);omega
theorem zjO{n:Nat}{f:Nat->Int}(h:∀k,k<n->0<=f k):0<=sg n f:=by
 have:=ztc (f:=fun _=>0) h
 rwa [zhC] at this
theorem zjP{n:Nat}{f:Nat->Int}(h:∀k,k<n->0<=f k){i:Nat}(hi:i<n):f i<=sg n f:=by
 induction n with
 |zero=>omega
 |succ n ih=>
  rw[zch];have h0:=zjO (f:=f) fun k hk=>h k (Nat.lt_succ_of_lt hk)
  have h1:=h n (by omega);by_cases e:i=n
  ·subst e;omega
  ·have:=ih (fun k hk=>h k (by omega)) (by omega);omega
theorem ztL{n i:Nat}(hi:i<n)(D:Int)(q:Nat->Int):(sg n fun k=>(if k=i then D else 0)*q k)=D*q i:=by
 induction n with
 |zero=>omega
 |succ n ih=>
  rw[zch];by_cases e:n=i
  ·subst e;have:(sg n fun k=>(if k=n then D else 0)*q k)=sg n fun _=>0:=zcw fun k hk=>by rw[if_neg (by omega),Int.zero_mul]
   rw[this,zhC,if_pos rfl];omega
  ·rw[ih (by omega),if_neg e];omega
structure Adj(c B:LL)(D:Int):Prop where
 pos:0<D/\D<=20
 mul:∀j i,j<c.length->i<c.length->(sg c.length fun k=>(B.getD j []).getD k 0*ent c k i)=if i=j then D else 0
 nn:∀j k,j<c.length->0<=(B.getD j []).getD k 0
 diag:∀j,j<c.length->1<=(B.getD j []).getD j 0
 sum:∀j,j<c.length->4*(sg c.length fun k=>(B.getD j []).getD k 0)<=200
 sum2:∀j,j<c.length->4*(sg c.length fun k=>(B.getD j []).getD k 0)<=22*(B.getD j []).getD j 0
theorem znR:∀(l:LI),(sg l.length fun k=>l.getD k 0)=l.sum
 |[]=>rfl
 |x::l=>by
  unfold sg;rw[List.length_cons,List.range_succ_eq_map,List.map_cons,List.map_map,List.sum_cons,List.sum_cons];have:=znR l;unfold sg at this;rw[<-this];congr 2
theorem zJm{c B:LL}{D:Int}(h:zBF c B D=true):Adj c B D:=by
 unfold zBF at h;rw[Bool.and_eq_true,Bool.and_eq_true] at h;obtain⟨⟨h1,h2⟩,h3⟩:=h;have h4:∀j,j<c.length->_:=fun j hj=>List.all_eq_true.1 h3 j (List.mem_range.2 hj)
 simp only[Bool.and_eq_true] at h4;refine⟨⟨of_decide_eq_true h1,of_decide_eq_true h2⟩,fun j i hj hi=>?_,fun j k hj=>?_,fun j hj=>?_,fun j hj=>?_,fun j hj=>?_⟩
 ·have:=of_decide_eq_true (List.all_eq_true.1 (h4 j hj).1.1.1.1.1 i (List.mem_range.2 hi));exact this
 ·have h5:=(h4 j hj).1.1.1.1.2;generalize B.getD j []=r at h5 ⊢;by_cases hk:k<r.length
  ·have h6:=of_decide_eq_true (List.all_eq_true.1 h5 _ (List.getElem_mem hk));simp only[List.getD,List.getElem?_eq_getElem hk,Option.getD_some];exact h6
  ·simp only[List.getD,List.getElem?_eq_none (Nat.not_lt.1 hk),Option.getD_none];exact Int.le_refl _
 ·exact of_decide_eq_true (h4 j hj).1.1.1.2
 ·have e:=of_decide_eq_true (h4 j hj).1.1.2;have h5:=of_decide_eq_true (h4 j hj).1.2;rw[<-e,znR];exact h5
 ·have e:=of_decide_eq_true (h4 j hj).1.1.2;have h5:=of_decide_eq_true (h4 j hj).2;have e2:=znR (B.getD j []);rw[e] at e2;rw[e2];exact h5
theorem zfT{c:LL}(hC:IsC c)(hf:zaN c=true):Adj c (zdA c) (det c.length c):=zJm (zGN hC hf)
def zge(c:LL)(v x q:Nat->Int):Prop:=(∀i,i<c.length->0<=q i)/\∀k,k<c.length->v k-x k=sg c.length fun i=>ent c k i*q i
def Low(c:LL)(v x:Nat->Int):Prop:=∃q,zge c v x q
theorem Low.self(c:LL)(v:Nat->Int):Low c v v:=⟨fun _=>0,fun _ _=>Int.le_refl 0,fun k _=>by
 have:(sg c.length fun i=>ent c k i*(0:Int))=sg c.length fun _=>0:=zcw fun i _=>Int.mul_zero _
 rw[this,zhC];omega⟩
theorem zge.trans{c:LL}{v x y q p:Nat->Int}(h:zge c v x q)(h':zge c x y p):zge c v y fun i=>q i+p i:=
 ⟨fun i hi=>by have h1:=h.1 i hi;have h2:=h'.1 i hi;show 0<=q i+p i;omega,fun k hk=>by
  have e:(sg c.length fun i=>ent c k i*(q i+p i))=sg c.length fun i=>ent c k i*q i+ent c k i*p i:=zcw fun i _=>Int.mul_add _ _ _
  rw[e,ztK,<-h.2 k hk,<-h'.2 k hk];omega⟩
theorem Low.trans{c:LL}{v x y:Nat->Int}(h:Low c v x)(h':Low c x y):Low c v y:=by
 obtain⟨q,h⟩:=h;obtain⟨p,h'⟩:=h';exact⟨_,h.trans h'⟩
section
variable {c B:LL} {D:Int} (hB:Adj c B D)
include hB
theorem zge.dot{v x q:Nat->Int}(h:zge c v x q){j:Nat}(hj:j<c.length):(sg c.length fun k=>(B.getD j []).getD k 0*v k)-(sg c.length fun k=>(B.getD j []).getD k 0*x k)=D*q j:=by
 rw[<-zJl]
 have e:(sg c.length fun k=>(B.getD j []).getD k 0*v k-(B.getD j []).getD k 0*x k)=sg c.length fun k=>sg c.length fun i=>(B.getD j []).getD k 0*ent c k i*q i:=zcw fun k hk=>by
  rw[<-Int.mul_sub,h.2 k hk,<-zmU];exact zcw fun i _=>(Int.mul_assoc _ _ _).symm
 rw[e,zHb]
 have e2:(sg c.length fun i=>sg c.length fun k=>(B.getD j []).getD k 0*ent c k i*q i)=sg c.length fun i=>(if i=j then D else 0)*q i:=zcw fun i hi=>by
  rw[znQ,hB.mul j i hj hi]
 rw[e2,ztL hj]
theorem zge.uniq{v x q p:Nat->Int}(h:zge c v x q)(h':zge c v x p){j:Nat}(hj:j<c.length):q j=p j:=by
 have h1:=h.dot hB hj;have h2:=h'.dot hB hj;have:D*q j=D*p j:=by omega
 exact Int.eq_of_mul_eq_mul_left (by have:=hB.pos;omega) this
theorem zzy{v:Nat->Int}(hv:∀k,k<c.length->v k<=4){j:Nat}(hj:j<c.length):(sg c.length fun k=>(B.getD j []).getD k 0*v k)<=200:=by
 refine Int.le_trans (ztc (g:=fun k=>(B.getD j []).getD k 0*4) fun k hk=>Int.mul_le_mul_of_nonneg_left (hv k hk) (hB.nn j k hj)) ?_;rw[znQ];have:=hB.sum j hj;omega
theorem zxT{v:Nat->Int}(hv:∀k,k<c.length->v k<=4){j:Nat}(hj:j<c.length):(sg c.length fun k=>(B.getD j []).getD k 0*v k)<=22*(B.getD j []).getD j 0:=by
 refine Int.le_trans (ztc (g:=fun k=>(B.getD j []).getD k 0*4) fun k hk=>Int.mul_le_mul_of_nonneg_left (hv k hk) (hB.nn j k hj)) ?_;rw[znQ];have:=hB.sum2 j hj;omega
theorem Low.le{v x:Nat->Int}(h:Low c v x)(hv:∀k,k<c.length->v k<=4)(hx:∀k,k<c.length->0<=x k){j:Nat}(hj:j<c.length):x j<=22:=by
 obtain⟨q,h⟩:=h;have h1:=h.dot hB hj;have h2:=zxT hB hv hj;have h3:=Int.mul_nonneg (Int.le_of_lt hB.pos.1) (h.1 j hj);have h4:=zjP (f:=fun k=>(B.getD j []).getD k 0*x k) (fun k hk=>Int.mul_nonneg (hB.nn j k hj) (hx k hk)) hj;have h5:(B.getD j []).getD j 0*x j<=(B.getD j []).getD j 0*22:=by omega
 exact Int.le_of_mul_le_mul_left h5 (by have:=hB.diag j hj;omega)
theorem zge.le{v x q:Nat->Int}(h:zge c v x q)(hv:∀k,k<c.length->v k<=4)(hx:∀k,k<c.length->0<=x k){j:Nat}(hj:j<c.length):D*q j<=(sg c.length fun k=>(B.getD j []).getD k 0*4)/\q j<=200:=by
 have h1:=h.dot hB hj;have h2:=zzy hB hv hj;have h4:0<=sg c.length fun k=>(B.getD j []).getD k 0*x k:=zjO fun k hk=>Int.mul_nonneg (hB.nn j k hj) (hx k hk)
 have h6:(sg c.length fun k=>(B.getD j []).getD k 0*v k)<=sg c.length fun k=>(B.getD j []).getD k 0*4:=ztc fun k hk=>Int.mul_le_mul_of_nonneg_left (hv k hk) (hB.nn j k hj)
 have h3:1*q j<=D*q j:=Int.mul_le_mul_of_nonneg_right (by have:=hB.pos;omega) (h.1 j hj);exact⟨by omega,by omega⟩
end
end
section
open Go.RowKit Game
namespace Game
variable {c:LL}
def hgt(c B:LL)(y:Vec):Int:=sg c.length fun j=>sg c.length fun k=>(B.getD j []).getD k 0*y k
end Game
structure zKs(c:LL)(x:LI):Prop where
 len:(zbd c x).length=c.length
 dom:Dom c.length (toV (zbd c x))
 few:(zcv c x).length<=24
 play:zaF (ent c) c.length (zcv c x) (toV x) (toV (zbd c x))
theorem zjh{c:LL}(hC:IsC c)(hf:zaN c=true){x:LI}(hl:x.length=c.length)(h:∀k,k<c.length→-1000<=x.getD k 0/\x.getD k 0<=1000):zKs c x:=by
 have hD:zbY c x:=⟨hC,hf,hl,fun j hj=>h j (by omega)⟩;obtain⟨h1,h2⟩:=zqi hD;exact⟨h1.end_.1,fun j hj=>h1.dom j hj,h2,h1.plays⟩
end
section
open Go.RowKit Game
theorem zrM{c:LL}{P:LI->Prop}(hs:∀r i,P r->zed (zbk c i r)=true->P (zbk c i r)){Q:LL}(hQ:∀x∈Q,P x){k:Nat}(hk:k<Q.length):∀i,∀x∈upRow c Q k i,P x
 |0,x,hx=>hQ x hx
 |i+1,x,hx=>by
  have ih:=zrM hs hQ hk i
  rcases zlm (show x∈zdt c (upRow c Q k i) k i from hx) with h|⟨rfl,h,-⟩
  ·exact ih x h
  ·have hl:k<(upRow c Q k i).length:=qL hk (zig i);refine hs _ _ (ih _ ?_) h;simp[List.getD,hl]
theorem ztM{c:LL}{P:LI->Prop}(hs:∀r i,P r->zed (zbk c i r)=true->P (zbk c i r)):∀(f k:Nat) (Q:LL),(∀x∈Q,P x)->∀x∈upGo c f k Q,P x
 |0,_,_,hQ,x,hx=>hQ x hx
 |f+1,k,Q,hQ,x,hx=>by
  unfold upGo at hx
  split at hx
  ·rename_i hk
   exact ztM hs f (k+1) _ (zrM hs hQ hk _) x hx
  ·exact hQ x hx
theorem zDl{c:LL}{P:LI->Prop}(h0:∀i,i<c.length->P (zbn c.length i))(hs:∀r i,P r->zed (zbk c i r)=true->P (zbk c i r)):∀x∈zaq c,P x:=
 ztM hs _ _ _ fun x hx=>by
  obtain⟨j,hj,rfl⟩:=(zgk _).1 hx;exact h0 j hj
theorem zji{c:LL}:∀r∈zaq c,r.length=c.length/\∃i,i<c.length/\1<=r.getD i 0:=by
 refine zDl (P:=fun r=>r.length=c.length/\∃i,i<c.length/\1<=r.getD i 0) (fun i hi=>⟨zds _ _,i,hi,?_⟩) fun r i h hp=>?_
 ·simp[zbn,List.getD,hi]
 ·have hl:(zbk c i r).length=c.length:=by rw[zdL];exact h.1
  refine⟨hl,?_⟩;unfold zed at hp;rw[Bool.and_eq_true] at hp;obtain⟨x,hx,kh⟩:=List.any_eq_true.1 hp.1;obtain⟨j,hj,rfl⟩:=List.mem_iff_getElem.1 hx;have:=of_decide_eq_true kh;exact⟨j,by omega,by simp[List.getD,hj];omega⟩
def wtR(c:LL)(r:LI):LI:=(List.range c.length).map fun k=>zfu (c.getD k []) r
theorem zgT(c:LL)(r:LI):(wtR c r).length=c.length:=by simp[wtR]
theorem zDm{c:LL}{r:LI}{k:Nat}(hk:k<c.length):(wtR c r).getD k 0=zfu (c.getD k []) r:=by simp[wtR,List.getD,hk]
def ztN(n:Nat)(r:LI):Prop:=r.length=n/\∀i,i<n->0<=r.getD i 0/\r.getD i 0<=12
theorem zrN{c:LL}(hC:IsC c){r:LI}(hr:ztN c.length r){k:Nat}(hk:k<c.length):∀m,m<=c.length->zdG (c.getD k []) r m=sg m (fun i=>ent c k i*r.getD i 0)∧-(36*(m:Int))<=sg m (fun i=>ent c k i*r.getD i 0)/\sg m (fun i=>ent c k i*r.getD i 0)<=36*m
 |0,_=>⟨rfl,by simp[sg],by simp[sg]⟩
 |m+1,hm=>by
  obtain⟨h1,h2,h3⟩:=zrN hC hr hk m (by omega);have h4:=hr.2 m (by omega);have h5:=(zbS hC).small hk (show m<c.length by omega)
  have h6:-36<=ent c k m*r.getD m 0/\ent c k m*r.getD m 0<=36:=by
   have a1:-3*r.getD m 0<=ent c k m*r.getD m 0:=Int.mul_le_mul_of_nonneg_right h5.1 h4.1;have a2:ent c k m*r.getD m 0<=3*r.getD m 0:=Int.mul_le_mul_of_nonneg_right h5.2 h4.1;constructor <;> omega
  have hn:=hC.2.1;rw[zch];generalize (sg m fun i=>ent c k i*r.getD i 0)=S at*;have e:(c.getD k []).getD m 0*r.getD m 0=ent c k m*r.getD m 0:=rfl;refine⟨?_,by omega,by omega⟩;show wrap64 (zdG (c.getD k []) r m+wrap64 ((c.getD k []).getD m 0*r.getD m 0))=_;rw[e,h1];generalize ent c k m*r.getD m 0=y at*;rw[IntWalk.wrap64_in y ⟨by omega,by omega⟩];exact IntWalk.wrap64_in _ ⟨by omega,by omega⟩
theorem ztO{c:LL}(hC:IsC c){r:LI}(hr:ztN c.length r){k:Nat}(hk:k<c.length):(wtR c r).getD k 0=(sg c.length fun i=>ent c k i*r.getD i 0)∧-144<=(wtR c r).getD k 0/\(wtR c r).getD k 0<=144:=by
 obtain⟨h1,h2,h3⟩:=zrN hC hr hk c.length (qr _)
 have e:(wtR c r).getD k 0=sg c.length fun i=>ent c k i*r.getD i 0:=by
  rw[zDm hk,<-h1,zfu,hr.1]
 have hn:=hC.2.1;exact⟨e,by omega,by omega⟩
theorem zkI{c:LL}(hP:zbI c){r:LI}(hr:r∈zaq c):ztN c.length r:=by
 have hl:=(zji r hr).1;refine⟨hl,fun i hi=>?_⟩;have h2:=hP.small r hr (r.getD i 0) (by rw[List.getD_eq_getElem?_getD,List.getElem?_eq_getElem (by omega)];exact List.getElem_mem _);exact h2
def zcN(x p:LI):LI:=(List.range x.length).map fun j=>wrap64 (x.getD j 0-p.getD j 0)
theorem zko(x p:LI):(zcN x p).length=x.length:=by simp[zcN]
theorem zrO{x p:LI}{j:Nat}(hj:j<x.length):(zcN x p).getD j 0=wrap64 (x.getD j 0-p.getD j 0):=by simp[zcN,List.getD,hj]
def nxD(c:LL)(x:LI)(t:Nat):Option LI:=
 if(zaG (zcN x (wtR c ((zaq c).getD t [])))).isNone=true then some (zcN x (wtR c ((zaq c).getD t []))) else none
theorem zDn{c:LL}{x z:LI}{t:Nat}(h:nxD c x t=some z):z=zcN x (wtR c ((zaq c).getD t []))/\(zaG z).isNone=true:=by
 unfold nxD at h
 split at h
 ·rename_i h2
  cases h
  exact⟨rfl,h2⟩
 ·cases h
structure zbi(c:LL)(v:LI):Prop where
 hC:IsC c
 fin:zaN c=true
 len:v.length=c.length
 small:∀j,j<c.length->0<=v.getD j 0/\v.getD j 0<=4
structure zbw(c:LL)(v x:LI):Prop where
 len:x.length=c.length
 box:∀j,j<c.length->0<=x.getD j 0/\x.getD j 0<=22
 low:Low c (toV v) (toV x)
theorem zbw.self{c:LL}{v:LI}(h:zbi c v):zbw c v v:=⟨h.len,fun j hj=>by have:=h.small j hj;omega,Low.self c _⟩
theorem zbw.domW{c:LL}{v x:LI}(h:zbi c v)(hx:zbw c v x):zbY c x:=
 ⟨h.hC,h.fin,hx.len,fun j hj=>by have:=hx.box j (by rw[<-hx.len];exact hj);omega⟩
theorem zbw.dom{c:LL}{v x:LI}(hx:zbw c v x):Dom c.length (toV x):=fun j hj=>(hx.box j hj).1
theorem zDo{c:LL}(hC:IsC c){x r:LI}(hr:ztN c.length r)(hx:x.length=c.length)(hb:∀j,j<c.length->0<=x.getD j 0/\x.getD j 0<=22):Low c (toV x) (toV (zcN x (wtR c r))):=by
 refine⟨fun i=>r.getD i 0,fun i hi=>(hr.2 i hi).1,fun k hk=>?_⟩;obtain⟨h1,h2,h3⟩:=ztO hC hr hk;have h4:=hb k hk;show x.getD k 0-(zcN x (wtR c r)).getD k 0=_;rw[zrO (by omega),IntWalk.wrap64_in _ ⟨by omega,by omega⟩,<-h1];omega
theorem zbw.step{c:LL}{v y z:LI}(h:zbi c v)(hP:zbI c)(hy:zbw c v y){t:Nat}(ht:t<(zaq c).length)(e:nxD c y t=some z):zbw c v z:=by
 obtain⟨rfl,hd⟩:=zDn e;have hm:(zaq c).getD t []∈zaq c:=by simp[List.getD,ht]
 have hr:=zkI hP hm;generalize (zaq c).getD t []=r at*;have hl:(zcN y (wtR c r)).length=c.length:=by rw[zko];exact hy.len
 have rF:=hy.low.trans (zDo h.hC hr hy.len hy.box)
 have h0:∀j,j<c.length->0<=(zcN y (wtR c r)).getD j 0:=fun j hj=>by
  have hf:zaG (zcN y (wtR c r))=none:=by
   cases hh:zaG (zcN y (wtR c r)) with
   |none=>rfl
   |some i=>rw[hh] at hd;exact absurd hd (by simp)
  exact zfg hf j (by rw[hl];exact hj)
 exact⟨hl,fun j hj=>⟨h0 j hj,rF.le (zfT h.hC h.fin) (fun k hk=>(h.small k hk).2) h0 hj⟩,rF⟩
theorem zbw.rch{c:LL}{v x:LI}(h:zbi c v)(hP:zbI c)(hx:Rch (nxD c) (zaq c).length v x):zbw c v x:=
 hx (zbw c v) (zbw.self h) fun _ _ _ hy ht e=>hy.step h hP ht e
end
end Go.Proofs.YtlgcmaoimpgedaaGreatDoor

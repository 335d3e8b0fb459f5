/- Ball Nf3 Opp -/
import Derived.Test.YtlgcmaoimpgedaaGreatDoorT07
import Derived.WalkSpells
set_option maxHeartbeats 4000000
set_option maxRecDepth 100000
set_option linter.unusedSimpArgs false
namespace Go.Proofs.YtlgcmaoimpgedaaGreatDoor
open Go.Value renaming slice->qS
section
open Go.RowKit
namespace Game
variable {c:LL}
abbrev imgL(c:LL)(w:List Nat):LI:=zct c (zae w) (zax c.length)
theorem zlo{a b:List Nat}(h:zae a=zae b):a=b:=by
 unfold zae at h;exact(List.map_inj_right (fun x y e=>by omega)).1 h
theorem zmd(a b:List Nat):zae (a++b)=zae a++zae b:=by simp[zae]
theorem zje.self{w W:List Nat}(h:zje c w W):zje c W W:=
 ⟨by rw[h.img];exact h.norm,by rw[<-h.act];exact h.plays,qr _,fun _=>rfl,h.lt,rfl⟩
theorem zje.uniq{w W w' W':List Nat}(h:zje c w W)(h':zje c w' W')(e:imgL c w=imgL c w'):W=W':=by
 have h1:=h.norm;have h2:=h'.norm;unfold imgL at e;rw[e,h2] at h1;exact(zlo (Option.some.inj h1)).symm
theorem zvP(hC:IsC c){w w':List Nat}(hw:∀i∈w,i<c.length)(ic:∀i∈w',i<c.length)(hl:w.length<=30)(jV:w'.length<=30)(h:∀u,act (ent c) w u=act (ent c) w' u):imgL c w=imgL c w':=by
 apply zgC
 ·unfold imgL;rw[zdo,zdo]
 ·unfold imgL;rw[zeZ hC hw hl,zeZ hC ic jV,h]
theorem zvQ(c:LL)(w:List Nat):(imgL c w).length=c.length:=by unfold imgL;rw[zdo];exact zmN _
theorem zrG(c:LL)(i:Nat)(w:List Nat):imgL c (i::w)=refl c i (imgL c w):=rfl
structure Elt(c:LL)(n:Nat)(W:List Nat):Prop where
 nf:zje c W W
 len:W.length=n
theorem Elt.zero(hC:IsC c):Elt c 0 []:=by
 obtain⟨W,h⟩:=zjL hC (w:=[]) (by simp) (by simp);have h0:W.length=0:=by have:=h.len;simpa using this
 have h1:W=[]:=List.length_eq_zero_iff.1 h0;subst h1;exact⟨h,rfl⟩
theorem Elt.ne{n:Nat}{W:List Nat}(h:Elt c n W){i:Nat}(hi:i<c.length):(imgL c W).getD i 0≠0:=zty h.nf.norm i (by rw[zvQ];exact hi)
theorem zxO(hC:IsC c){n:Nat}{X:List Nat}(hX:Elt c (n+1) X)(hn:n<=29):∃W i,Elt c n W/\i<c.length/\zje c (W++[i]) X:=by
 have ao:X≠[]:=by intro e;have:=hX.len;rw[e] at this;simp at this
 have jm:=List.dropLast_concat_getLast ao;generalize X.getLast ao=i at jm;generalize X.dropLast=P at jm;subst jm;have ac:=hX.nf.lt;have hP:∀j∈P,j<c.length:=fun j hj=>ac j (by simp[hj])
 have hi:i<c.length:=ac i (by simp);have rC:P.length=n:=by have:=hX.len;simpa using this
 obtain⟨W,hW⟩:=zjL hC hP (by omega);have wg:=hW.len
 have AT:∀j∈W++[i],j<c.length:=by
  intro j hj
  rcases List.mem_append.1 hj with h|h
  ·exact hW.lt j h
  ·simp at h;subst h;exact hi
 obtain⟨X',Ik⟩:=zjL hC AT (by simp;omega)
 have e:imgL c (W++[i])=imgL c (P++[i]):=
  zvP hC AT ac (by simp;omega) (by simp;omega) (fun u=>by rw[zfa,zfa];exact(hW.act _).symm)
 have e2:=Ik.uniq hX.nf e;subst e2;have hl:=Ik.len;have hx:=hX.len;simp at hl hx;exact⟨W,i,⟨hW.self,by omega⟩,hi,Ik⟩
theorem zzq(hC:IsC c){n:Nat}{W X:List Nat}(h:Elt c n W)(hn:n<=29){i:Nat}(hi:i<c.length)(aW:0<(imgL c W).getD i 0)(hX:zje c (i::W) X):X.length=n+1:=by
 have hA:=zbS hC
 have hp:zaF (ent c) c.length (i::W) (act (ent c) (i::W) (toV (zax c.length))) (toV (zax c.length)):=by
  refine zaF.cons.2 ⟨hi,?_,?_⟩
  ·have e:toV (imgL c W) i=act (ent c) W (toV (zax c.length)) i:=by unfold imgL;rw[zeZ hC h.nf.lt (by have:=h.len;omega)]
   have e2:toV (imgL c W) i=(imgL c W).getD i 0:=rfl;simp only[Game.act,Game.s,hA.two i hi];omega
  ·simp only[Game.act];rw[s_s hA hi];exact h.nf.plays
 have:=(zaF.unique hA (zgw _) hp hX.plays).1;simp[h.len] at this;exact this
theorem zzr(hC:IsC c){n:Nat}{X:List Nat}(hX:Elt c (n+1) X)(hn:n<=29):∃W i,Elt c n W/\i<c.length/\0<(imgL c W).getD i 0/\imgL c X=refl c i (imgL c W):=by
 have hA:=zbS hC
 match X,hX with
 |[],hX=>have:=hX.len;simp at this
 |i::P,hX=>
  have ac:=hX.nf.lt;have hP:∀j∈P,j<c.length:=fun j hj=>ac j (by simp[hj])
  have hi:i<c.length:=ac i (by simp);have rC:P.length=n:=by have:=hX.len;simpa using this
  have hp:=hX.nf.plays;obtain⟨_,dw,uD⟩:=zaF.cons.1 hp;simp only[Game.act] at dw uD;rw[s_s hA hi] at uD;obtain⟨W,hW⟩:=zjL hC hP (by omega);have hu:=(zaF.unique hA (zgw _) uD hW.plays).1;refine⟨W,i,⟨hW.self,by omega⟩,hi,?_,?_⟩
  ·have e:toV (imgL c P) i=act (ent c) P (toV (zax c.length)) i:=by unfold imgL;rw[zeZ hC hP (by omega)]
   have e2:imgL c W=imgL c P:=hW.img;have e3:toV (imgL c P) i=(imgL c P).getD i 0:=rfl;simp only[Game.s,hA.two i hi] at dw;rw[e2];omega
  ·rw[zrG];exact congrArg (refl c i) (show imgL c P=imgL c W from hW.img.symm)
theorem zoG:∀(a b:LI),zbK b a=- zbK a b
 |[],[]=>rfl
 |[],_::_=>rfl
 |_::_,[]=>rfl
 |x::a,y::b=>by
  simp only[zbK];by_cases h1:x<y
  ·rw[if_pos h1,if_neg (by omega),if_pos h1];rfl
  ·by_cases h2:y<x
   ·rw[if_pos h2,if_neg h1,if_pos h2]
   ·rw[if_neg h2,if_neg h1,if_neg h1,if_neg h2];exact zoG a b
theorem zmO:∀(a b d:LI),a.length=b.length->b.length=d.length->zbK a b<0->zbK b d<0->zbK a d<0
 |[],[],_,_,_,h,_=>by simp[zbK] at h
 |x::a,y::b,[],_,h,_,_=>by simp at h
 |x::a,y::b,z::d,hl,jV,h1,h2=>by
  have ih:=zmO a b d (by simpa using hl) (by simpa using jV);simp only[zbK] at*
  split at h1 <;> split at h2 <;> (try split at h1) <;> (try split at h2) <;> (try split) <;> (try split) <;> first|omega|(exact ih h1 h2)
theorem zgS(a:LI):zaU a a=0:=by have:=zlc a a;simpa using this
theorem zmP{a b:LI}(h:zaU a b=0):a=b:=by
 have h2:=zlc a b;rw[h] at h2;simpa using h2
theorem zjf(a b:LI):zaU b a=- zaU a b:=by
 unfold zaU;by_cases h1:a.length<b.length
 ·rw[if_pos h1,if_neg (by omega),if_pos h1];rfl
 ·by_cases h2:b.length<a.length
  ·rw[if_pos h2,if_neg h1,if_pos h2]
  ·rw[if_neg h2,if_neg h1,if_neg h1,if_neg h2];exact zoG a b
theorem zme{a b d:LI}(h1:zaU a b<0)(h2:zaU b d<0):zaU a d<0:=by
 have h3:=zmO a b d;unfold zaU at*
 split at h1
 ·split at h2
  ·rw[if_pos (by omega)];omega
  ·split at h2
   ·omega
   ·rw[if_pos (by omega)];omega
 ·split at h1
  ·omega
  ·split at h2
   ·rw[if_pos (by omega)];omega
   ·split at h2
    ·omega
    ·rw[if_neg (by omega),if_neg (by omega)];exact h3 (by omega) (by omega) h1 h2
def Asc(L:LL):Prop:=L.Pairwise fun a b=>zaU a b<0
theorem Asc.nodup{L:LL}(h:Asc L):L.Nodup:=by
 refine List.Pairwise.imp ?_ h;intro a b eC e;subst e;rw[zgS] at eC;omega
theorem Asc.uniq:∀{L M:LL},Asc L->Asc M->(∀x,x∈L↔x∈M)->L=M
 |[],[],_,_,_=>rfl
 |[],y::M,_,_,h=>by have:=(h y).2 (by simp);simp at this
 |x::L,[],_,_,h=>by have:=(h x).1 (by simp);simp at this
 |x::L,y::M,hL,hM,h=>by
  have tU:=List.pairwise_cons.1 hL;have uB:=List.pairwise_cons.1 hM
  have e:x=y:=by
   rcases List.mem_cons.1 ((h x).1 (by simp)) with e|e
   ·exact e
   ·rcases List.mem_cons.1 ((h y).2 (by simp)) with e2|e2
    ·exact e2.symm
    ·have h1:=uB.1 x e;have h2:=tU.1 y e2;have:=zjf x y;omega
  subst e;refine congrArg (x::·) (Asc.uniq tU.2 uB.2 fun z=>?_);have hx:x ∉ L:=fun hm=>by have:=tU.1 x hm;rw[zgS] at this;omega
  have hy:x ∉ M:=fun hm=>by have:=uB.1 x hm;rw[zgS] at this;omega
  have hz:=h z;simp only[List.mem_cons] at hz;constructor
  ·intro hm
   rcases hz.1 (.inr hm) with e|e
   ·subst e;exact absurd hm hx
   ·exact e
  ·intro hm
   rcases hz.2 (.inr hm) with e|e
   ·subst e;exact absurd hm hy
   ·exact e
def zmQ:LL->LI->LL
 |[],w=>[w]
 |x::l,w=>if w=x then x::l else if zaU w x<0 then w::x::l else x::zmQ l w
theorem zpb{x:LI}:∀{l:LL} {w:LI},x∈zmQ l w↔x=w∨x∈l
 |[],w=>by simp[zmQ]
 |y::l,w=>by
  simp only[zmQ]
  split
  ·rename_i h;subst h
   constructor
   ·intro h;exact .inr h
   ·rintro (rfl|h);·simp
    exact h
  ·split
   ·simp
   ·rw[List.mem_cons,zpb,List.mem_cons];constructor
    ·rintro (h|h|h)
     ·exact .inr (.inl h)
     ·exact .inl h
     ·exact .inr (.inr h)
    ·rintro (h|h|h)
     ·exact .inr (.inl h)
     ·exact .inl h
     ·exact .inr (.inr h)
theorem ztC:∀{l:LL} {w:LI},Asc l->Asc (zmQ l w)
 |[],w,_=>by simp[zmQ,Asc]
 |y::l,w,h=>by
  have h':=List.pairwise_cons.1 h;simp only[zmQ]
  split
  ·exact h
  ·rename_i ao
   split
   ·rename_i ac
    refine List.pairwise_cons.2 ⟨fun z hz=>?_,h⟩
    rcases List.mem_cons.1 hz with e|e
    ·subst e;exact ac
    ·exact zme ac (h'.1 z e)
   ·rename_i nT
    refine List.pairwise_cons.2 ⟨fun z hz=>?_,ztC h'.2⟩
    rcases zpb.1 hz with e|e
    ·subst e;have:=zjf z y;have h0:zaU z y≠0:=fun e0=>ao (zmP e0)
     omega
    ·exact h'.1 z e
def nfI(c:LL)(w:LI):LI:=(zbJ c 30 (zct c w (zax c.length))).getD []
theorem zzs{w W:List Nat}(h:zje c w W):nfI c (zae w)=zae W:=by unfold nfI;rw[h.norm];rfl
def znN(c:LL)(n:Nat)(W:LI)(nx:LL)(i:Nat):LL:=
 if(nfI c (W++[(i:Int)])).length=n/\nfI c (W++[(i:Int)]) ∉ nx then zmQ nx (nfI c (W++[(i:Int)])) else nx
def zjM(c:LL)(n:Nat)(W:LI)(nx:LL)(k:Nat):LL:=(List.range k).foldl (znN c n W) nx
def zgl(c:LL)(n:Nat)(prev:LL)(k:Nat):LL:=(prev.take k).foldl (fun nx W=>zjM c n W nx c.length) []
def zcu(c:LL):Nat->LL
 |0=>[[]]
 |n+1=>zgl c (n+1) (zcu c n) (zcu c n).length
theorem zqd(c:LL)(n:Nat)(W:LI)(nx:LL)(k:Nat):zjM c n W nx (k+1)=znN c n W (zjM c n W nx k) k:=by
 unfold zjM;rw[List.range_succ,List.foldl_append];rfl
theorem zoH(c:LL)(n:Nat)(prev:LL)(k:Nat)(hk:k<prev.length):zgl c n prev (k+1)=zjM c n (prev.getD k []) (zgl c n prev k) c.length:=by
 unfold zgl;rw[qT hk,List.foldl_append];simp[List.getD,hk]
theorem zzt{n:Nat}{W:LI}{nx:LL}{i:Nat}(h:Asc nx):Asc (znN c n W nx i):=by
 unfold znN;split
 ·exact ztC h
 ·exact h
theorem zzu{x W:LI}{n:Nat}{nx:LL}{i:Nat}:x∈znN c n W nx i↔x∈nx∨(x=nfI c (W++[(i:Int)])/\x.length=n):=by
 unfold znN;split
 ·rename_i h
  rw[zpb];constructor
  ·rintro (e|e)
   ·exact .inr ⟨e,by rw[e];exact h.1⟩
   ·exact .inl e
  ·rintro (e|⟨e,-⟩)
   ·exact .inr e
   ·exact .inl e
 ·rename_i h
  constructor
  ·exact .inl
  ·rintro (e|⟨e,hl⟩)
   ·exact e
   ·subst e;exact Classical.byContradiction fun hm=>h ⟨hl,hm⟩
theorem zrH{n:Nat}{W:LI}{nx:LL}(h:Asc nx):∀k,Asc (zjM c n W nx k)
 |0=>h
 |k+1=>by rw[zqd];exact zzt (zrH h k)
theorem zrI{x W:LI}{n:Nat}{nx:LL}:∀k,x∈zjM c n W nx k↔x∈nx∨∃i,i<k/\x=nfI c (W++[(i:Int)])/\x.length=n
 |0=>by simp[zjM]
 |k+1=>by
  rw[zqd,zzu,zrI k];constructor
  ·rintro ((h|⟨i,h1,h2⟩)|h)
   ·exact .inl h
   ·exact .inr ⟨i,by omega,h2⟩
   ·exact .inr ⟨k,by omega,h⟩
  ·rintro (h|⟨i,h1,h2⟩)
   ·exact .inl (.inl h)
   ·by_cases e:i=k
    ·subst e;exact .inr h2
    ·exact .inl (.inr ⟨i,by omega,h2⟩)
theorem zqe{n:Nat}{prev:LL}:∀k,k<=prev.length->Asc (zgl c n prev k)
 |0,_=>by simp[zgl,Asc]
 |k+1,hk=>by rw[zoH _ _ _ _ (by omega)];exact zrH (zqe k (by omega)) _
theorem zqf{x:LI}{n:Nat}{prev:LL}:∀k,k<=prev.length->(x∈zgl c n prev k↔∃t,t<k/\∃i,i<c.length/\x=nfI c (prev.getD t []++[(i:Int)])/\x.length=n)
 |0,_=>by simp[zgl]
 |k+1,hk=>by
  rw[zoH _ _ _ _ (by omega),zrI,zqf k (by omega)];constructor
  ·rintro (⟨t,h1,h2⟩|h)
   ·exact⟨t,by omega,h2⟩
   ·exact⟨k,by omega,h⟩
  ·rintro ⟨t,h1,h2⟩;by_cases e:t=k
   ·subst e;exact .inr h2
   ·exact .inl ⟨t,by omega,h2⟩
def Lev(c:LL)(n:Nat)(L:LL):Prop:=Asc L/\∀x,x∈L↔∃W,Elt c n W/\x=zae W
theorem ziO(hC:IsC c):∀n,n<=29->Lev c n (zcu c n)
 |0,_=>by
  refine⟨by simp[zcu,Asc],fun x=>?_⟩;constructor
  ·intro h;have e:x=[]:=by simpa [zcu] using h
   exact⟨[],Elt.zero hC,by rw[e];rfl⟩
  ·rintro ⟨W,hW,rfl⟩;have h1:W=[]:=List.length_eq_zero_iff.1 hW.len;subst h1;simp[zcu,zae]
 |n+1,hn=>by
  have ih:=ziO hC n (by omega);refine⟨zqe _ (qr _),fun x=>?_⟩;show x∈zgl c (n+1) (zcu c n) (zcu c n).length↔_;rw[zqf _ (qr _)];constructor
  ·rintro ⟨t,ht,i,hi,hx,hl⟩;obtain⟨W,hW,Pp⟩:=(ih.2 ((zcu c n).getD t [])).1 (by simp[List.getD,ht])
   have ac:∀j∈W++[i],j<c.length:=by
    intro j hj
    rcases List.mem_append.1 hj with h|h
    ·exact hW.nf.lt j h
    ·simp at h;subst h;exact hi
   obtain⟨X,hX⟩:=zjL hC ac (by have:=hW.len;simp;omega);have e:nfI c ((zcu c n).getD t []++[(i:Int)])=zae X:=by rw[Pp,<-zzs hX,zmd];rfl
   rw[e] at hx;subst hx;exact⟨X,⟨hX.self,by simpa [zae] using hl⟩,rfl⟩
  ·rintro ⟨X,hX,rfl⟩;obtain⟨W,i,hW,hi,Pq⟩:=zxO hC hX (by omega);obtain⟨t,ht,Il⟩:=List.mem_iff_getElem.1 ((ih.2 (zae W)).2 ⟨W,hW,rfl⟩);refine⟨t,ht,i,hi,?_,by simp[zae,hX.len]⟩;have e:(zcu c n).getD t []=zae W:=by simp[List.getD,ht,Il]
   rw[e,<-zzs Pq,zmd];rfl
def ziF(c:LL)(n:Nat)(V:LL):Prop:=V.Nodup/\∀v,v∈V↔∃W,Elt c n W/\v=imgL c W
def zqX(c:LL)(x:LI)(nx:LL)(i:Nat):LL:=if x.getD i 0<0 then nx else if refl c i x∈nx then nx else nx++[refl c i x]
def addTo(c:LL)(x:LI)(nx:LL)(k:Nat):LL:=(List.range k).foldl (zqX c x) nx
def zkm(c:LL)(sh:LL)(k:Nat):LL:=(sh.take k).foldl (fun nx x=>addTo c x nx c.length) []
theorem addTo_succ(c:LL)(x:LI)(nx:LL)(k:Nat):addTo c x nx (k+1)=zqX c x (addTo c x nx k) k:=by
 unfold addTo;rw[List.range_succ,List.foldl_append];rfl
theorem zrJ(c:LL)(sh:LL)(k:Nat)(hk:k<sh.length):zkm c sh (k+1)=addTo c (sh.getD k []) (zkm c sh k) c.length:=by
 unfold zkm;rw[qT hk,List.foldl_append];simp[List.getD,hk]
theorem zxP{x:LI}{nx:LL}{i:Nat}(h:nx.Nodup):(zqX c x nx i).Nodup:=by
 unfold zqX;split
 ·exact h
 ·split
  ·exact h
  ·rename_i hm
   rw[List.nodup_append];exact⟨h,by simp,fun a ha b hb=>by simp at hb;subst hb;intro e;subst e;exact hm ha⟩
theorem zCz{x v:LI}{nx:LL}{i:Nat}:v∈zqX c x nx i↔v∈nx∨(0<=x.getD i 0/\v=refl c i x):=by
 unfold zqX;split
 ·rename_i h
  constructor
  ·exact .inl
  ·rintro (e|e)
   ·exact e
   ·omega
 ·rename_i h
  split
  ·rename_i hm
   constructor
   ·exact .inl
   ·rintro (e|⟨-,e⟩)
    ·exact e
    ·rw[e];exact hm
  ·rw[List.mem_append,List.mem_singleton];constructor
   ·rintro (e|e)
    ·exact .inl e
    ·exact .inr ⟨by omega,e⟩
   ·rintro (e|e)
    ·exact .inl e
    ·exact .inr e.2
theorem zoI{x:LI}{nx:LL}(h:nx.Nodup):∀k,(addTo c x nx k).Nodup
 |0=>h
 |k+1=>by rw[addTo_succ];exact zxP (zoI h k)
theorem zrK{x v:LI}{nx:LL}:∀k,v∈addTo c x nx k↔v∈nx∨∃i,i<k/\0<=x.getD i 0/\v=refl c i x
 |0=>by simp[addTo]
 |k+1=>by
  rw[addTo_succ,zCz,zrK k];constructor
  ·rintro ((h|⟨i,h1,h2⟩)|h)
   ·exact .inl h
   ·exact .inr ⟨i,by omega,h2⟩
   ·exact .inr ⟨k,by omega,h⟩
  ·rintro (h|⟨i,h1,h2⟩)
   ·exact .inl (.inl h)
   ·by_cases e:i=k
    ·subst e;exact .inr h2
    ·exact .inl (.inr ⟨i,by omega,h2⟩)
theorem zqg{sh:LL}:∀k,k<=sh.length->(zkm c sh k).Nodup
 |0,_=>by simp[zkm]
 |k+1,hk=>by rw[zrJ _ _ _ (by omega)];exact zoI (zqg k (by omega)) _
theorem ztD{v:LI}{sh:LL}:∀k,k<=sh.length->(v∈zkm c sh k↔∃t,t<k/\∃i,i<c.length/\0<=(sh.getD t []).getD i 0/\v=refl c i (sh.getD t []))
 |0,_=>by simp[zkm]
 |k+1,hk=>by
  rw[zrJ _ _ _ (by omega),zrK,ztD k (by omega)];constructor
  ·rintro (⟨t,h1,h2⟩|h)
   ·exact⟨t,by omega,h2⟩
   ·exact⟨k,by omega,h⟩
  ·rintro ⟨t,h1,h2⟩;by_cases e:t=k
   ·subst e;exact .inr h2
   ·exact .inl ⟨t,by omega,h2⟩
theorem ziF.zero(hC:IsC c):ziF c 0 [zax c.length]:=by
 refine⟨by simp,fun v=>?_⟩;constructor
 ·intro h;have e:v=zax c.length:=by simpa using h
  exact⟨[],Elt.zero hC,by rw[e];rfl⟩
 ·rintro ⟨W,hW,rfl⟩;have h1:W=[]:=List.length_eq_zero_iff.1 hW.len;subst h1;simp[imgL,zae,zct]
theorem ziF.next(hC:IsC c){n:Nat}{sh:LL}(h:ziF c n sh)(hn:n<=29):ziF c (n+1) (zkm c sh sh.length):=by
 refine⟨zqg _ (qr _),fun v=>?_⟩;rw[ztD _ (qr _)];constructor
 ·rintro ⟨t,ht,i,hi,h0,rfl⟩;obtain⟨W,hW,e⟩:=(h.2 (sh.getD t [])).1 (by simp[List.getD,ht]);rw[e] at h0 ⊢;have ao:=hW.ne hi
  have ac:∀j∈i::W,j<c.length:=by
   intro j hj
   rcases List.mem_cons.1 hj with h|h
   ·subst h;exact hi
   ·exact hW.nf.lt j h
  obtain⟨X,hX⟩:=zjL hC ac (by have:=hW.len;simp;omega);exact⟨X,⟨hX.self,zzq hC hW hn hi (by omega) hX⟩,by rw[<-zrG];exact hX.img.symm⟩
 ·rintro ⟨X,hX,rfl⟩;obtain⟨W,i,hW,hi,aW,e⟩:=zzr hC hX hn;obtain⟨t,ht,Il⟩:=List.mem_iff_getElem.1 ((h.2 (imgL c W)).2 ⟨W,hW,rfl⟩);have e2:sh.getD t []=imgL c W:=by simp[List.getD,ht,Il]
  exact⟨t,ht,i,hi,by rw[e2];omega,by rw[e2];exact e⟩
def nfV(c:LL)(v:LI):LI:=(zbJ c 30 v).getD []
theorem znO{n:Nat}{W:List Nat}(h:Elt c n W):zbJ c 30 (imgL c W)=some (zae W)/\nfV c (imgL c W)=zae W:=by
 refine⟨h.nf.norm,?_⟩;unfold nfV;unfold imgL;rw[h.nf.norm];rfl
theorem ziF.len(hC:IsC c){n:Nat}{V:LL}(h:ziF c n V)(hn:n<=29):V.length=(zcu c n).length:=by
 have hL:=ziO hC n hn
 have e:∀x,x∈V.map (nfV c)↔x∈zcu c n:=by
  intro x;rw[List.mem_map,hL.2];constructor
  ·rintro ⟨v,hv,rfl⟩;obtain⟨W,hW,rfl⟩:=(h.2 v).1 hv;exact⟨W,hW,(znO hW).2⟩
  ·rintro ⟨W,hW,rfl⟩;exact⟨imgL c W,(h.2 _).2 ⟨W,hW,rfl⟩,(znO hW).2⟩
 have Im:∀v∈V,∀u∈V,nfV c v=nfV c u->v=u:=by
  intro v hv u hu e;obtain⟨W,hW,rfl⟩:=(h.2 v).1 hv;obtain⟨U,hU,rfl⟩:=(h.2 u).1 hu;rw[(znO hW).2,(znO hU).2] at e;rw[zlo e]
 have ez:(V.map (nfV c)).Nodup:=by
  have hV:=h.1;unfold List.Nodup at hV ⊢;rw[List.pairwise_map];refine List.Pairwise.imp_of_mem ?_ hV;intro a b ha hb eC e;exact eC (Im a ha b hb e)
 have hp:=(List.perm_ext_iff_of_nodup ez hL.1.nodup).2 e;have:=hp.length_eq;simpa using this
end Game
end
section
open Go.RowKit
theorem zqh(gc oc n cc g2 o2 n2 c2 f:Nat)(c:LL)(v word:LI)(w:World)(hn:c.length=n)(da:v.length=n2)(hC:IsC c)(hv:v.length=c.length)(hf:f<=30)(mq:zbJ c f v=some word)
 (ah:gc<w.heap.size) (aP:g2<w.heap.size) (hr:zal w gc oc c) (aH:zag w g2 o2 v):
 Calls Tryz.prog 152 #[(qS (some ⟨gc,oc,none⟩) n cc),(qS (some ⟨g2,o2,none⟩) n2 c2)] w (zav w word):=by
 subst hn;subst da;have aR:=hC.2.1;have uC:v.length<=4:=by omega
 have Hv:=qd hv;clear hv;have ry:=zmK mq
 go_enter Tryz.func152,Tryz.ntmps152
 go_wp2;go_loopw [1,5,6,7] (fun vv s i _ wr=>∃(p g' c' f' gu ou cu:Nat) (u pre rest:LI),i= .int .i64 p/\s=(qS (some ⟨g',0,none⟩) p c')/\vv=(qS (some ⟨gu,ou,none⟩) v.length cu)/\Hid (pre.length=p)/\p+f'<=30/\u.length=v.length/\Hid (zbJ c f' u=some rest)/\Hid (word=pre++rest)/\zag wr gu ou u/\gu<wr.heap.size/\Own wr w.heap.size g' c' pre/\gu≠g'/\Below w.heap.size w wr) (fun _ _ i _ _=>31-(intOf i).toNat)
 case atStart=>
  exact⟨0,w.heap.size,0,f,g2,o2,c2,v,[],word,rfl,rfl,rfl,rfl,by omega,rfl,mq,rfl,aH.below ((Below.refl _ _).alloc (qr _) _) aP,by simp;omega,Own.empty (w:=w) (qr _),by omega,(Below.refl _ _).alloc (qr _) _⟩
 case round=>
  obtain⟨p,g',c',f',gu,ou,cu,u,pre,rest,rfl,rfl,rfl,hp,Io,fp,ei,hw,nj,eO,cS,ao,hb⟩:=hrel;have Pr:(p:Int)<=30:=by omega
  have hz:=zty ei.out;have Hz:=qd hz;have eS:=qd fp;clear hz;obtain⟨wo,rfl⟩:∃wo:World,wo=wr:=⟨_,rfl⟩;have Mk:=qd nj;clear fp;go_wp2;go_loopw [7] (fun i wr=>∃k:Nat,k<=v.length/\i= .int .i64 k/\Hid (∀j,j<k->0<u.getD j 0)/\wr=wo) (fun i _=>v.length-(intOf i).toNat)
  case atStart=>exact⟨0,qz _,rfl,fun j hj=>absurd hj (by omega),rfl⟩
  case round=>
   obtain⟨k,hk,rfl,aE,rfl⟩:=hrel;by_cases ac:k<v.length
   ·have q1:=Mk.out k (by rw[eS.out];exact ac);have Ml:=Hz.out k (by rw[eS.out];exact ac);by_cases aW:0<u.getD k 0
    ·have HY:Hid (∀j,j<k+1->0<u.getD j 0):=fun j hj=>by
      by_cases e:j=k
      ·subst e;exact aW
      ·exact aE.out j (by omega)
     clear Ml;generalize u.getD k 0=x at*;go_wp2;go_roundw
     case rel=>exact⟨k+1,by omega,by go_num,HY.out,trivial⟩
     case measure=>simp[intOf];omega
    ·have fF:zaG u=some k:=zhQ (by rw[eS.out];exact ac) (by omega) (fun j hj=>by have:=aE.out j hj;omega);obtain⟨f2,rest2,wh,gV,da⟩:=ziC ei.out fF;have nL:k<c.length:=by have:=Hv.out;omega
     have Ps:((k:Int)==(v.length:Int))=false:=by simp;omega
     subst gV;have qO:=qd da;clear Ml fF da ei;generalize u.getD k 0=x at*;go_wp2_with (at_builtin;refine zay (w:=wr) rfl _ _ rfl w.heap.size g' c' p pre (k:Int) hp.out cS rfl rfl (by omega) ?_);intro g3 c3 w3 al aK aY;have Ip:zag w3 gu ou u:=Mk.out.grown aK (by intro e;cases e;exact ao rfl);have ag:Below w.heap.size w w3:=hb.grown aK hb.size (by intro j hj;cases hj;exact cS.base);have Iq:gu<w3.heap.size:=qL eO aK.size;have rD:=zfC gc oc _ cc gu ou v.length cu k c u w3 rfl eS.out (by rw[eS.out];exact Nat.le_of_eq Hv.out) aR hC.2.2.1 (by rw[eS.out];exact ac) (qL ah ag.size) Iq (hr.below ag ah) Ip;have yb:=qd rD;clear rD;go_wp2_with fail;refine yb.out.mono ?_;rintro e w4 ⟨g5,c5,rfl,aD,aQ⟩;have an:(refl c k u).length=v.length:=by rw[zcf];exact eS.out
     rw[an];go_wp2_with fail;go_roundw
     case rel=>
      refine⟨p+1,g3,c3,f2,g5,0,c5,refl c k u,pre++[(k:Int)],rest2,by go_num,rfl,rfl,?_,by omega,an,qO.out,?_,aD.cells,aD.lt,al.below aQ al.lt,by have h1:=al.lt;have h2:=aD.base;omega,ag.trans (aQ.mono ag.size)⟩
      ·show _=_;rw[qA,hp.out];rfl
      ·show _=_;rw[hw.out,List.append_assoc];rfl
     case measure=>simp[intOf];omega
   ·obtain rfl:k=v.length:=by omega
    have fF:zaG u=none:=zfF (fun j hj=>by have:=aE.out j (by rw[<-eS.out];exact hj);omega);have gV:=ziB ei.out fF;have rA:=qd gV;clear gV fF;go_wp2;go_ret;rw[hw.out,rA.out,List.append_nil];exact zav.mk' g' c' hp.out cS hb
end
section
open Go.RowKit
def zdu(n:Nat):LI:=List.replicate n (-1)
theorem zda(n:Nat):(zax n).length=n:=by simp[zax]
theorem zfk(n:Nat):(zdu n).length=n:=by simp[zdu]
structure zJi(c:LL)(long:LI)(opp:Nat->Nat):Prop where
 norm:zbJ c 30 (zdu c.length)=some long
 act:zct c long (zax c.length)=zdu c.length
 opp_lt:∀i,i<c.length->opp i<c.length
 opp_eq:∀i,i<c.length->zct c long (refl c i (zax c.length))=refl c (opp i) (zdu c.length)
theorem zvR(c:LL)(a b v:LI):zct c (a++b) v=zct c a (zct c b v):=by
 induction a with
 |nil=>rfl
 |cons i a ih=>simp[zct,ih]
theorem zvG(gc oc n cc:Nat)(c:LL)(long:LI)(w:World)(hn:c.length=n)(hC:IsC c)(mr:zbJ c 30 (zdu c.length)=some long)
 (ah:gc<w.heap.size) (hr:zal w gc oc c):Calls Tryz.prog 104 #[(qS (some ⟨gc,oc,none⟩) n cc)] w (zav w long):=by
 subst hn;have aR:=hC.2.1
 go_enter Tryz.func104,Tryz.ntmps104
 go_wp2_with fail;refine(zmc c.length w (by omega)).mono ?_;rintro e w1 ⟨g1,c1,rfl,au,ad⟩;rw[zda];go_wp2_with fail;go_loopw [10] (fun i wr=>∃t:Nat,t<=c.length/\i= .int .i64 t/\Own wr w.heap.size g1 c1 (List.replicate t (-1)++List.replicate (c.length-t) 1)/\Below w.heap.size w wr) (fun i _=>c.length-(intOf i).toNat)
 case atStart=>exact⟨0,qz _,rfl,by simpa [zax] using au,ad⟩
 case round=>
  obtain⟨t,ht,rfl,ho,hb⟩:=hrel;by_cases ac:t<c.length
  ·have hl:(List.replicate t (-1:Int)++List.replicate (c.length-t) 1).length=c.length:=by simp;omega
   have q1:=ho.cell t (by rw[hl];exact ac);have f1:=ho.frozen t;have hs:=ho.set t (-1)
   have e:(List.replicate t (-1:Int)++List.replicate (c.length-t) 1).set t (-1)=List.replicate (t+1) (-1)++List.replicate (c.length-(t+1)) 1:=by
    rw[List.set_append_right _ _ (by simp)];obtain⟨d,hd⟩:∃d,c.length-t=d+1:=⟨c.length-t-1,by omega⟩;rw[hd,show c.length-(t+1)=d by omega];rw[List.length_replicate,Nat.sub_self,List.replicate_succ,List.set_cons_zero,List.replicate_succ',List.append_assoc];rfl
   rw[e] at hs;have Hs:=qd hs;clear hs e hl;go_wp2;go_roundw
   case rel=>exact⟨t+1,by omega,by go_num,Hs.out.1,hb.grown Hs.out.2 hb.size (by intro j hj;cases hj;exact ho.base)⟩
   case measure=>simp[intOf];omega
  ·obtain rfl:t=c.length:=by omega
   rw[Nat.sub_self,List.replicate_zero,List.append_nil] at ho;have ln:Own wr w.heap.size g1 c1 (zdu c.length):=ho;go_wp2_with fail;refine(zqb gc oc _ cc g1 0 c.length c1 30 c (zdu c.length) long wr rfl (zfk _) hC (zfk _) (by omega) mr (qL ah hb.size) ln.lt (hr.below hb ah) ln.cells).mono ?_;rintro e w2 ⟨g2,c2,rfl,ar,ae⟩;go_wp2_with fail;go_ret;exact⟨g2,c2,rfl,ar.mono hb.size,hb.trans (ae.mono hb.size)⟩
theorem zvS(gc oc n cc:Nat)(c:LL)(long:LI)(w:World)(hn:c.length=n)(hC:IsC c)(bF:zaN c=true)(mr:zbJ c 30 (zdu c.length)=some long)
 (ah:gc<w.heap.size) (hr:zal w gc oc c):Calls Tryz.prog 111 #[(qS (some ⟨gc,oc,none⟩) n cc)] w (zbl w long true):=by
 subst hn;have aR:=hC.2.1
 go_enter Tryz.func111,Tryz.ntmps111
 go_wp2_with fail;refine(zcE gc oc _ cc c w rfl (by omega) (fun j hj=>by have:=hC.2.2.1 j hj;omega) ah hr).mono ?_;rintro e w1 ⟨rfl,ad⟩;rw[bF];go_wp2_with fail;go_loopw [4,5] (fun s i wr=>∃t g' c':Nat,t<=c.length/\i= .int .i64 t/\s=(qS (some ⟨g',0,none⟩) t c')/\Own wr w.heap.size g' c' (zdu t)/\Below w.heap.size w wr) (fun _ i _=>c.length-(intOf i).toNat)
 case atStart=>exact⟨0,w1.heap.size,0,qz _,rfl,rfl,Own.empty (w:=w1) ad.size,ad.alloc ad.size _⟩
 case round=>
  obtain⟨t,g',c',ht,rfl,rfl,ho,hb⟩:=hrel;by_cases ac:t<c.length
  ·go_wp2_with (at_builtin;refine zay rfl _ _ rfl w.heap.size g' c' t (zdu t) (-1) (zfk _) ho rfl rfl (by omega) ?_);intro g3 c3 w3 al aK _;go_wp2;go_roundw
   case rel=>
    have e:zdu t++[-1]=zdu (t+1):=by unfold zdu;rw[List.replicate_succ']
    rw[e] at al;exact⟨t+1,g3,c3,by omega,by go_num,rfl,al,hb.grown aK hb.size (by intro j hj;cases hj;exact ho.base)⟩
   case measure=>simp[intOf];omega
  ·obtain rfl:t=c.length:=by omega
   go_wp2_with fail;refine(zqh gc oc _ cc g' 0 c.length c' 30 c (zdu c.length) long wr rfl (zfk _) hC (zfk _) (by omega) mr (qL ah hb.size) ho.lt (hr.below hb ah) ho.cells).mono ?_;rintro e w2 ⟨g2,c2,rfl,ar,ae⟩;go_wp2_with fail;go_ret2;exact⟨g2,c2,rfl,ar.mono hb.size,hb.trans (ae.mono hb.size)⟩
theorem zsI(gc oc n cc:Nat)(c:LL)(w:World)(hn:c.length=n)(hC:IsC c)(ah:gc<w.heap.size)(hr:zal w gc oc c):
 Calls Tryz.prog 51 #[(qS (some ⟨gc,oc,none⟩) n cc)] w (zav w (zax c.length)):=by
 subst hn;have aR:=hC.2.1
 have fo:Hid (∀W,Below w.heap.size w W->Calls Tryz.prog 96 #[(qS (some ⟨gc,oc,none⟩) c.length cc)] W (zap W (.bool true))):=fun W hW=>by
  have:=zbD gc oc _ cc c W rfl (by omega) (fun j hj=>by have:=hC.2.2.1 j hj;omega) (hr.below hW ah)
  rwa [decide_eq_true hC] at this
 go_enter Tryz.func51,Tryz.ntmps51
 go_wp2_with fail;go_loopw [3,4] (fun s i wr=>∃t g' c':Nat,t<=c.length/\i= .int .i64 t/\s=(qS (some ⟨g',0,none⟩) t c')/\Own wr w.heap.size g' c' (zax t)/\Below w.heap.size w wr) (fun _ i _=>c.length-(intOf i).toNat)
 case atStart=>exact⟨0,w.heap.size,0,qz _,rfl,rfl,Own.empty (w:=w) (qr _),(Below.refl _ _).alloc (qr _) _⟩
 case round=>
  obtain⟨t,g',c',ht,rfl,rfl,ho,hb⟩:=hrel;by_cases ac:t<c.length
  ·go_wp2_with fail;refine(fo.out _ hb).mono ?_;rintro e w2 ⟨rfl,m2,rfl⟩;go_wp2_with (at_builtin;refine zay (w:=wr.drewN m2) rfl _ _ rfl w.heap.size g' c' t (zax t) 1 (zda _) (ho.drewN m2) rfl rfl (by omega) ?_);intro g3 c3 w3 al aK _;go_wp2;go_roundw
   case rel=>
    have e:zax t++[1]=zax (t+1):=by unfold zax;rw[List.replicate_succ']
    rw[e] at al;exact⟨t+1,g3,c3,by omega,by go_num,rfl,al,(below_drewN hb m2).grown aK hb.size (by intro j hj;cases hj;exact ho.base)⟩
   case measure=>simp[intOf];omega
  ·obtain rfl:t=c.length:=by omega
   go_wp2_with fail;go_ret;exact zav.mk' g' c' (zda _) ho hb
theorem zjg(g o n cp:Nat)(v:LI)(w:World)(hn:v.length=n)(hx:v.length<=1048576)(hg:g<w.heap.size)(hc:zag w g o v):
 Calls Tryz.prog 106 #[(qS (some ⟨g,o,none⟩) n cp)] w (zav w v):=by
 subst hn;have yd:∀W,(binOp .eql 25 (qS (some ⟨g,o,none⟩) v.length cp) (.slice none 0 0)).run Tryz.prog W= .ok (.bool false) W:=fun W=>Lib.run_eql_slice_nil W 25 3 _ _ _ _ _ Tryz.underlying25
 go_enter Tryz.func106,Tryz.ntmps106
 go_wp2_with (at_builtin;refine zaV rfl _ _ rfl g o _ cp v rfl hg hc rfl rfl (by omega) ?_);intro g1 c1 w1 ho hb;go_wp2_with fail;go_ret;exact zav.mk' g1 c1 rfl ho hb
end
section
open Go.RowKit
end
section
open Go.RowKit
def zir(c:LL)(v:LI):Prop:=IsC c/\v.length=c.length/\∀j,j<v.length→-1000<=v.getD j 0/\v.getD j 0<=1000
instance(c:LL)(v:LI):Decidable (zir c v):=by unfold zir;infer_instance
theorem ziv(gc oc n cc g o m cv:Nat)(c:LL)(v:LI)(w:World)(hn:c.length=n)(hm:v.length=m)(hx:c.length<=1048576)(eP:v.length<=1048576)
 (an:∀j,j<c.length->(c.getD j []).length<=1048576) (hr:zal w gc oc c) (hv:zag w g o v):
 Calls Tryz.prog 57 #[(qS (some ⟨gc,oc,none⟩) n cc),(qS (some ⟨g,o,none⟩) m cv)] w (zap w (.bool (decide (zir c v)))):=by
 subst hn;subst hm
 go_enter Tryz.func57,Tryz.ntmps57
 go_wp2_with fail;refine(zcz gc oc _ cc c w rfl (by omega) (fun j hj=>by have:=an j hj;omega) hr).mono ?_;rintro e w1 ⟨rfl,m1,rfl⟩;by_cases hC:IsC c
 ·have ik:decide (IsC c)=true:=decide_eq_true hC;rw[ik];by_cases am:v.length=c.length
  ·have mc:((v.length:Int) != (c.length:Int))=false:=by rw[am];simp
   have cg:=qd am;clear am;go_wp2_with fail;go_loopw [19] (fun i wr=>∃k:Nat,k<=v.length/\i= .int .i64 k/\Hid (∀j,j<k→-1000<=v.getD j 0/\v.getD j 0<=1000)/\∃m,wr=w.drewN m) (fun i _=>v.length-(intOf i).toNat)
   case atStart=>exact⟨0,qz _,rfl,fun j hj=>absurd hj (by omega),(by first|exact⟨_,rfl⟩|exact⟨0,rfl⟩|exact zam _ _ _|exact zan _ _ _ _)⟩
   case round=>
    obtain⟨k,hk,rfl,aE,m,rfl⟩:=hrel;by_cases ac:k<v.length
    ·have q1:=hv k ac;have HX:Hid (¬(-1000<=v.getD k 0/\v.getD k 0<=1000)->decide (zir c v)=false):=fun h=>decide_eq_false (fun h2=>h (h2.2.2 k ac))
     have HY:Hid (-1000<=v.getD k 0/\v.getD k 0<=1000->∀j,j<k+1→-1000<=v.getD j 0/\v.getD j 0<=1000):=fun h j hj=>by
      by_cases e:j=k
      ·subst e;exact h
      ·exact aE.out j (by omega)
     generalize v.getD k 0=x at*;by_cases h1:x< -1000
     ·have hf:=HX.out (by omega);have Hf:=qd hf;clear hf;go_wp2;go_ret;exact⟨zaK Hf.out.symm,(by first|exact⟨_,rfl⟩|exact⟨0,rfl⟩|exact zam _ _ _|exact zan _ _ _ _)⟩
     ·by_cases h2:1000<x
      ·have hf:=HX.out (by omega);have Hf:=qd hf;clear hf;go_wp2;go_ret;exact⟨zaK Hf.out.symm,(by first|exact⟨_,rfl⟩|exact⟨0,rfl⟩|exact zam _ _ _|exact zan _ _ _ _)⟩
      ·have hy:=HY.out (by omega);have Hy:=qd hy;clear hy;go_wp2;go_roundw
       case rel=>exact⟨k+1,by omega,by go_num,Hy.out,(by first|exact⟨_,rfl⟩|exact⟨0,rfl⟩|exact zam _ _ _|exact zan _ _ _ _)⟩
       case measure=>simp[intOf];omega
    ·obtain rfl:k=v.length:=by omega
     have hf:decide (zir c v)=true:=decide_eq_true ⟨hC,cg.out,aE.out⟩;have Hf:=qd hf;clear hf;go_wp2;go_ret;exact⟨zaK Hf.out.symm,(by first|exact⟨_,rfl⟩|exact⟨0,rfl⟩|exact zam _ _ _|exact zan _ _ _ _)⟩
  ·have mc:((v.length:Int) != (c.length:Int))=true:=by simp;omega
   have hf:decide (zir c v)=false:=decide_eq_false (fun h=>am h.2.1);have Hf:=qd hf;clear hf am;go_wp2_with fail;go_ret;exact⟨zaK Hf.out.symm,(by first|exact⟨_,rfl⟩|exact⟨0,rfl⟩|exact zam _ _ _|exact zan _ _ _ _)⟩
 ·have ik:decide (IsC c)=false:=decide_eq_false hC;have hf:decide (zir c v)=false:=decide_eq_false (fun h=>hC h.1);have Hf:=qd hf;clear hf;rw[ik];clear hC;go_wp2_with fail;go_ret;exact⟨zaK Hf.out.symm,(by first|exact⟨_,rfl⟩|exact⟨0,rfl⟩|exact zam _ _ _|exact zan _ _ _ _)⟩
theorem ziw(gc oc n cc g o m cv:Nat)(c:LL)(v:LI)(w:World)(hn:c.length=n)(hm:v.length=m)(hx:c.length<=1048576)(eP:v.length<=1048576)
 (an:∀j,j<c.length->(c.getD j []).length<=1048576) (hr:zal w gc oc c) (hv:zag w g o v):
 Calls Tryz.prog 61 #[(qS (some ⟨gc,oc,none⟩) n cc),(qS (some ⟨g,o,none⟩) m cv)] w (zap w (.bool (decide (zir c v)))):=by
 subst hn;subst hm
 go_enter Tryz.func61,Tryz.ntmps61
 go_wp2_with fail;go_loopw [5] (fun i wr=>∃k:Nat,k<=v.length/\i= .int .i64 k/\Hid (∀j,j<k→-1000<=v.getD j 0/\v.getD j 0<=1000)/\∃m,wr=w.drewN m) (fun i _=>v.length-(intOf i).toNat)
 case atStart=>exact⟨0,qz _,rfl,fun j hj=>absurd hj (by omega),(by first|exact⟨_,rfl⟩|exact⟨0,rfl⟩|exact zam _ _ _|exact zan _ _ _ _)⟩
 case round=>
  obtain⟨k,hk,rfl,aE,m,rfl⟩:=hrel;by_cases ac:k<v.length
  ·have q1:=hv k ac;have HX:Hid (¬(-1000<=v.getD k 0/\v.getD k 0<=1000)->decide (zir c v)=false):=fun h=>decide_eq_false (fun h2=>h (h2.2.2 k ac))
   have HY:Hid (-1000<=v.getD k 0/\v.getD k 0<=1000->∀j,j<k+1→-1000<=v.getD j 0/\v.getD j 0<=1000):=fun h j hj=>by
    by_cases e:j=k
    ·subst e;exact h
    ·exact aE.out j (by omega)
   generalize v.getD k 0=x at*;go_wp2_with fail;refine(zdJ x (-1000) 1000 (w.drewN m)).mono ?_;rintro e w2 ⟨rfl,m2,rfl⟩;by_cases bR:-1000<=x/\x<=1000
   ·have hT:(decide (-1000<=x)&&decide (x<=1000))=true:=by simp;exact bR
    have hy:=HY.out bR;have Hy:=qd hy;clear hy bR;rw[hT];go_wp2_with fail;go_roundw
    case rel=>exact⟨k+1,by omega,by go_num,Hy.out,(by first|exact⟨_,rfl⟩|exact⟨0,rfl⟩|exact zam _ _ _|exact zan _ _ _ _)⟩
    case measure=>simp[intOf];omega
   ·have hT:(decide (-1000<=x)&&decide (x<=1000))=false:=by rw[Bool.and_eq_false_iff,decide_eq_false_iff_not,decide_eq_false_iff_not];omega
    have hf:=HX.out bR;have Hf:=qd hf;clear hf bR;rw[hT];go_wp2_with fail;go_ret;exact⟨zaK Hf.out.symm,(by first|exact⟨_,rfl⟩|exact⟨0,rfl⟩|exact zam _ _ _|exact zan _ _ _ _)⟩
  ·obtain rfl:k=v.length:=by omega
   have hf:decide (zir c v)=(decide (IsC c)&&decide (v.length=c.length)):=by
    rw[<-Bool.decide_and];exact decide_eq_decide.2 ⟨fun h=>⟨h.1,h.2.1⟩,fun h=>⟨h.1,h.2,aE.out⟩⟩
   have Hf:=qd hf;clear hf;go_wp2_with fail;refine(zbD gc oc _ cc c (w.drewN m) rfl (by omega) (fun j hj=>by have:=an j hj;omega) hr).mono ?_;rintro e w2 ⟨rfl,m2,rfl⟩;by_cases hC:IsC c
   ·have ik:decide (IsC c)=true:=decide_eq_true hC;rw[ik] at Hf ⊢;by_cases am:v.length=c.length
    ·have hT:((v.length:Int)==(c.length:Int))=true:=by rw[am];simp
     have rE:decide (v.length=c.length)=true:=decide_eq_true am;rw[rE] at Hf;clear am rE;go_wp2_with fail;go_ret;exact⟨zaK (by rw[Hf.out];rfl),(by first|exact⟨_,rfl⟩|exact⟨0,rfl⟩|exact zam _ _ _|exact zan _ _ _ _)⟩
    ·have hT:((v.length:Int)==(c.length:Int))=false:=by simp;omega
     have rE:decide (v.length=c.length)=false:=decide_eq_false am;rw[rE] at Hf;clear am rE;go_wp2_with fail;go_ret;exact⟨zaK (by rw[Hf.out];rfl),(by first|exact⟨_,rfl⟩|exact⟨0,rfl⟩|exact zam _ _ _|exact zan _ _ _ _)⟩
   ·have ik:decide (IsC c)=false:=decide_eq_false hC;rw[ik] at Hf ⊢;clear hC;go_wp2_with fail;go_ret;exact⟨zaK (by rw[Hf.out];rfl),(by first|exact⟨_,rfl⟩|exact⟨0,rfl⟩|exact zam _ _ _|exact zan _ _ _ _)⟩
end
end Go.Proofs.YtlgcmaoimpgedaaGreatDoor

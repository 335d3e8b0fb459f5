/- Frd Iso Typ -/
import Derived.Test.YtlgcmaoimpgedaaGreatDoorT12
set_option maxRecDepth 100000
set_option linter.unusedSimpArgs false
namespace Go.Proofs.YtlgcmaoimpgedaaGreatDoor
open Go.Value renaming slice->qS
section
open Go.RowKit Game
variable {c:LL}
theorem zKt{i:Nat}(hi:i<c.length){y:Vec}(hy:y i<=0):Low c (s (ent c) i y) y:=by
 refine⟨fun k=>if k=i then -(y i) else 0,fun k _=>?_,fun k hk=>?_⟩
 ·show 0<=if k=i then -(y i) else 0
  split <;> omega
 ·have e:(sg c.length fun j=>ent c k j*(if j=i then -(y i) else 0))=sg c.length fun j=>(if j=i then -(y i) else 0)*ent c k j:=zcw fun j _=>Int.mul_comm _ _
  rw[e,ztL hi (-(y i)) (fun j=>ent c k j)];simp only[s];rw[Int.neg_mul];omega
theorem zxa:∀(l:List Nat) (y:Vec),zbE (ent c) c.length l y->Low c (run (ent c) l y) y
 |[],y,_=>Low.self c y
 |i::l,y,h=>(zxa l _ h.2.2).trans (zKt h.1 (by have:=h.2.1;omega))
theorem zmV{l:List Nat}{y d:Vec}(h:zaF (ent c) c.length l y d):Low c d y:=by
 have:=zxa l y h.1
 rwa [h.2] at this
theorem Low.hgt{B:LL}{D:Int}(hB:Adj c B D){x y q:Vec}(h:zge c x y q):hgt c B x=hgt c B y+D*sg c.length q:=by
 unfold Game.hgt;rw[<-zmU,<-ztK];exact zcw fun j hj=>by have:=h.dot hB hj;omega
def ray(c:LL)(u r:LI)(k:Nat):LI:=(List.range c.length).map fun j=>u.getD j 0+(k:Int)*(wtR c r).getD j 0
theorem zes(c:LL)(u r:LI)(k:Nat):(ray c u r k).length=c.length:=by simp[ray]
theorem zjj{u r:LI}{k j:Nat}(hj:j<c.length):(ray c u r k).getD j 0=u.getD j 0+(k:Int)*(wtR c r).getD j 0:=by simp[ray,List.getD,hj]
theorem znS(hC:IsC c)(hf:zaN c=true){u r:LI}(hr:r∈zaq c)(hu:∀j,j<c.length->0<=u.getD j 0/\u.getD j 0<=22){k:Nat}(hk:k<=60):∀j,j<c.length→-180<=(ray c u r k).getD j 0/\(ray c u r k).getD j 0<=202:=fun j hj=>by
 have h1:=zJn hC hf r hr j hj;have h2:=hu j hj;rw[zjj hj];generalize (wtR c r).getD j 0=x at*;have h3:(k:Int)*-3<=k*x:=Int.mul_le_mul_of_nonneg_left h1.1 (by omega);have h4:(k:Int)*x<=k*3:=Int.mul_le_mul_of_nonneg_left h1.2 (by omega);omega
theorem zqY(hC:IsC c)(hP:zbI c){u r:LI}(hr:r∈zaq c)(k:Nat):zge c (toV (ray c u r k)) (toV u) fun i=>(k:Int)*r.getD i 0:=by
 have hR:=zkI hP hr;refine⟨fun i hi=>Int.mul_nonneg (by omega) (hR.2 i hi).1,fun j hj=>?_⟩;obtain⟨h1,-,-⟩:=ztO hC hR hj
 have e:(sg c.length fun i=>ent c j i*((k:Int)*r.getD i 0))=sg c.length fun i=>(k:Int)*(ent c j i*r.getD i 0):=zcw fun i _=>by
  rw[<-Int.mul_assoc,Int.mul_comm (ent c j i),Int.mul_assoc]
 rw[e,zmU,<-h1];show(ray c u r k).getD j 0-u.getD j 0=_;rw[zjj hj];omega
def zpe(c:LL):Prop:=∀j,j<c.length->4*(sg c.length fun k=>((zdA c).getD j []).getD k 0)<=50*det c.length c
theorem zzz(hC:IsC c)(hf:zaN c=true)(hP:zbI c){u r:LI}(hr:r∈zaq c)(hu:∀j,j<c.length->0<=u.getD j 0/\u.getD j 0<=22){k:Nat}(hk:k<=60):
 ∃p:Nat->Int,zge c (toV (zbd c (ray c u r k))) (toV u) fun i=>p i+(k:Int)*r.getD i 0:=by
 have hb:=znS hC hf hr hu hk;have ht:=zjh hC hf (zes c u r k) (fun j hj=>by have:=hb j hj;omega);obtain⟨p,hp⟩:=zmV ht.play;exact⟨p,hp.trans (zqY hC hP hr k)⟩
theorem zHM{v u t r:LI}{k:Nat}(h:zbi c v)(hP:zbI c)(hF:zpe c)(hu:zbw c v u)(ht:zbw c v t)(hr:r∈zaq c)(hk:k<=60)(e:zbd c (ray c u r k)=t):k<=50:=by
 have hB:=zfT h.hC h.fin;obtain⟨p,hp⟩:=zzz h.hC h.fin hP hr hu.box hk;rw[e] at hp;obtain⟨q,hq⟩:=ht.low;have h1:=hq.trans hp;obtain⟨-,i,hi,mf⟩:=zji r hr;have h2:=(h1.le hB (fun k hk=>(h.small k hk).2) (fun k hk=>(hu.box k hk).1) hi).1;have h3:=hq.1 i hi;have h4:=hp.1 i hi;have h5:(k:Int)*1<=k*r.getD i 0:=Int.mul_le_mul_of_nonneg_left mf (by omega);obtain⟨l,hl⟩:=zmV (zjh h.hC h.fin (zes c u r k) (fun j hj=>by have:=znS h.hC h.fin hr hu.box hk j hj;omega)).play;have h6:=(hl.trans (zqY h.hC hP hr k)).uniq hB (by rw[e];exact hp) hi;have h7:=hl.1 i hi
 have h8:0<=p i:=by
  have:l i+(k:Int)*r.getD i 0=p i+(k:Int)*r.getD i 0:=h6;omega
 have h9:det c.length c*(k:Int)<=det c.length c*(q i+(p i+(k:Int)*r.getD i 0)):=Int.mul_le_mul_of_nonneg_left (by omega) (Int.le_of_lt hB.pos.1);have SY:=hF i hi;rw[znQ] at h2
 have Mi:det c.length c*(k:Int)<=det c.length c*50:=by
  have:det c.length c*(q i+(p i+(k:Int)*r.getD i 0))<=(sg c.length fun k=>((zdA c).getD i []).getD k 0)*4:=h2;omega
 have:=Int.le_of_mul_le_mul_left Mi hB.pos.1;omega
def pr3(d r x:LI)(n:Nat):Int:=sg n fun i=>r.getD i 0*d.getD i 0*x.getD i 0
def zfH(c:LL)(d r u:LI)(known:List Wt):Nat->Nat->Int
 |0,_=>0
 |f+1,k=>if zaC known (zbd c (ray c u r k))=0 then 0 else zaC known (zbd c (ray c u r k))*pr3 d r (ray c u r k) c.length+zfH c d r u known f (k+1)
def frS(c:LL)(d u:LI)(known:List Wt)(R:LL):Int:=(R.map fun r=>zfH c d r u known 60 1).sum
def zcX(c:LL)(v u:LI):LI:=(List.range c.length).map fun j=>v.getD j 0+u.getD j 0+2
def frV(c:LL)(d v dep:LI)(known:List Wt)(u:LI):Int:=(wrap64 (2*frS c d u known (zaq c))).tdiv (pr3 d dep (zcX c v u) c.length)
theorem zqk{d r u:LI}{K K':List Wt}:∀(f k:Nat),(∀j,k<=j->j<k+f->zaC K (zbd c (ray c u r j))=zaC K' (zbd c (ray c u r j)))->zfH c d r u K f k=zfH c d r u K' f k
 |0,_,_=>rfl
 |f+1,k,h=>by
  unfold zfH;rw[h k (qr _) (by omega),zqk f (k+1) fun j h1 h2=>h j (by omega) (by omega)]
theorem zmW{d v dep u:LI}{K K':List Wt}(h:∀r∈zaq c,∀k,1<=k->k<=60->zaC K (zbd c (ray c u r k))=zaC K' (zbd c (ray c u r k))):frV c d v dep K u=frV c d v dep K' u:=by
 unfold frV frS;have e:(zaq c).map (fun r=>zfH c d r u K 60 1)=(zaq c).map fun r=>zfH c d r u K' 60 1:=List.map_congr_left fun r hr=>zqk 60 1 fun j h1 h2=>h r hr j h1 (by omega)
 rw[e]
theorem zHN{n:Nat}{r:LI}(h:ztN n r)(hp:∃i,i<n/\1<=r.getD i 0):1<=sg n fun i=>r.getD i 0:=by
 obtain⟨i,hi,h1⟩:=hp;have:=zjP (f:=fun i=>r.getD i 0) (fun k hk=>(h.2 k hk).1) hi;exact Int.le_trans h1 this
theorem zls(hC:IsC c)(hf:zaN c=true)(hP:zbI c){u r:LI}(hr:r∈zaq c)(hu:∀j,j<c.length->0<=u.getD j 0/\u.getD j 0<=22){k:Nat}(h1:1<=k)(hk:k<=60):
 hgt c (zdA c) (toV u)<hgt c (zdA c) (toV (zbd c (ray c u r k))):=by
 have hB:=zfT hC hf;have hb:=znS hC hf hr hu hk;obtain⟨l,hl⟩:=zmV (zjh hC hf (zes c u r k) (fun j hj=>by have:=hb j hj;omega)).play;have e1:=Low.hgt hB hl;have e2:=Low.hgt hB (zqY hC hP hr k (u:=u));have h0:=zjO hl.1;have hs:=zHN (zkI hP hr) (zji r hr).2;rw[zmU] at e2;have h3:(1:Int)*1<=(k:Int)*sg c.length fun i=>r.getD i 0:=Int.mul_le_mul (by omega) hs (by omega) (by omega)
 have h4:=Int.mul_nonneg (Int.le_of_lt hB.pos.1) h0;have h5:det c.length c*1<=det c.length c*((k:Int)*sg c.length fun i=>r.getD i 0):=Int.mul_le_mul_of_nonneg_left (by omega) (Int.le_of_lt hB.pos.1);have:=hB.pos;omega
structure zjk(c:LL)(d v:LI)(dep:LI->LI)(L:LL)(out:List Wt):Prop where
 mem:∀x∈out,x.1∈L
 top:zaC out v=1
 low:∀u∈L,u≠v->zaC out u=frV c d v (dep u) out u
theorem zjl{l:List Wt}{v:LI}(h:∀x∈l,x.1≠v):zaC l v=0:=by
 induction l with
 |nil=>rfl
 |cons x l ih=>
  show(if x.1=v then x.2 else zaC l v)=0;rw[if_neg (h x (by simp)),ih fun y hy=>h y (by simp[hy])]
theorem zjk.none{d v u:LI}{dep:LI->LI}{L:LL}{A:List Wt}(h:zjk c d v dep L A)(hu:u ∉ L):zaC A u=0:=
 zjl fun x hx e=>hu (by rw[<-e];exact h.mem x hx)
theorem zjk.uniq{d v:LI}{dep:LI->LI}{L:LL}{A B:List Wt}(h:zbi c v)(hP:zbI c)(hL:∀t∈L,zbw c v t)(hA:zjk c d v dep L A)(hB:zjk c d v dep L B):∀u,zaC A u=zaC B u:=by
 have key:∀(m:Nat) (u:LI),u∈L->hgt c (zdA c) (toV v)-hgt c (zdA c) (toV u)<=m->zaC A u=zaC B u:=by
  intro m
  induction m with
  |zero=>
   intro u hu hm;by_cases e:u=v
   ·rw[e,hA.top,hB.top]
   ·rw[hA.low u hu e,hB.low u hu e];refine zmW fun r hr k h1 hk=>?_
    by_cases ht:zbd c (ray c u r k)∈L
    ·exfalso;have h2:=zls h.hC h.fin hP hr (hL u hu).box h1 hk;obtain⟨q,hq⟩:=(hL _ ht).low;have h3:=Low.hgt (zfT h.hC h.fin) hq;have h4:=Int.mul_nonneg (Int.le_of_lt (zfT h.hC h.fin).pos.1) (zjO hq.1);omega
    ·rw[hA.none ht,hB.none ht]
  |succ m ih=>
   intro u hu hm;by_cases e:u=v
   ·rw[e,hA.top,hB.top]
   ·rw[hA.low u hu e,hB.low u hu e];refine zmW fun r hr k h1 hk=>?_
    by_cases ht:zbd c (ray c u r k)∈L
    ·have h2:=zls h.hC h.fin hP hr (hL u hu).box h1 hk;exact ih _ ht (by omega)
    ·rw[hA.none ht,hB.none ht]
 intro u;by_cases hu:u∈L
 ·exact key _ u hu (Int.self_le_toNat _)
 ·rw[hA.none hu,hB.none hu]
def zaX(c:LL)(d v:LI)(dep:LI->LI)(us:LL):List Wt:=
 us.foldl (fun out u=>out++[(u,if u=v then 1 else frV c d v (dep u) out u)]) []
theorem zhS(d v:LI)(dep:LI->LI)(us:LL)(u:LI):zaX c d v dep (us++[u])=zaX c d v dep us++[(u,if u=v then 1 else frV c d v (dep u) (zaX c d v dep us) u)]:=by
 unfold zaX;rw[List.foldl_append];rfl
theorem zkp{l m:List Wt}{v:LI}(h:∀x∈m,x.1≠v):zaC (l++m) v=zaC l v:=by
 induction l with
 |nil=>exact zjl h
 |cons x l ih=>
  show(if x.1=v then x.2 else zaC (l++m) v)=if x.1=v then x.2 else zaC l v;rw[ih]
theorem zgU{l:List Wt}{v:LI}{n:Int}(h:∀x∈l,x.1≠v):zaC (l++[(v,n)]) v=n:=by
 induction l with
 |nil=>simp[zaC]
 |cons x l ih=>
  show(if x.1=v then x.2 else zaC (l++[(v,n)]) v)=n;rw[if_neg (h x (by simp)),ih fun y hy=>h y (by simp[hy])]
theorem ziH(d v:LI)(dep:LI->LI)(us:LL):(zaX c d v dep us).map (·.1)=us:=by
 have aux:∀(us:LL) (out:List Wt),((us.foldl (fun out u=>out++[(u,if u=v then 1 else frV c d v (dep u) out u)]) out).map (·.1))=out.map (·.1)++us:=by
  intro us
  induction us with
  |nil=>intro out;simp
  |cons u us ih=>intro out;rw[List.foldl_cons,ih];simp
 simpa [zaX] using aux us []
theorem zzA{d v:LI}{dep:LI->LI}(h:zbi c v)(hP:zbI c):∀(us:LL),us.Nodup->(∀t∈us,zbw c v t)->us.Pairwise (fun a b=>hgt c (zdA c) (toV b)<=hgt c (zdA c) (toV a))->
 ∀u∈us,zaC (zaX c d v dep us) u=if u=v then 1 else frV c d v (dep u) (zaX c d v dep us) u:=by
 intro us;generalize hn:us.length=n
 induction n generalizing us with
 |zero=>
  intro _ _ _ u hu;rw[List.length_eq_zero_iff.1 hn] at hu;exact absurd hu (by simp)
 |succ n ih=>
  intro ez hB hp u hu;obtain⟨ws,x,rfl⟩:∃ws x,us=ws++[x]:=⟨us.dropLast,us.getLast (by intro e;rw[e] at hn;simp at hn),(List.dropLast_concat_getLast _).symm⟩;rw[qA] at hn;have hl:ws.length=n:=by simpa using hn
  have ku:=List.nodup_append.1 ez;have uD:=List.pairwise_append.1 hp;have AU:x ∉ ws:=fun hx=>ku.2.2 x hx x (by simp) rfl
  have bI:∀t,t≠x->zaC (zaX c d v dep (ws++[x])) t=zaC (zaX c d v dep ws) t:=fun t ht=>by
   rw[zhS]
   exact zkp fun y hy e=>by
    rw[List.mem_singleton] at hy;subst hy;exact ht e.symm
  have gG:∀t,t∈ws++[x]->frV c d v (dep t) (zaX c d v dep ws) t=frV c d v (dep t) (zaX c d v dep (ws++[x])) t:=fun t ht=>by
   refine zmW fun r hr k h1 hk=>(bI _ fun e=>?_).symm
   have h2:=zls h.hC h.fin hP hr (hB t ht).box h1 hk;rw[e] at h2
   rcases List.mem_append.1 ht with h3|h3
   ·have:=uD.2.2 t h3 x (by simp);omega
   ·rw[List.mem_singleton] at h3;subst h3;omega
  rcases List.mem_append.1 hu with h3|h3
  ·have ao:u≠x:=fun e=>AU (e▸ h3)
   rw[bI u ao,ih ws hl ku.1 (fun t ht=>hB t (by simp[ht])) uD.1 u h3,gG u hu]
  ·rw[List.mem_singleton] at h3;subst h3;rw[<-gG u hu,zhS];refine zgU fun y hy e=>AU ?_
   have hm:y.1∈(zaX c d v dep ws).map (·.1):=List.mem_map.2 ⟨y,hy,rfl⟩;rw[ziH,e] at hm;exact hm
theorem zvV{d v:LI}{dep:LI->LI}(h:zbi c v)(hP:zbI c){us L:LL}(ez:us.Nodup)(hL:∀t,t∈us↔t∈L)(hv:v∈L)(hB:∀t∈L,zbw c v t)(hp:us.Pairwise (fun a b=>hgt c (zdA c) (toV b)<=hgt c (zdA c) (toV a))):
 zjk c d v dep L (zaX c d v dep us):=by
 have hk:=zzA (d:=d) (dep:=dep) h hP us ez (fun t ht=>hB t ((hL t).1 ht)) hp;refine⟨fun x hx=>?_,?_,fun u hu ao=>?_⟩
 ·have hm:x.1∈(zaX c d v dep us).map (·.1):=List.mem_map.2 ⟨x,hx,rfl⟩;rw[ziH] at hm;exact(hL _).1 hm
 ·rw[hk v ((hL v).2 hv),if_pos rfl]
 ·rw[hk u ((hL u).2 hu),if_neg ao]
end
section
def zfl(n:Nat)(o:List Nat):List (List Nat):=((List.range n).filter fun x=>!(o.contains x)).map fun x=>o++[x]
def zbP(n:Nat):Nat->List (List Nat)
 |0=>[[]]
 |k+1=>(zbP n k).flatMap (zfl n)
def fit(a b:LL)(o:List Nat)(i:Nat):Bool:=(List.range o.length).all fun j=>(ent a i (o.getD j 0)==ent b o.length j)&&(ent a (o.getD j 0) i==ent b j o.length)
def mtF(a b:LL):Nat->List Nat->List (List Nat)
 |0,o=>[o]
 |f+1,o=>(List.range a.length).flatMap fun i=>if o.contains i||!(fit a b o i) then[] else mtF a b f (o++[i])
def agr(a b:LL)(o:List Nat):Bool:=(List.range o.length).all fun k=>(List.range o.length).all fun j=>ent a (o.getD k 0) (o.getD j 0)==ent b k j
theorem zgD{n:Nat}:∀{k:Nat} {o:List Nat},o∈zbP n k->o.length=k/\o.Nodup/\∀x∈o,x<n
 |0,o,h=>by
  simp[zbP] at h;subst h;exact⟨rfl,List.Pairwise.nil,by simp⟩
 |k+1,o,h=>by
  simp only[zbP,List.mem_flatMap,zfl,List.mem_map,List.mem_filter,List.mem_range] at h;obtain⟨p,hp,x,⟨hx,kh⟩,rfl⟩:=h;obtain⟨h1,h2,h3⟩:=zgD hp;refine⟨by simp[h1],?_,fun y hy=>?_⟩
  ·rw[List.nodup_append];refine⟨h2,by simp,fun a ha b hb=>?_⟩;simp at hb kh;subst hb;intro e;subst e;exact kh ha
  ·rcases List.mem_append.1 hy with hy|hy
   ·exact h3 y hy
   ·simp at hy;subst hy;exact hx
theorem zdO(o:List Nat)(x:Nat){j:Nat}(h:j<o.length):(o++[x]).getD j 0=o.getD j 0:=by
 simp[List.getD,List.getElem?_append_left h]
theorem zey(o:List Nat)(x:Nat):(o++[x]).getD o.length 0=x:=by simp[List.getD]
theorem zDp(a b:LL)(o:List Nat)(x:Nat)(hd:ent a x x=ent b o.length o.length):agr a b (o++[x])=(agr a b o&&fit a b o x):=by
 rw[Bool.eq_iff_iff];unfold agr fit;simp only[List.all_eq_true,List.mem_range,Bool.and_eq_true,beq_iff_eq,qA,List.length_cons,List.length_nil];constructor
 ·intro h;refine⟨fun k hk j hj=>?_,fun j hj=>⟨?_,?_⟩⟩
  ·have:=h k (by omega) j (by omega)
   rwa [zdO o x hk,zdO o x hj] at this
  ·have:=h o.length (by omega) j (by omega)
   rwa [zey,zdO o x hj] at this
  ·have:=h j (by omega) o.length (by omega)
   rwa [zey,zdO o x hj] at this
 ·rintro ⟨h1,h2⟩ k hk j hj;by_cases ek:k=o.length
  ·by_cases ej:j=o.length
   ·rw[ek,ej,zey];exact hd
   ·rw[ek,zey,zdO o x (by omega)];exact(h2 j (by omega)).1
  ·by_cases ej:j=o.length
   ·rw[ej,zey,zdO o x (by omega)];exact(h2 k (by omega)).2
   ·rw[zdO o x (by omega),zdO o x (by omega)];exact h1 k (by omega) j (by omega)
theorem zoJ{α β:Type}(l:List α)(p:α->Bool)(f:α->List β):(l.filter p).flatMap f=l.flatMap fun x=>if p x then f x else[]:=by
 induction l with
 |nil=>rfl
 |cons x l ih=>
  rw[List.filter_cons,List.flatMap_cons]
  split
  ·rw[List.flatMap_cons,ih]
  ·rw[ih];rfl
theorem zDq(a b:LL)(f:Nat)(o:List Nat):mtF a b (f+1) o=((zfl a.length o).filter fun q=>fit a b o (q.getD o.length 0)).flatMap (mtF a b f):=by
 have e:mtF a b (f+1) o=(List.range a.length).flatMap fun i=>if o.contains i||!(fit a b o i) then[] else mtF a b f (o++[i]):=rfl
 rw[e,zoJ];unfold zfl;rw[List.flatMap_map,zoJ];congr 1;funext i;rw[zey]
 cases h1:o.contains i <;> cases h2:fit a b o i <;> simp
theorem zxb(a b:LL)(hd:∀i j,i<a.length->j<b.length->ent a i i=ent b j j):∀(f k:Nat),k+f<=b.length->((zbP a.length k).filter (agr a b)).flatMap (mtF a b f)=(zbP a.length (k+f)).filter (agr a b)
 |0,k,_=>by
  have:∀l:List (List Nat),l.flatMap (mtF a b 0)=l:=by
   intro l
   induction l with
   |nil=>rfl
   |cons x l ih=>rw[List.flatMap_cons,ih];rfl
  rw[this,Nat.add_zero]
 |f+1,k,hk=>by
  have ih:=zxb a b hd f (k+1) (by omega);rw[show k+(f+1)=k+1+f by omega,<-ih]
  have e:∀l:List (List Nat),(∀o∈l,o.length=k/\∀x∈o,x<a.length)->(l.filter (agr a b)).flatMap (mtF a b (f+1))=((l.flatMap (zfl a.length)).filter (agr a b)).flatMap (mtF a b f):=by
   intro l
   induction l with
   |nil=>intro _;rfl
   |cons o l ihl=>
    intro hl;have h1:=ihl fun p hp=>hl p (by simp[hp])
    obtain⟨ho,-⟩:=hl o (by simp)
    have aL:(zfl a.length o).filter (agr a b)=if agr a b o=true then(zfl a.length o).filter fun q=>fit a b o (q.getD o.length 0) else[]:=by
     have hq:∀q∈zfl a.length o,agr a b q=(agr a b o&&fit a b o (q.getD o.length 0)):=by
      intro q hq;simp only[zfl,List.mem_map,List.mem_filter,List.mem_range] at hq;obtain⟨x,⟨hx,-⟩,rfl⟩:=hq;rw[zey];exact zDp a b o x (hd x o.length hx (by omega))
     by_cases hg:agr a b o=true
     ·rw[if_pos hg];refine List.filter_congr fun q FZ=>?_
      rw[hq q FZ,hg,Bool.true_and]
     ·rw[if_neg hg];refine List.filter_eq_nil_iff.2 fun q FZ=>?_
      rw[hq q FZ];simp[hg]
    rw[List.flatMap_cons,List.filter_append,List.flatMap_append,aL,<-h1,List.filter_cons];by_cases hg:agr a b o=true
    ·rw[if_pos hg,if_pos hg,List.flatMap_cons,zDq]
    ·rw[if_neg hg,if_neg hg];rfl
  exact e _ fun o ho=>⟨(zgD ho).1,(zgD ho).2.2⟩
theorem zxU(a b:LL)(hl:a.length=b.length)(hd:∀i j,i<a.length->j<b.length->ent a i i=ent b j j):mtF a b b.length []=(zbP a.length a.length).filter (agr a b):=by
 have h:=zxb a b hd b.length 0 (by omega);have e:(zbP a.length 0).filter (agr a b)=[[]]:=rfl;rw[e,Nat.zero_add] at h;have e2:([[]]:List (List Nat)).flatMap (mtF a b b.length)=mtF a b b.length []:=by simp
 rw[e2] at h;rw[h,hl]
end
section
abbrev Bs:=List UInt8
def zaw:List (Bs × LL):=[
 ([65,49],[[2]]),
 ([65,50],[[2,-1],[-1,2]]),
 ([65,51],[[2,-1,0],[-1,2,-1],[0,-1,2]]),
 ([65,52],[[2,-1,0,0],[-1,2,-1,0],[0,-1,2,-1],[0,0,-1,2]]),
 ([66,50],[[2,-1],[-2,2]]),
 ([66,51],[[2,-1,0],[-1,2,-1],[0,-2,2]]),
 ([66,52],[[2,-1,0,0],[-1,2,-1,0],[0,-1,2,-1],[0,0,-2,2]]),
 ([67,51],[[2,-1,0],[-1,2,-2],[0,-1,2]]),
 ([67,52],[[2,-1,0,0],[-1,2,-1,0],[0,-1,2,-2],[0,0,-1,2]]),
 ([68,52],[[2,-1,0,0],[-1,2,-1,-1],[0,-1,2,0],[0,-1,0,2]]),
 ([70,52],[[2,-1,0,0],[-1,2,-1,0],[0,-2,2,-1],[0,0,-1,2]]),
 ([71,50],[[2,-1],[-3,2]]),
 ([65,49,126],[[2,-2],[-2,2]]),
 ([65,50,126],[[2,-1,-1],[-1,2,-1],[-1,-1,2]]),
 ([65,51,126],[[2,-1,0,-1],[-1,2,-1,0],[0,-1,2,-1],[-1,0,-1,2]]),
 ([67,50,126],[[2,-1,0],[-2,2,-2],[0,-1,2]]),
 ([71,50,126],[[2,-1,0],[-1,2,-1],[0,-3,2]])]
def tyD:Bs × LL:=([],[])
theorem zzB:∀t∈zaw,IsC t.2:=by decide
theorem zql{k:Nat}(h:k<17):IsC (zaw.getD k tyD).2:=zzB _ (by have hl:zaw.length=17:=rfl;simp[List.getD,hl,h])
theorem zmX(a:LL)(o:List Nat)(k:Nat)(hk:k<o.length):(zaW a (zae o)).getD k []=o.map fun j=>ent a (o.getD k 0) j:=by
 simp[zaW,zae,zaP,List.getD,hk,ent]
theorem zDr{a b:LL}{o:List Nat}(hl:o.length=b.length)(hb:∀i,i<b.length->(b.getD i []).length=b.length):(zaW a (zae o)=b)↔agr a b o=true:=by
 have bP:(zaW a (zae o)).length=o.length:=by simp[zaW,zae]
 unfold agr;simp only[List.all_eq_true,List.mem_range,beq_iff_eq];constructor
 ·intro h k hk j hj;have h1:=zmX a o k hk;rw[h] at h1;unfold ent;rw[h1];simp[List.getD,hj,ent]
 ·intro h;apply List.ext_getElem (by omega);intro k h1 h2;have hk:k<o.length:=by omega
  have e1:=zmX a o k hk;have e2:(zaW a (zae o))[k]=(zaW a (zae o)).getD k []:=by simp[List.getD,h1]
  have e3:b[k]=b.getD k []:=by simp[List.getD,h2]
  rw[e2,e1,e3];have ji:=hb k h2;apply List.ext_getElem (by rw[List.length_map];exact hl.trans ji.symm);intro j g1 g2;have hj:j<o.length:=by simpa using g1
  have h3:=h k hk j hj;unfold ent at h3
  have e4:(b.getD k [])[j]=(b.getD k []).getD j 0:=by
   generalize b.getD k []=r at*;simp[List.getD,g2]
  rw[e4,<-h3];simp[List.getD,hj,ent]
def zfb(a b:LL):Option (List Nat):=if a.length=b.length then(zbP a.length a.length).find? (agr a b) else none
def zdm(a b:LL):Bool:=(zfb a b).isSome
theorem zoK{α:Type}(p:α->Bool):∀l:List α,(l.filter p).take 1=(l.find? p).toList
 |[]=>rfl
 |x::l=>by
  rw[List.filter_cons,List.find?_cons]
  cases h:p x with
  |true=>simp
  |false=>simpa using zoK p l
theorem zJo{a b:LL}(ha:IsC a)(hb:IsC b)(hl:a.length=b.length):(mtF a b b.length []).take 1=(zfb a b).toList:=by
 unfold zfb;rw[if_pos hl,zxU a b hl (fun i j hi hj=>by rw[dg ha hi,dg hb hj]),zoK]
theorem zHO{a b:LL}{o:List Nat}(h:zfb a b=some o):o.length=a.length:=by
 unfold zfb at h
 split at h
 ·exact(zgD (List.mem_of_find?_eq_some h)).1
 ·cases h
theorem zJp{a b:LL}(hl:a.length=b.length){i:Nat}(hi:i<(zbP a.length a.length).length)(h:((zbP a.length a.length).take i).find? (agr a b)=none)(hy:agr a b ((zbP a.length a.length).getD i [])=true):zfb a b=some ((zbP a.length a.length).getD i []):=by
 unfold zfb;rw[if_pos hl];generalize zbP a.length a.length=L at*;have e:L.find? (agr a b)=(L.take i++L.drop i).find? (agr a b):=by rw[List.take_append_drop]
 have e2:L.getD i []=L[i]:=by simp[List.getD,hi]
 rw[e,List.find?_append,h,List.drop_eq_getElem_cons hi,e2];rw[e2] at hy;rw[Option.none_or,List.find?_cons_of_pos hy]
theorem zzC{α:Type}{p:α->Bool}{l:List α}{i:Nat}{d:α}(hi:i<l.length)(h:(l.take i).find? p=none)(hn:p (l.getD i d)=false):(l.take (i+1)).find? p=none:=by
 have e:l.take (i+1)=l.take i++[l[i]]:=qT hi;have e2:l.getD i d=l[i]:=by simp[List.getD,hi]
 rw[e2] at hn;rw[e,List.find?_append,h,Option.none_or,List.find?_cons_of_neg (by rw[hn];simp)];rfl
def zdY(c:LL):Bs:=match zaw.find? fun t=>zdm c t.2 with
 |some t=>t.1
 |none=>[63]
def zeQ(c:LL)(k:Nat):Option Bs:=((zaw.take k).find? fun t=>zdm c t.2).map (·.1)
theorem zkq{c:LL}{k:Nat}(hk:k<17)(h:zeQ c k=none):zeQ c (k+1)=if zdm c (zaw.getD k tyD).2=true then some (zaw.getD k tyD).1 else none:=by
 have hl:zaw.length=17:=rfl;have qI:k<zaw.length:=by rw[hl];exact hk
 unfold zeQ at*;rw[Option.map_eq_none_iff] at h;have e:zaw.take (k+1)=zaw.take k++[zaw[k]]:=qT qI;have e2:zaw.getD k tyD=zaw[k]:=by simp[List.getD,qI]
 rw[e,e2,List.find?_append,h]
 cases hb:zdm c zaw[k].2 <;> simp[List.find?,hb]
theorem zoL{c:LL}{k:Nat}(hk:k<17)(h:zeQ c k=none)(hi:zdm c (zaw.getD k tyD).2=true):zdY c=(zaw.getD k tyD).1:=by
 have h1:=zkq hk h;rw[if_pos hi] at h1;unfold zeQ at h1;unfold zdY;have e:zaw.find? (fun t=>zdm c t.2)=(zaw.take (k+1)++zaw.drop (k+1)).find? fun t=>zdm c t.2:=by rw[List.take_append_drop]
 rw[e,List.find?_append]
 cases hf:(zaw.take (k+1)).find? fun t=>zdm c t.2 with
 |none=>rw[hf] at h1;simp at h1
 |some t=>
  rw[hf] at h1;simp only[Option.map_some,Option.some.injEq] at h1;exact h1
theorem zqm{c:LL}(h:zeQ c 17=none):zdY c=[63]:=by
 have e:zaw.take 17=zaw:=rfl;unfold zeQ at h;rw[e,Option.map_eq_none_iff] at h;unfold zdY;rw[h]
def zaT(s:Bs):Int:=
 if s=[65,49] then 2 else if s=[65,50] then 6 else if s=[65,51] then 24 else if s=[65,52] then 120 else if s=[66,50] then 8
 else if s=[66,51]∨s=[67,51] then 48 else if s=[66,52]∨s=[67,52] then 384 else if s=[68,52] then 192 else if s=[70,52] then 1152 else if s=[71,50] then 12 else 0
def zaA:List Bs:=zaw.map (·.1)++[[63]]
theorem zrP(c:LL):zdY c∈zaA:=by
 unfold zdY
 split
 ·rename_i t h
  exact List.mem_append_left _ (List.mem_map_of_mem (List.mem_of_find?_eq_some h))
 ·exact List.mem_append_right _ (by simp)
theorem zgE:∀s∈zaA,(120:UInt8) ∉ s/\s.length<=3/\1<=s.length/\0<=zaT s/\zaT s<=1152:=by decide
end
end Go.Proofs.YtlgcmaoimpgedaaGreatDoor

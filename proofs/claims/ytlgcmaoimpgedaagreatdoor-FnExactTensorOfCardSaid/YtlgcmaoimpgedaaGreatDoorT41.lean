/- Smz Chp Dtp Tnz -/
import Derived.Test.YtlgcmaoimpgedaaGreatDoorT40
import Derived.Test.YtlgcmaoimpgedaaGreatDoorT39
set_option maxRecDepth 100000
set_option linter.unusedSimpArgs false
namespace Go.Proofs.YtlgcmaoimpgedaaGreatDoor
open Go.Value renaming slice->qS
section
open Go.RowKit Game
def Cg(a b:Int):Prop:=(a-b) % 18446744073709551616=0
theorem Cg.refl(a:Int):Cg a a:=by unfold Cg;omega
theorem Cg.trans{a b d:Int}(h:Cg a b)(h':Cg b d):Cg a d:=by unfold Cg at*;omega
theorem Cg.symm{a b:Int}(h:Cg a b):Cg b a:=by unfold Cg at*;omega
theorem Cg.of{a b:Int}(h:a=b):Cg a b:=by rw[h];exact Cg.refl b
theorem Cg.wrap(a:Int):Cg (wrap64 a) a:=by unfold Cg wrap64;omega
def InR(x:Int):Prop:=-9223372036854775808<=x/\x<=9223372036854775807
theorem zlL(a:Int):InR (wrap64 a):=by unfold InR wrap64;omega
theorem Cg.eq{a b:Int}(h:Cg a b)(ha:InR a)(hb:InR b):a=b:=by unfold Cg InR at*;omega
def InZ(l:List Wt):Prop:=∀x∈l,InR x.2
structure zhN(l out:List Wt):Prop where
 desc:Desc out
 nz:∀x∈out,x.2≠0
 inr:InZ out
 cnt:∀v,Cg (zbO out v) (zbO l v)
theorem zrt:∀{l:List Wt},Desc l->InZ l->∀v,InR (zbO l v)
 |[],_,_,v=>by show InR 0;unfold InR;omega
 |x::xs,h,hr,v=>by
  have h1:=(List.pairwise_cons.1 h).1;rw[zaR];by_cases e:x.1=v
  ·rw[if_pos e,zev fun y hy=>by rw[<-e];exact zdx (h1 y hy),Int.add_zero];exact hr x (by simp)
  ·rw[if_neg e,Int.zero_add];exact zrt (List.pairwise_cons.1 h).2 (fun y hy=>hr y (by simp[hy])) v
theorem zhN.uniq{l a b:List Wt}(h:zhN l a)(h':zhN l b):a=b:=
 zvi h.desc h'.desc h.nz h'.nz fun v=>((h.cnt v).trans (h'.cnt v).symm).eq (zrt h.desc h.inr v) (zrt h'.desc h'.inr v)
def zcQ:List Wt->LI->Int->List Wt
 |[],v,n=>if n=0 then[] else[(v,n)]
 |x::xs,v,n=>if x.1=v then(if wrap64 (x.2+n)=0 then xs else(x.1,wrap64 (x.2+n))::xs) else if zbc v x.1<0 then(if n=0 then x::xs else(v,n)::x::xs) else x::zcQ xs v n
theorem zvj(v:LI)(n:Int)(u:LI):∀l:List Wt,Cg (zbO (zcQ l v n) u) (zbO l u+if v=u then n else 0)
 |[]=>by
  unfold zcQ
  split
  ·rename_i h;exact Cg.of (by simp[zbO,h])
  ·exact Cg.of (by simp[zbO])
 |x::xs=>by
  unfold zcQ
  split
  ·rename_i h
   have hw:=Cg.wrap (x.2+n)
   split
   ·rename_i h2
    rw[h2] at hw;rw[zaR,h];unfold Cg at*
    split <;> omega
   ·rw[zaR,zaR,h];unfold Cg at*;generalize wrap64 (x.2+n)=z at*;show((if v=u then z else 0)+_-_) % _=0
    split <;> omega
  ·split
   ·split
    ·rename_i h;exact Cg.of (by simp[h])
    ·rw[zaR];exact Cg.of (by show(if v=u then n else 0)+_=_;omega)
   ·rw[zaR,zaR];have:=zvj v n u xs;unfold Cg at*;omega
theorem zpA(v:LI)(n:Int):∀(l:List Wt) (x:Wt),x∈zcQ l v n->x.1=v∨∃y∈l,y.1=x.1
 |[],x,h=>by
  unfold zcQ at h
  split at h
  ·simp at h
  ·simp at h;exact .inl (by rw[h])
 |y::ys,x,h=>by
  unfold zcQ at h
  split at h
  ·rename_i e
   split at h
   ·exact .inr ⟨x,by simp[h],rfl⟩
   ·rcases List.mem_cons.1 h with rfl|h
    ·exact .inl e
    ·exact .inr ⟨x,by simp[h],rfl⟩
  ·split at h
   ·split at h
    ·exact .inr ⟨x,h,rfl⟩
    ·rcases List.mem_cons.1 h with rfl|h
     ·exact .inl rfl
     ·exact .inr ⟨x,h,rfl⟩
   ·rcases List.mem_cons.1 h with rfl|h
    ·exact .inr ⟨x,by simp,rfl⟩
    ·rcases zpA v n ys x h with h|⟨z,hz,e⟩
     ·exact .inl h
     ·exact .inr ⟨z,by simp[hz],e⟩
theorem zsg(v:LI)(n:Int):∀l:List Wt,Desc l->Desc (zcQ l v n)
 |[],_=>by
  unfold zcQ
  split
  ·exact List.Pairwise.nil
  ·exact List.pairwise_singleton _ _
 |x::xs,h=>by
  have h1:=(List.pairwise_cons.1 h).1;have h2:=(List.pairwise_cons.1 h).2;unfold zcQ
  split
  ·split
   ·exact h2
   ·exact List.pairwise_cons.2 ⟨h1,h2⟩
  ·rename_i ao
   split
   ·rename_i ac
    split
    ·exact h
    ·refine List.pairwise_cons.2 ⟨fun y hy=>?_,h⟩
     rcases List.mem_cons.1 hy with rfl|hy
     ·exact ac
     ·exact zhk ac (h1 y hy)
   ·rename_i hnl
    refine List.pairwise_cons.2 ⟨fun y hy=>?_,zsg v n xs h2⟩
    rcases zpA v n xs y hy with e|⟨z,hz,e⟩
    ·rw[e]
     rcases zpz x.1 v with g|g|g
     ·exact g
     ·exact absurd g ao
     ·exact absurd g hnl
    ·rw[<-e];exact h1 z hz
theorem zxt(v:LI)(n:Int):∀l:List Wt,(∀x∈l,x.2≠0)->∀x∈zcQ l v n,x.2≠0
 |[],_,x,hx=>by
  unfold zcQ at hx
  split at hx
  ·simp at hx
  ·rename_i h;simp at hx;rw[hx];exact h
 |y::ys,h,x,hx=>by
  unfold zcQ at hx
  split at hx
  ·split at hx
   ·exact h x (by simp[hx])
   ·rename_i h2
    rcases List.mem_cons.1 hx with rfl|hx
    ·exact h2
    ·exact h x (by simp[hx])
  ·split at hx
   ·split at hx
    ·exact h x hx
    ·rename_i h2
     rcases List.mem_cons.1 hx with rfl|hx
     ·exact h2
     ·exact h x hx
   ·rcases List.mem_cons.1 hx with rfl|hx
    ·exact h x (by simp)
    ·exact zxt v n ys (fun z hz=>h z (by simp[hz])) x hx
theorem zvk(v:LI){n:Int}(hn:InR n):∀l:List Wt,InZ l->InZ (zcQ l v n)
 |[],_=>by
  unfold zcQ
  split
  ·intro x hx;simp at hx
  ·intro x hx;simp at hx;subst hx;exact hn
 |y::ys,h=>by
  have hy:=h y (by simp);have AQ:InZ ys:=fun x hx=>h x (by simp[hx])
  unfold zcQ
  split
  ·split
   ·exact AQ
   ·intro x hx
    rcases List.mem_cons.1 hx with rfl|hx
    ·exact zlL _
    ·exact AQ x hx
  ·split
   ·split
    ·exact h
    ·intro x hx
     rcases List.mem_cons.1 hx with rfl|hx
     ·exact hn
     ·exact h x hx
   ·intro x hx
    rcases List.mem_cons.1 hx with rfl|hx
    ·exact hy
    ·exact zvk v hn ys AQ x hx
theorem zhN.nil:zhN [] []:=⟨List.Pairwise.nil,by simp,by intro x hx;simp at hx,fun _=>Cg.refl _⟩
theorem zhN.put{l out:List Wt}(h:zhN l out)(v:LI){n:Int}(hn:InR n):zhN (l++[(v,n)]) (zcQ out v n):=
 ⟨zsg v n out h.desc,zxt v n out h.nz,zvk v hn out h.inr,fun u=>by
  rw[zlJ,zaR];have h1:=zvj v n u out;have h2:=h.cnt u;have e:zbO [] u=0:=rfl;rw[e];show Cg _ (zbO l u+((if v=u then n else 0)+0));unfold Cg at*;omega⟩
def zdC(acc:List Wt)(x:Wt):List Wt:=match acc.getLast? with
 |none=>[x]
 |some u=>if u.1=x.1 then acc.dropLast++[(u.1,wrap64 (u.2+x.2))] else acc++[x]
theorem zFX(acc:List Wt)(x:Wt)(v:LI):Cg (zbO (zdC acc x) v) (zbO acc v+zbO [x] v):=by
 unfold zdC
 split
 ·rename_i h
  rw[List.getLast?_eq_none_iff] at h;subst h;exact Cg.of (by simp[zbO])
 ·rename_i u h
  obtain⟨ys,rfl⟩:=List.getLast?_eq_some_iff.1 h
  split
  ·rename_i e
   rw[List.dropLast_concat,zlJ,zlJ,zaR,zaR,zaR,e];show Cg (_+((if x.1=v then wrap64 (u.2+x.2) else 0)+zbO [] v)) _;simp only[zbO,List.map_nil,List.sum_nil];have hw:=Cg.wrap (u.2+x.2);unfold Cg at*
   split <;> omega
  ·rw[zlJ];exact Cg.refl _
theorem zBc{acc:List Wt}{x:Wt}(h:Desc acc)(hl:∀u,acc.getLast? =some u->zbc u.1 x.1<0∨u.1=x.1):Desc (zdC acc x):=by
 unfold zdC
 split
 ·exact List.pairwise_singleton _ _
 ·rename_i u hu
  obtain⟨ys,rfl⟩:=List.getLast?_eq_some_iff.1 hu;have h1:=List.pairwise_append.1 h
  split
  ·rw[List.dropLast_concat]
   exact List.pairwise_append.2 ⟨h1.1,List.pairwise_singleton _ _,fun a ha b hb=>by
    rw[List.mem_singleton.1 hb];exact h1.2.2 a ha u (by simp)⟩
  ·rename_i ao
   have ul:zbc u.1 x.1<0:=by rcases hl u hu with g|g;exact g;exact absurd g ao
   refine List.pairwise_append.2 ⟨h,List.pairwise_singleton _ _,fun a ha b hb=>?_⟩;rw[List.mem_singleton.1 hb]
   rcases List.mem_append.1 ha with ha|ha
   ·exact zhk (h1.2.2 a ha u (by simp)) ul
   ·rw[List.mem_singleton.1 ha];exact ul
theorem zBd{acc:List Wt}{x u:Wt}(h:(zdC acc x).getLast? =some u):u.1=x.1:=by
 unfold zdC at h
 split at h
 ·simp at h;rw[h]
 ·rename_i t ht
  split at h
  ·rename_i e
   simp at h;rw[<-h];exact e
  ·simp at h;rw[h]
theorem zFY{acc:List Wt}{x:Wt}(h:InZ acc)(hx:InR x.2):InZ (zdC acc x):=by
 unfold zdC
 split
 ·intro y hy;simp at hy;subst hy;exact hx
 ·rename_i u hu
  obtain⟨ys,rfl⟩:=List.getLast?_eq_some_iff.1 hu
  split
  ·intro y hy;rw[List.dropLast_concat] at hy
   rcases List.mem_append.1 hy with hy|hy
   ·exact h y (by simp[hy])
   ·simp at hy;rw[hy];exact zlL _
  ·intro y hy
   rcases List.mem_append.1 hy with hy|hy
   ·exact h y hy
   ·simp at hy;rw[hy];exact hx
theorem zvl:∀(l acc:List Wt),Desc acc->InZ acc->InZ l->(∀u,acc.getLast? =some u->∀y∈l,¬zbc y.1 u.1<0)->l.Pairwise (fun x y=>¬zbc y.1 x.1<0)->
 Desc (l.foldl zdC acc)/\InZ (l.foldl zdC acc)/\∀v,Cg (zbO (l.foldl zdC acc) v) (zbO acc v+zbO l v)
 |[],acc,h,hr,_,_,_=>⟨h,hr,fun v=>Cg.of (by simp[zbO])⟩
 |x::l,acc,h,hr,fc,hl,hp=>by
  have ls:=List.pairwise_cons.1 hp
  have h1:=zvl l (zdC acc x) (zBc h fun u hu=>by
   have:=hl u hu x (by simp)
   rcases zpz u.1 x.1 with g|g|g
   ·exact .inl g
   ·exact .inr g
   ·exact absurd g this) (zFY hr (fc x (by simp))) (fun y hy=>fc y (by simp[hy])) (fun u hu y hy=>by rw[zBd hu];exact ls.1 y hy) ls.2
  refine⟨h1.1,h1.2.1,fun v=>?_⟩;have h2:=h1.2.2 v;have h3:=zFX acc x v;show Cg (zbO (l.foldl zdC (zdC acc x)) v) _;rw[zaR] at h3 ⊢;have e:zbO [] v=0:=rfl;rw[e] at h3;unfold Cg at*;omega
theorem zBe{l s:List Wt}(hp:s.Perm l)(hs:s.Pairwise fun x y=>¬zbc y.1 x.1<0)(hr:InZ l):zhN l ((s.foldl zdC []).filter fun x=>!(x.2==0)):=by
 obtain⟨h1,h2,h3⟩:=zvl s [] List.Pairwise.nil (by intro x hx;simp at hx) (fun x hx=>hr x (hp.mem_iff.1 hx)) (by simp) hs;refine⟨List.Pairwise.filter _ h1,fun x hx=>?_,fun x hx=>h2 x (List.mem_filter.1 hx).1,fun v=>?_⟩
 ·have:=(List.mem_filter.1 hx).2;simpa using this
 ·rw[zlK];have h4:=h3 v;rw[zBb hp v] at h4;have e:zbO [] v=0:=rfl;rw[e,Int.zero_add] at h4;exact h4
def zcR(l:List Wt):List Wt:=l.foldl (fun acc x=>zcQ acc x.1 x.2) []
theorem zsh:∀(l m out:List Wt),InZ l->zhN m out->zhN (m++l) (l.foldl (fun acc x=>zcQ acc x.1 x.2) out)
 |[],m,out,_,h=>by rw[List.append_nil];exact h
 |x::l,m,out,hr,h=>by
  have:=zsh l (m++[x]) (zcQ out x.1 x.2) (fun y hy=>hr y (by simp[hy])) (h.put x.1 (hr x (by simp)));rw[List.append_assoc] at this;exact this
theorem zkU{l:List Wt}(hr:InZ l):zhN l (zcR l):=zsh l [] [] hr zhN.nil
theorem zsi(l:List Wt)(v:LI)(n:Int):zcR (l++[(v,n)])=zcQ (zcR l) v n:=by unfold zcR;rw[List.foldl_append];rfl
def zbX(v:LI)(n:Int):List Wt->Bool->List Wt
 |[],pl=>if pl=true then[] else if n=0 then[] else[(v,n)]
 |x::xs,pl=>if x.1=v then(if wrap64 (x.2+n)=0 then zbX v n xs true else(x.1,wrap64 (x.2+n))::zbX v n xs true)
   else if pl=false/\zbc v x.1<0 then(if n=0 then x::zbX v n xs true else(v,n)::x::zbX v n xs true) else x::zbX v n xs pl
theorem zlM(v:LI)(n:Int):∀l:List Wt,(∀y∈l,y.1≠v)->zbX v n l true=l
 |[],_=>rfl
 |x::xs,h=>by
  unfold zbX;rw[if_neg (h x (by simp)),if_neg (by simp),zlM v n xs fun y hy=>h y (by simp[hy])]
theorem zsj(v:LI)(n:Int):∀l:List Wt,Desc l->zbX v n l false=zcQ l v n
 |[],_=>by unfold zbX zcQ;simp
 |x::xs,h=>by
  have h1:=(List.pairwise_cons.1 h).1;have h2:=(List.pairwise_cons.1 h).2;unfold zbX zcQ;by_cases e:x.1=v
  ·rw[if_pos e,if_pos e];have ht:=zlM v n xs fun y hy=>by rw[<-e];exact zdx (h1 y hy)
   rw[ht]
  ·rw[if_neg e,if_neg e];by_cases g:zbc v x.1<0
   ·rw[if_pos ⟨rfl,g⟩,if_pos g];have ht:=zlM v n xs fun y hy=>zdx (zhk g (h1 y hy))
    rw[ht]
   ·rw[if_neg (fun q=>g q.2),if_neg g,zsj v n xs h2]
end
section
open Go.RowKit Game
variable {c:LL}
def ChM(c:LL)(v:LI)(l:List Wt)(b:Bool):Prop:=
 ∃W bW out bO,WtM c v W bW/\MlM c v out bO/\((bW=true/\bO=true/\l=zfX c W out/\b=true)∨((bW=false∨bO=false)/\l=[]/\b=false))
structure WtF(c:LL)(W:LL):Prop where
 few:W.length<=200
 dom:∀x∈W,zbY c x
 box:∀x∈W,∀j,j<c.length→-750<=x.getD j 0/\x.getD j 0<=750
theorem zBf(hG:Grp c):∀w:List Nat,(∀i∈w,i<c.length)->∀j,j<c.length→-30<=act (ent c) w (toV (zax c.length)) j/\act (ent c) w (toV (zax c.length)) j<=30:=fun w hw j hj=>by
 obtain⟨W,hW,hl,he⟩:=ziG hG.hC hG.fin w hw;have h1:=hG.bd W.length W hW j;rw[he];have h2:toV (imgL c W) j=act (ent c) W (toV (zax c.length)) j:=congrFun (zeZ hG.hC hW.nf.lt (by omega)) j;rw[<-h2];exact h1
theorem znA{v:LI}{W:LL}(hS:zbi c v)(hP:zbI c)(hs:szO c<=200)(h:WtM c v W true):WtF c W:=by
 obtain⟨L,bL,hL,hM⟩:=h
 rcases hM with⟨rfl,hA⟩|⟨-,-,h⟩
 ·rcases hL with⟨h1,-,-⟩|⟨-,-,h⟩
  ·rcases hA with⟨a1,a2,-⟩|⟨-,-,h⟩
   ·have hG:=zzT hS.fin (Bool.and_eq_true_iff.1 (zrl (zgG hS.fin) hS.fin)).2 hs
    have gh:∀x∈W,x.length=c.length/\∀j,j<c.length→-750<=x.getD j 0/\x.getD j 0<=750:=fun x hx=>by
     obtain⟨t,ht,kh⟩:=(a1.2 x).1 hx;have hb:=zbw.rch hS hP ((h1.2 t).1 ht);exact⟨kh.1,zII (hb.domW hS) hb.box kh (zBf hG)⟩
    exact⟨a2,fun x hx=>⟨hS.hC,hS.fin,(gh x hx).1,fun j hj=>by have:=(gh x hx).2 j (by rw[<-(gh x hx).1];exact hj);omega⟩,fun x hx=>(gh x hx).2⟩
   ·cases h
  ·cases h
 ·cases h
theorem zof{v:LI}{out:List Wt}{b:Bool}(h:MlM c v out b):out.length<=200/\(∀x∈out,x.1.length=c.length)/\(b=true->szO c<=200)/\∀x∈out,InR x.2:=by
 rcases h with⟨-,hs,L,-,-,-,h1,h2⟩|⟨rfl,rfl,-⟩
 ·exact⟨h1,fun x hx=>(h2 x hx).1.len,fun _=>hs,fun x hx=>(h2 x hx).2⟩
 ·exact⟨by simp,by simp,by simp,by simp⟩
theorem zwJ{out:List Wt}(h:∀x∈out,InR x.2)(u:LI):InR (zaC out u):=by
 induction out with
 |nil=>show InR 0;unfold InR;omega
 |cons x l ih=>
  show InR (if x.1=u then x.2 else zaC l u)
  split
  ·exact h x (by simp)
  ·exact ih fun y hy=>h y (by simp[hy])
theorem zvm{W:LL}{A B:List Wt}(h:∀u,zaC A u=zaC B u):zfX c W A=zfX c W B:=by
 unfold zfX;exact List.map_congr_left fun x _=>by rw[h]
theorem zvn(c:LL)(W:LL)(out:List Wt):(zfX c W out).length=W.length:=by simp[zfX]
theorem zqK(c:LL)(W:LL)(out:List Wt){k:Nat}(hk:k<W.length):zfX c (W.take (k+1)) out=zfX c (W.take k) out++[(W.getD k [],zaC out (zbd c (W.getD k [])))]:=by
 have e:W.getD k []=W[k]:=by simp[List.getD,hk]
 unfold zfX;rw[qT hk,e,List.map_append];rfl
structure ChF(c:LL)(l:List Wt):Prop where
 few:l.length<=200
 len:∀x∈l,x.1.length=c.length
 box:∀x∈l,∀j,j<c.length→-750<=x.1.getD j 0/\x.1.getD j 0<=750
 inr:InZ l
theorem zgK{v:LI}{l:List Wt}{b:Bool}(hS:zbi c v)(hP:zbI c)(h:ChM c v l b):ChF c l:=by
 obtain⟨W,bW,out,bO,hW,hO,h⟩:=h
 rcases h with⟨rfl,rfl,rfl,-⟩|⟨-,rfl,-⟩
 ·obtain⟨h1,h2,h3,h4⟩:=zof hO;have hF:=znA hS hP (h3 rfl) hW;refine⟨by rw[zvn];exact hF.few,fun x hx=>?_,fun x hx=>?_,fun x hx=>?_⟩
  ·obtain⟨y,hy,rfl⟩:=List.mem_map.1 hx;exact(hF.dom y hy).len
  ·obtain⟨y,hy,rfl⟩:=List.mem_map.1 hx;exact hF.box y hy
  ·obtain⟨y,hy,rfl⟩:=List.mem_map.1 hx;exact zwJ h4 _
 ·exact⟨by simp,by simp,by simp,by intro x hx;simp at hx⟩
end
section
open Go.RowKit Game
def zdD(c:LL)(v:LI):LI × Int:=
 if(0:Int)∈zbd c (zbz c.length v) then([],0) else(zaS (zbd c (zbz c.length v)) (zax c.length) (-1),zrm (zae (zcv c (zbz c.length v))))
section
variable {c:LL} {v:LI}
theorem zsk{k:Nat}(hk:k<(zbd c (zbz c.length v)).length)(h0:(zbd c (zbz c.length v)).getD k 0=0):zdD c v=([],0):=by
 unfold zdD;rw[if_pos];rw[<-h0];simp[List.getD,hk]
theorem zxu(h:∀j,j<(zbd c (zbz c.length v)).length->(zbd c (zbz c.length v)).getD j 0≠0):zdD c v=(zaS (zbd c (zbz c.length v)) (zax c.length) (-1),zrm (zae (zcv c (zbz c.length v)))):=by
 unfold zdD;rw[if_neg];intro hm;obtain⟨j,hj,e⟩:=List.mem_iff_getElem.1 hm;exact h j hj (by simpa [List.getD,hj] using e)
structure zru(c:LL)(v:LI):Prop where
 wt:zir c v
 dom:zbY c (zbz c.length v)
 len:(zbd c (zbz c.length v)).length=c.length
 box:∀j,j<c.length→-1000000<=(zbd c (zbz c.length v)).getD j 0/\(zbd c (zbz c.length v)).getD j 0<=1000000
theorem zFZ{t x:LI}(hD:zbY c t)(ht:∀j,j<c.length→-800<=t.getD j 0/\t.getD j 0<=800)(hx:zbv c t x)
 (hI:∀w:List Nat,(∀i∈w,i<c.length)->∀j,j<c.length→-30<=act (ent c) w (toV (zax c.length)) j/\act (ent c) w (toV (zax c.length)) j<=30):
 ∀j,j<c.length→-200000<=x.getD j 0/\x.getD j 0<=200000:=by
 obtain⟨hl,w,hw,e⟩:=hx;intro j hj;have hA:=zbS hD.hC;have hK:=fun(d:Vec) (hd:∀i,i<c.length->0<d i/\d i<2000*toV (zax c.length) i)=>zuK (r:=toV (zax c.length)) (d:=d) (K:=2000) hA (by decide) (zjd c.length) hd hw hj (hI w hw j hj)
 have h1:=hK (fun k=>toV t k+900) (fun i hi=>by
  have:=ht i hi;have e1:=zgv c.length i hi;show 0<t.getD i 0+900/\t.getD i 0+900<2000*toV (zax c.length) i;rw[e1];omega)
 have h2:=hK (fun _=>900) (fun i hi=>by
  have e1:=zgv c.length i hi;show 0<(900:Int)/\(900:Int)<2000*toV (zax c.length) i;rw[e1];omega)
 rw[zxs (a:=toV t) (b:=fun _=>(900:Int))] at h1;have e2:x.getD j 0=act (ent c) w (toV t) j:=congrFun e j;rw[e2];have h3:-(2000*30)<=act (ent c) w (toV t) j+act (ent c) w (fun _=>(900:Int)) j/\act (ent c) w (toV t) j+act (ent c) w (fun _=>(900:Int)) j<=2000*30:=h1;have h4:-(2000*30)<=act (ent c) w (fun _=>(900:Int)) j/\act (ent c) w (fun _=>(900:Int)) j<=2000*30:=h2;omega
theorem zIL(hC:IsC c)(hf:zaN c=true)(hs:szO c<=200)(hl:v.length=c.length)(hb:∀j,j<c.length→-799<=v.getD j 0/\v.getD j 0<=799):zru c v:=by
 have hG:=zzT hf (Bool.and_eq_true_iff.1 (zrl (zgG hf) hf)).2 hs
 have hp:∀j,j<c.length->(zbz c.length v).getD j 0=v.getD j 0+1:=fun j hj=>by
  have e:(zax c.length).getD j 0=1:=by simp[zax,List.getD,hj]
  have h:=hb j hj;show(addTo v (zax c.length) c.length).getD j 0=_;unfold addTo;have e3:((List.range c.length).map fun j=>wrap64 (v.getD j 0+(zax c.length).getD j 0)).getD j 0=wrap64 (v.getD j 0+(zax c.length).getD j 0):=by simp[List.getD,hj]
  rw[e3,e];exact IntWalk.wrap64_in _ ⟨by omega,by omega⟩
 have hD:zbY c (zbz c.length v):=⟨hC,hf,zeU _ _,fun j hj=>by
  rw[zeU] at hj;have:=hb j hj;rw[hp j hj];omega⟩
 have hT:=(zqi hD).1.end_;refine⟨⟨hC,hl,fun j hj=>by have:=hb j (by omega);omega⟩,hD,hT.1,fun j hj=>?_⟩;have:=zFZ hD (fun i hi=>by have:=hb i hi;rw[hp i hi];omega) hT (zBf hG) j hj;unfold zbd;omega
theorem zvo(h:zru c v):(zdD c v).1.length<=c.length:=by
 unfold zdD
 split
 ·exact qz _
 ·show(zaS _ _ _).length<=_;rw[zcU,h.len];exact qr _
end
end
section
open Go.RowKit Game
variable {c:LL}
theorem zJL{v:LI}(hS:zbi c v):∃out b,MlM c v out b:=by
 have hP:=zcJ hS.fin;have hK:=zpm hS.fin;obtain⟨L,bL,hL⟩:=znP (nxD c) (zaq c).length v
 rcases hL with⟨h1,h2,-⟩|⟨h1,-,-⟩
 ·by_cases hs:szO c<=200
  ·let le:LI->LI->Bool:=fun a b=>decide (zak (zaD c v a)<=zak (zaD c v b))
   have hp:=List.mergeSort_perm L le;have hm:∀t,t∈L.mergeSort le↔t∈L:=fun t=>hp.mem_iff
   have aL:zgx c v (L.mergeSort le):=by
    refine⟨hp.nodup_iff.2 h1.1.nodup,fun t ht=>zbw.rch hS hP ((h1.2 t).1 ((hm t).1 ht)),(hm v).2 ((h1.2 v).2 (Rch.self v)),?_⟩
    have h3:=List.pairwise_mergeSort (le:=le) (fun a b d h h'=>by
     have h:=of_decide_eq_true h;have h':=of_decide_eq_true h';exact decide_eq_true (Int.le_trans h h')) (fun a b=>by
     rcases Int.le_total (zak (zaD c v a)) (zak (zaD c v b)) with h|h
     ·show(decide _||decide _)=true;rw[decide_eq_true h];rfl
     ·show(decide _||decide _)=true;rw[decide_eq_true h,Bool.or_true]) L
    exact h3.imp fun h=>of_decide_eq_true h
   exact⟨_,_,aL.done hK hS hP (zro hS.hC hS.fin hs) hs h1 h2 hm (by rw[hp.length_eq];exact h2)⟩
  ·exact⟨[],false,.inr ⟨rfl,rfl,.inl hs⟩⟩
 ·exact⟨[],false,.inr ⟨rfl,rfl,.inr h1⟩⟩
theorem zJM{v:LI}(hS:zbi c v):∃l b,ChM c v l b:=by
 obtain⟨W,bW,hW⟩:=zJH c v;obtain⟨out,bO,hO⟩:=zJL hS
 cases bW with
 |false=>exact⟨[],false,W,false,out,bO,hW,hO,.inr ⟨.inl rfl,rfl,rfl⟩⟩
 |true=>
  cases bO with
  |false=>exact⟨[],false,W,true,out,false,hW,hO,.inr ⟨.inr rfl,rfl,rfl⟩⟩
  |true=>exact⟨_,true,W,true,out,true,hW,hO,.inl ⟨rfl,rfl,rfl,rfl⟩⟩
theorem zfP{v:LI}{l:List Wt}(h:ChM c v l true):szO c<=200:=by
 obtain⟨W,bW,out,bO,hW,hO,h⟩:=h
 rcases h with⟨-,rfl,-,-⟩|⟨-,-,h⟩
 ·exact(zof hO).2.2.1 rfl
 ·cases h
theorem zog{v:LI}{l:List Wt}(h:ChM c v l false):l=[]:=by
 obtain⟨W,bW,out,bO,hW,hO,h⟩:=h
 rcases h with⟨-,-,-,h⟩|⟨-,h,-⟩
 ·cases h
 ·exact h
def zfp(c:LL)(v:LI)(x:Wt):List Wt:=
 if(zdD c (addTo v x.1 c.length)).2=0 then[] else[((zdD c (addTo v x.1 c.length)).1,wrap64 ((zdD c (addTo v x.1 c.length)).2*x.2))]
def zcm(c:LL)(v:LI)(l:List Wt):List Wt:=l.flatMap (zfp c v)
theorem zsl{v:LI}{l:List Wt}{k:Nat}(hk:k<l.length):zcm c v (l.take (k+1))=zcm c v (l.take k)++zfp c v l[k]:=by
 unfold zcm;rw[qT hk,List.flatMap_append];simp
theorem znB{v:LI}{x:Wt}(h:(zdD c (addTo v x.1 c.length)).2=0):zfp c v x=[]:=by unfold zfp;rw[if_pos h]
theorem zoU{v:LI}{x:Wt}{d:LI}{s:Int}(h:zdD c (addTo v x.1 c.length)=(d,s))(hs:s≠0):zfp c v x=[(d,wrap64 (s*x.2))]:=by
 unfold zfp;rw[h,if_neg hs]
theorem zwK(c:LL)(v:LI)(x:Wt):(zfp c v x).length<=1:=by unfold zfp;split <;> simp
theorem zpB(c:LL)(v:LI):∀l:List Wt,(zcm c v l).length<=l.length
 |[]=>qr _
 |x::l=>by
  have h1:=zwK c v x;have h2:=zpB c v l;show(zfp c v x++zcm c v l).length<=(x::l).length;rw[qA,List.length_cons];omega
theorem zsm{v:LI}(h:zru c v)(h0:(zdD c v).2≠0):(zdD c v).1.length=c.length:=by
 by_cases hm:(0:Int)∈zbd c (zbz c.length v)
 ·exact absurd (by unfold zdD;rw[if_pos hm]) h0
 ·unfold zdD;rw[if_neg hm];show(zaS _ _ _).length=_;rw[zcU,h.len]
theorem zvp{v:LI}{l:List Wt}{x:Wt}(h:x∈zcm c v l):∃y∈l,(zdD c (addTo v y.1 c.length)).2≠0/\x=((zdD c (addTo v y.1 c.length)).1,wrap64 ((zdD c (addTo v y.1 c.length)).2*y.2)):=by
 obtain⟨y,hy,hx⟩:=List.mem_flatMap.1 h;unfold zfp at hx;by_cases h0:(zdD c (addTo v y.1 c.length)).2=0
 ·rw[if_pos h0] at hx;simp at hx
 ·rw[if_neg h0,List.mem_singleton] at hx;exact⟨y,hy,h0,hx⟩
theorem zyD{a b:LI}{k j:Nat}(hj:j<k):(addTo a b k).getD j 0=wrap64 (a.getD j 0+b.getD j 0):=by simp[addTo,List.getD,hj]
theorem zvq{v:LI}{l:List Wt}(hS:zbi c v)(hs:szO c<=200)(hF:ChF c l):∀x∈l,zru c (addTo v x.1 c.length):=fun x hx=>
 zIL hS.hC hS.fin hs (zcP _ _ _) fun j hj=>by
  rw[zyD hj,IntWalk.wrap64_in _ ⟨by have:=hS.small j hj;have:=hF.box x hx j hj;omega,by have:=hS.small j hj;have:=hF.box x hx j hj;omega⟩];have:=hS.small j hj;have:=hF.box x hx j hj;omega
structure TnF(c:LL)(out:List Wt):Prop where
 few:out.length<=200
 len:∀x∈out,x.1.length=c.length
 inr:InZ out
 desc:Desc out
theorem zGa(v:LI)(n:Int):∀l:List Wt,(zcQ l v n).length<=l.length+1:=by
 intro l
 induction l with
 |nil=>unfold zcQ;split <;> simp
 |cons x l ih=>
  unfold zcQ
  repeat' split
  all_goals simp_all
  all_goals omega
theorem zlN{v:LI}{l:List Wt}(hS:zbi c v)(hs:szO c<=200)(hF:ChF c l):InZ (zcm c v l)/\∀x∈zcm c v l,x.1.length=c.length:=by
 refine⟨fun x hx=>?_,fun x hx=>?_⟩
 ·obtain⟨y,hy,h0,rfl⟩:=zvp hx;exact zlL _
 ·obtain⟨y,hy,h0,rfl⟩:=zvp hx;exact zsm (zvq hS hs hF y hy) h0
theorem zlO:∀l:List Wt,(zcR l).length<=l.length:=by
 have h:∀(l acc:List Wt),(l.foldl (fun acc x=>zcQ acc x.1 x.2) acc).length<=acc.length+l.length:=by
  intro l
  induction l with
  |nil=>intro acc;simp
  |cons x l ih=>
   intro acc;have h1:=ih (zcQ acc x.1 x.2);have h2:=zGa x.1 x.2 acc;show(l.foldl _ (zcQ acc x.1 x.2)).length<=_;rw[List.length_cons];omega
 intro l;have:=h l [];simpa [zcR] using this
theorem zlP:∀(l:List Wt) (x:Wt),x∈zcR l->∃y∈l,y.1=x.1:=by
 have h:∀(l acc:List Wt) (x:Wt),x∈l.foldl (fun acc x=>zcQ acc x.1 x.2) acc->(∃y∈acc,y.1=x.1)∨∃y∈l,y.1=x.1:=by
  intro l
  induction l with
  |nil=>intro acc x hx;exact .inl ⟨x,hx,rfl⟩
  |cons z l ih=>
   intro acc x hx
   rcases ih _ x hx with⟨y,hy,e⟩|⟨y,hy,e⟩
   ·rcases zpA _ _ _ _ hy with h1|⟨y2,h1,h2⟩
    ·exact .inr ⟨z,by simp,by rw[<-e,h1]⟩
    ·exact .inl ⟨y2,h1,by rw[h2,e]⟩
   ·exact .inr ⟨y,by simp[hy],e⟩
 intro l x hx
 rcases h l [] x hx with⟨y,hy,-⟩|h1
 ·simp at hy
 ·exact h1
theorem zJN{v:LI}{l:List Wt}(hS:zbi c v)(hs:szO c<=200)(hF:ChF c l):TnF c (zcR (zcm c v l)):=by
 obtain⟨h1,h2⟩:=zlN hS hs hF;have h3:=zkU h1;refine⟨?_,fun x hx=>?_,h3.inr,h3.desc⟩
 ·have:=zlO (zcm c v l);have:=zpB c v l;have:=hF.few;omega
 ·obtain⟨y,hy,e⟩:=zlP _ x hx;rw[<-e];exact h2 y hy
end
end Go.Proofs.YtlgcmaoimpgedaaGreatDoor

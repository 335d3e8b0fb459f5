/- RowB Mlp Que -/
import Derived.Test.YtlgcmaoimpgedaaGreatDoorT34
import Derived.Test.YtlgcmaoimpgedaaGreatDoorT33
set_option maxRecDepth 100000
set_option linter.unusedSimpArgs false
namespace Go.Proofs.YtlgcmaoimpgedaaGreatDoor
open Go.Value renaming slice->qS
section
open Go.RowKit Game
theorem zro{c:LL}(hC:IsC c)(hf:zaN c=true)(hs:szO c<=200):zpe c:=fun j hj=>by
 have aZ:(zdA c).length=c.length:=by simp[zdA]
 have hm:(zdA c).getD j []∈zdA c:=by
  rw[List.getD_eq_getElem?_getD,List.getElem?_eq_getElem (by omega)];exact List.getElem_mem _
 have h:=zIC hC hf hs _ hm;have hl:((zdA c).getD j []).length=c.length:=by simp[zdA,List.getD,hj]
 have e:=znR ((zdA c).getD j []);rw[hl] at e;rw[e];exact h
end
section
open Go.RowKit Game
variable {c:LL}
theorem zps{r:LI}{n:Nat}(hr:∀j,j<n->0<=r.getD j 0/\r.getD j 0<=200):∀k,k<=n->k<=4->zen r k=sg k (fun j=>r.getD j 0)/\0<=zen r k/\zen r k<=200*k
 |0,_,_=>⟨rfl,by simp[zen],by simp[zen]⟩
 |k+1,h,h4=>by
  obtain⟨h1,h2,h3⟩:=zps hr k (by omega) (by omega);have hk:=hr k (by omega);have e:zen r (k+1)=zen r k+r.getD k 0:=IntWalk.wrap64_in _ ⟨by omega,by omega⟩;refine⟨by rw[e,zch,h1],by rw[e];omega,by rw[e];omega⟩
theorem zoc(hK:zeT c){v u:LI}(h:zbi c v)(hu:zbw c v u):hgt c (zdA c) (toV v)=hgt c (zdA c) (toV u)+det c.length c*zak (zaD c v u)/\0<=zak (zaD c v u):=by
 obtain⟨q,hq⟩:=hu.low;obtain⟨h1,-⟩:=zqC hK h.len hu.len hq;have hd:=zjs hK h hu;have aR:=h.hC.2.1;obtain⟨e1,e2,-⟩:=zps (r:=zaD c v u) (n:=c.length) (fun j hj=>hd.box j hj) c.length (qr _) aR
 have e3:zak (zaD c v u)=sg c.length q:=by
  unfold zak;rw[zcY,e1];exact zcw fun j hj=>h1 j hj
 have e4:=Low.hgt (zfT h.hC h.fin) hq;refine⟨by rw[e3];exact e4,?_⟩;unfold zak;rw[zcY];exact e2
theorem zwF(hK:zeT c){v:LI}(h:zbi c v):zak (zaD c v v)=0:=by
 obtain⟨h1,h2⟩:=zoc hK h (zbw.self h);have hp:=(zfT h.hC h.fin).pos.1;have h3:det c.length c*zak (zaD c v v)=0:=by omega
 rcases Int.mul_eq_zero.1 h3 with h4|h4
 ·omega
 ·exact h4
theorem zyw(hK:zeT c){v u:LI}(h:zbi c v)(hu:zbw c v u)(ao:u≠v):1<=zak (zaD c v u):=by
 obtain⟨h1,h2⟩:=zoc hK h hu;refine Classical.byContradiction fun aJ=>ao ?_
 have h0:zak (zaD c v u)=0:=by omega
 obtain⟨q,hq⟩:=hu.low;obtain⟨hd,-⟩:=zqC hK h.len hu.len hq;have QJ:=zjs hK h hu;have aR:=h.hC.2.1;obtain⟨e1,-,-⟩:=zps (r:=zaD c v u) (n:=c.length) (fun j hj=>QJ.box j hj) c.length (qr _) aR
 have e3:sg c.length q=0:=by
  rw[<-h0];unfold zak;rw[zcY,e1];exact(zcw fun j hj=>Md hd j hj)
 have hz:∀i,i<c.length->q i=0:=fun i hi=>by
  have:=zjP (f:=q) hq.1 hi;have:=hq.1 i hi;omega
 refine zgC (by rw[hu.len,h.len]) ?_;funext k;by_cases hk:k<c.length
 ·have h2:=hq.2 k hk;have:(sg c.length fun i=>ent c k i*q i)=sg c.length fun _=>0:=zcw fun i hi=>by rw[hz i hi,Int.mul_zero]
  rw[this,zhC] at h2;omega
 ·rw[zfo (by have:=hu.len;omega),zfo (by have:=h.len;omega)]
where Md {q:Nat->Int} {v u:LI} (hd:∀j,j<c.length->(zaD c v u).getD j 0=q j) (j:Nat) (hj:j<c.length):q j=(zaD c v u).getD j 0:=(hd j hj).symm
def MlM(c:LL)(v:LI)(out:List Wt)(b:Bool):Prop:=
 (b=true/\szO c<=200/\∃L,zer (nxD c) (zaq c).length v L/\L.length<=200/\zjk c (zbt c) v (zaD c v) L out/\out.length<=200/\(∀x∈out,zbw c v x.1∧-9223372036854775808<=x.2/\x.2<=9223372036854775807))∨
 (b=false/\out=[]/\(¬szO c<=200∨zlr (nxD c) (zaq c).length v))
theorem znw(hC:IsC c)(hf:zaN c=true):DOk c (zbt c):=⟨(zob hC hf).len,(zob hC hf).box⟩
theorem zxo{d v u:LI}{K:List Wt}(h:zlF c d v u K):-9223372036854775808<=frV c d v (zaD c v u) K u/\frV c d v (zaD c v u) K u<=9223372036854775807:=by
 have Nl:=zpl h.hK h.hS h.hu h.ne h.hD.box;have Nn:-9223372036854775808<=wrap64 (2*frS c d u K (zaq c))/\wrap64 (2*frS c d u K (zaq c))<=9223372036854775807:=by unfold wrap64;omega
 unfold frV;generalize wrap64 (2*frS c d u K (zaq c))=x at*;generalize pr3 d (zaD c v u) (zcX c v u) c.length=D at*
 rcases Int.le_total 0 x with hx|hx
 ·have h1:=Int.tdiv_nonneg hx (show 0<=D by omega);have h2:=Int.tdiv_le_self D hx;omega
 ·have e:x.tdiv D=-((-x).tdiv D):=by rw[Int.neg_tdiv];omega
  have h1:=Int.tdiv_nonneg (show 0≤-x by omega) (show 0<=D by omega);have h2:=Int.tdiv_le_self D (show 0≤-x by omega);omega
structure zgx(c:LL)(v:LI)(us:LL):Prop where
 nodup:us.Nodup
 bel:∀t∈us,zbw c v t
 has:v∈us
 srt:us.Pairwise fun a b=>zak (zaD c v a)<=zak (zaD c v b)
section
variable {v:LI} {us:LL}
theorem zgx.first(hK:zeT c)(hS:zbi c v)(h:zgx c v us):us.getD 0 []=v:=by
 cases us with
 |nil=>exact absurd h.has (by simp)
 |cons x l=>
  show x=v;refine Classical.byContradiction fun ao=>?_
  have hx:=zyw hK hS (h.bel x (by simp)) ao
  have hv:v∈l:=by
   rcases List.mem_cons.1 h.has with e|e
   ·exact absurd e.symm ao
   ·exact e
  have h1:=(List.pairwise_cons.1 h.srt).1 v hv;rw[zwF hK hS] at h1;omega
theorem zgx.later(hK:zeT c)(hS:zbi c v)(h:zgx c v us){k:Nat}(hk:k<us.length)(h0:0<k):us.getD k []≠v:=by
 intro e;have h1:=h.first hK hS;have h2:us.getD k []=us[k]:=by simp[List.getD,hk]
 have h3:us.getD 0 []=us[0]'(by omega):=by simp[List.getD,show 0<us.length by omega]
 have h4:us[k]=us[0]'(by omega):=by rw[<-h2,<-h3,h1,e]
 have:=(List.getElem_inj h.nodup).1 h4;omega
theorem zoS(d:LI){k:Nat}(hk:k<us.length):zaX c d v (zaD c v) (us.take (k+1))=zaX c d v (zaD c v) (us.take k)++[(us.getD k [],if us.getD k []=v then 1 else frV c d v (zaD c v (us.getD k [])) (zaX c d v (zaD c v) (us.take k)) (us.getD k []))]:=by
 have e:us.getD k []=us[k]:=by simp[List.getD,hk]
 rw[qT hk,zhS,e]
theorem ziK{d:LI}{x:Wt}{ws:LL}(h:x∈zaX c d v (zaD c v) ws):x.1∈ws:=by
 have:x.1∈(zaX c d v (zaD c v) ws).map (·.1):=List.mem_map.2 ⟨x,h,rfl⟩
 rwa [ziH] at this
theorem zlG(d:LI)(ws:LL):(zaX c d v (zaD c v) ws).length=ws.length:=by
 have:=congrArg List.length (ziH (c:=c) d v (zaD c v) ws);simpa using this
theorem zgx.fr(hK:zeT c)(hS:zbi c v)(hP:zbI c)(hF:zpe c){d:LI}(hD:DOk c d)(h:zgx c v us){k:Nat}(hk:k<us.length)(h0:0<k):zlF c d v (us.getD k []) (zaX c d v (zaD c v) (us.take k)):=
 ⟨hS,hP,hF,hK,hD,h.bel _ (by simp[List.getD,hk]),h.later hK hS hk h0,fun x hx=>h.bel _ (List.mem_of_mem_take (ziK hx))⟩
theorem zgx.new(h:zgx c v us)(d:LI){k:Nat}(hk:k<us.length):∀x∈zaX c d v (zaD c v) (us.take k),x.1≠us.getD k []:=fun x hx e=>by
 have h1:=ziK hx;have hn:=h.nodup.sublist (List.take_sublist (k+1) us);have e2:us.getD k []=us[k]:=by simp[List.getD,hk]
 rw[qT hk,<-e2] at hn;exact(List.nodup_append.1 hn).2.2 x.1 h1 (us.getD k []) (by simp) e
theorem zgx.inR(hK:zeT c)(hS:zbi c v)(hP:zbI c)(hF:zpe c){d:LI}(hD:DOk c d)(h:zgx c v us):∀k,k<=us.length->∀x∈zaX c d v (zaD c v) (us.take k),-9223372036854775808<=x.2/\x.2<=9223372036854775807
 |0,_,x,hx=>by simp[zaX] at hx
 |k+1,hk,x,hx=>by
  rw[zoS d (by omega)] at hx
  rcases List.mem_append.1 hx with h1|h1
  ·exact h.inR hK hS hP hF hD k (by omega) x h1
  ·rw[List.mem_singleton] at h1;subst h1;dsimp only
   split
   ·omega
   ·rename_i ao
    by_cases h0:0<k
    ·exact zxo (h.fr hK hS hP hF hD (by omega) h0)
    ·obtain rfl:k=0:=by omega
     exact absurd (h.first hK hS) ao
theorem zgx.done(hK:zeT c)(hS:zbi c v)(hP:zbI c)(hF:zpe c){L:LL}(hs:szO c<=200)(hL:zer (nxD c) (zaq c).length v L)(hl:L.length<=200)(h:zgx c v us)(hm:∀t,t∈us↔t∈L)(fp:us.length<=200):
 MlM c v (zaX c (zbt c) v (zaD c v) us) true:=by
 have hp:us.Pairwise fun a b=>hgt c (zdA c) (toV b)<=hgt c (zdA c) (toV a):=by
  refine List.Pairwise.imp_of_mem (fun {a b} ha hb eC=>?_) h.srt;have h1:=(zoc hK hS (h.bel a ha)).1;have h2:=(zoc hK hS (h.bel b hb)).1;have hp:=(zfT hS.hC hS.fin).pos.1;have h3:det c.length c*zak (zaD c v a)<=det c.length c*zak (zaD c v b):=Int.mul_le_mul_of_nonneg_left eC (Int.le_of_lt hp);omega
 have hB:∀t∈L,zbw c v t:=fun t ht=>zbw.rch hS hP ((hL.2 t).1 ht)
 refine .inl ⟨rfl,hs,L,hL,hl,zvV hS hP h.nodup hm ((hm v).1 h.has) hB hp,by rw[zlG];exact fp,fun x hx=>⟨h.bel _ (ziK hx),?_⟩⟩;have:=h.inR hK hS hP hF (znw hS.hC hS.fin) us.length (qr _) x (by rwa [List.take_length]);exact this
end
theorem MlM.uniq{v:LI}(hS:zbi c v)(hP:zbI c){A B:List Wt}{a b:Bool}(hA:MlM c v A a)(hB:MlM c v B b):a=b/\∀u,zaC A u=zaC B u:=by
 rcases hA with⟨rfl,s1,L,hL,hl,hM,-⟩|⟨rfl,rfl,h1⟩ <;> rcases hB with⟨rfl,s2,L',tU,jV,uB,-⟩|⟨rfl,rfl,h2⟩
 ·have e:=hL.uniq tU;subst e;exact⟨rfl,hM.uniq hS hP (fun t ht=>zbw.rch hS hP ((hL.2 t).1 ht)) uB⟩
 ·rcases h2 with h|h
  ·exact absurd s1 h
  ·exact absurd ⟨L,hL,hl⟩ h
 ·rcases h1 with h|h
  ·exact absurd s2 h
  ·exact absurd ⟨L',tU,jV⟩ h
 ·exact⟨rfl,fun _=>rfl⟩
end
section
open Go.RowKit
theorem zqH{w:World}{B g cap:Nat}{vs:List Value}(ai:zaI w B 25 g cap vs)(v:Value)(hv:v.oneCell'=true)(am:vs.length+1<=1048576)(ty:TypeId):
 ∃g' cap' w',(Builtin.append_ #[24,24] ty #[(qS (some ⟨g,0,none⟩) vs.length cap),(qS (some ⟨w.heap.size,0,none⟩) 1 1)]).run Tryz.prog (w.alloc (.cells #[v] 25))= .ok (qS (some ⟨g',0,none⟩) (vs.length+1) cap') w'/\
  zaI w' B 25 g' cap' (vs++[v])/\w.grownBy w' (some g)/\(g'=g∨w.heap.size<g')/\(∀j,j<vs.length->w'.cell? ⟨g,j,none⟩=some (vs.getD j undef)):=by
 obtain⟨i0,hi,fP,eJ,gK⟩:=info_parts zkC;have lZ:=ai.base;have ac:=ai.lt;have dr:zaI (w.alloc (.cells #[v] 25)) B 25 g cap vs:=ai.alloc _;have aA:(w.alloc (.cells #[v] 25)).cell? ⟨w.heap.size,0,none⟩=some v:=(zaI.new (B:=w.heap.size) v hv (qr _)).cell 0 (by simp)
 have dp:∀j u,([v]:List Value)[j]? =some u->(w.alloc (.cells #[v] 25)).cell? ((⟨w.heap.size,0,none⟩:Addr).add j)=some u:=by
  intro j u hu;have hj:j=0:=by have:=(List.getElem?_eq_some_iff.1 hu).1;simp at this;exact this
  subst hj;simp at hu;subst hu;rw[Addr.add_lit];exact aA
 have h1:∀u∈([v]:List Value),u.oneCell'=true:=by simp[hv]
 have hl:([v]:List Value).length=1*i0.size:=by simp[eJ]
 obtain⟨v',w',hr,ho,hg,-⟩:=run_append_own (P:=Tryz.prog) (w.alloc (.cells #[v] 25)) B 24 ty 25 i0 (.slice none 0 0) 1 24 Tryz.underlying24 hi fP eJ gK rfl (by decide) _ vs.length _ dr ⟨w.heap.size,0,none⟩ 1 1
  [v] (by simp) dp h1 (by unfold maxLen;omega) (by omega) (by simp;omega)
 have bn:w.grownBy w' (some g):=⟨hg.os,hg.tape,hg.output,qt (by simp) hg.size,fun k hk ao=>(hg.block k (by simp;omega) ao).trans (Below.heap_alloc _ _ _ hk)⟩
 have fin:∀g' cap',v'=(qS (some ⟨g',0,none⟩) (vs.length+1) cap')->(g'=g∨w.heap.size<g')->(∀j,j<vs.length->w'.cell? ⟨g,j,none⟩=some (vs.getD j undef))->∃g' cap' w',(Builtin.append_ #[24,24] ty #[(qS (some ⟨g,0,none⟩) vs.length cap),(qS (some ⟨w.heap.size,0,none⟩) 1 1)]).run Tryz.prog (w.alloc (.cells #[v] 25))= .ok (qS (some ⟨g',0,none⟩) (vs.length+1) cap') w'/\
  zaI w' B 25 g' cap' (vs++[v])/\w.grownBy w' (some g)/\(g'=g∨w.heap.size<g')/\(∀j,j<vs.length->w'.cell? ⟨g,j,none⟩=some (vs.getD j undef)):=by
  intro g' cap' uw aY ni;subst uw;refine⟨g',cap',w',hr,?_,bn,aY,ni⟩;unfold zaI;rw[qA];exact ho
 by_cases iM:vs.length+1<=cap
 ·rcases dr.2 with⟨h',_⟩|⟨g1,cap1,cur,uw,hb,hh,hn,hm,hs,bQ⟩
  ·simp at h'
  simp only[Value.slice.injEq,Option.some.injEq,Addr.mk.injEq,and_true,true_and] at uw;obtain⟨rfl,rfl⟩:=uw;have jf:=run_append_room (P:=Tryz.prog) (w.alloc (.cells #[v] 25)) 24 ty 25 i0 Tryz.underlying24 hi g vs.length cap cur hh ⟨w.heap.size,0,none⟩ 1 1 [v] hl dp h1 iM (by rw[eJ] at*;simp;omega);rw[jf] at hr;simp only[Result.ok.injEq] at hr;refine fin g cap hr.1.symm (.inl rfl) fun j hj=>?_
  have QK:=hr.1;rw[<-QK] at ho;have ln:zaI w' B 25 g cap (vs++[v]):=by unfold zaI;rw[qA];exact ho
  rw[ln.cell j (by simp;omega)];simp[List.getD,hj,List.getElem_append_left]
 ·have jf:=run_append_grow (P:=Tryz.prog) (w.alloc (.cells #[v] 25)) 24 ty 25 i0 (.slice none 0 0) Tryz.underlying24 hi fP ⟨g,0,none⟩ vs.length cap vs (by simp[eJ]) (World.ownsRow.cells dr rfl) ⟨w.heap.size,0,none⟩ 1 1 _ hl dp (by omega) (by omega) (growslice_fits (by omega) (by rw[gK];omega));rw[jf] at hr;simp only[Result.ok.injEq] at hr;refine fin _ _ hr.1.symm (.inr (by simp)) fun j hj=>?_
  rw[<-hr.2]
  have ad:Below w.heap.size w ((w.alloc (.cells #[v] 25)).drew.alloc (.cells (vs.toArray++[v].toArray++Builtin.zeroCells (qS none 0 0).cells (grownCap (w.alloc (.cells #[v] 25)) (vs.length+1) cap 25-(vs.length+1))) 25)):=by
   have h1:=(Below.refl w.heap.size w).alloc (qr _) (.cells #[v] 25);exact(Below.drew h1).alloc h1.size _
  have:=(ad.cell (p:=⟨g,j,none⟩) ac).trans (ai.cell j hj);rw[show vs.getD j undef=vs[j] by simp[List.getD,hj]];exact this
def zeV(w:World)(A:List Nat)(vs:List Value)(rows:LL):Prop:=
 vs.length=rows.length/\∀j,j<rows.length->∃g o c,vs[j]? =some (qS (some ⟨g,o,none⟩) ((rows.getD j []).length) c)/\(rows.getD j []).length<=c/\g<w.heap.size/\g ∉ A/\zag w g o (rows.getD j [])
def Que(w:World)(B g cap:Nat)(A:List Nat)(rows:LL):Prop:=∃vs,zaI w B 25 g cap vs/\zeV w A vs rows/\g∈A
section
variable {w w':World} {A A':List Nat} {vs:List Value} {rows:LL} {B g cap:Nat}
theorem zeV.below(h:zeV w A vs rows)(hb:Below w.heap.size w w'):zeV w' A vs rows:=
 ⟨h.1,fun j hj=>by obtain⟨g,o,c,h1,h2,h3,h4,h5⟩:=h.2 j hj;exact⟨g,o,c,h1,h2,qL h3 hb.size,h4,h5.below hb h3⟩⟩
theorem zeV.grown{k:Nat}(h:zeV w A vs rows)(hg:w.grownBy w' (some k))(hk:k∈A):zeV w' A vs rows:=
 ⟨h.1,fun j hj=>by
  obtain⟨g,o,c,h1,h2,h3,h4,h5⟩:=h.2 j hj;exact⟨g,o,c,h1,h2,qL h3 hg.size,h4,h5.grown hg (fun e=>h4 (by rw[Option.some.inj e];exact hk))⟩⟩
theorem zeV.avoid(h:zeV w A vs rows)(hA:∀x∈A',x∈A∨w.heap.size<=x):zeV w A' vs rows:=
 ⟨h.1,fun j hj=>by
  obtain⟨g,o,c,h1,h2,h3,h4,h5⟩:=h.2 j hj;exact⟨g,o,c,h1,h2,h3,fun hm=>by rcases hA g hm with q|q;exact h4 q;omega,h5⟩⟩
theorem zeV.push{o c:Nat}{y:LI}(h:zeV w A vs rows)(hg:g<w.heap.size)(hA:g ∉ A)(hc:y.length<=c)(hy:zag w g o y):zeV w A (vs++[(qS (some ⟨g,o,none⟩) y.length c)]) (rows++[y]):=by
 refine⟨by simp[h.1],fun j hj=>?_⟩;by_cases e:j<rows.length
 ·obtain⟨g',o',c',h1,h2,h3,h4,h5⟩:=h.2 j e;have er:(rows++[y]).getD j []=rows.getD j []:=by simp[List.getD,List.getElem?_append_left e]
  rw[er];exact⟨g',o',c',by rw[List.getElem?_append_left (by rw[h.1];exact e)];exact h1,h2,h3,h4,h5⟩
 ·have:j=rows.length:=by simp at hj;omega
  subst this;have er:(rows++[y]).getD rows.length []=y:=by simp[List.getD]
  rw[er];exact⟨g,o,c,by rw[<-h.1];simp,hc,hg,hA,hy⟩
theorem Que.base(h:Que w B g cap A rows):B<=g:=by obtain⟨vs,h,-⟩:=h;exact h.base
theorem Que.lt(h:Que w B g cap A rows):g<w.heap.size:=by obtain⟨vs,h,-⟩:=h;exact h.lt
theorem Que.below(h:Que w B g cap A rows)(hb:Below w.heap.size w w'):Que w' B g cap A rows:=by
 obtain⟨vs,h1,h2,h3⟩:=h;exact⟨vs,h1.below hb h1.lt,h2.below hb,h3⟩
theorem Que.still(h:Que w B g cap A rows)(hs:∃k,w'=w.drewN k):Que w' B g cap A rows:=by obtain⟨k,rfl⟩:=hs;exact h
theorem Que.avoid(h:Que w B g cap A rows)(hA:∀x∈A',x∈A∨w.heap.size<=x)(hg:g∈A'):Que w B g cap A' rows:=by
 obtain⟨vs,h1,h2,h3⟩:=h;exact⟨vs,h1,h2.avoid hA,hg⟩
theorem Que.at(h:Que w B g cap A rows){k:Nat}(hk:k<rows.length):∃gj oj cj,w.cell? ⟨g,k,none⟩=some (qS (some ⟨gj,oj,none⟩) ((rows.getD k []).length) cj)/\(rows.getD k []).length<=cj/\gj<w.heap.size/\gj ∉ A/\zag w gj oj (rows.getD k []):=by
 obtain⟨vs,h1,h2,h3⟩:=h;obtain⟨gj,oj,cj,q1,q2,q3,q4,q5⟩:=h2.2 k hk;have No:k<vs.length:=by rw[h2.1];exact hk
 refine⟨gj,oj,cj,?_,q2,q3,q4,q5⟩;rw[h1.cell k No,<-q1,List.getElem?_eq_getElem No]
theorem Que.rows2(h:Que w B g cap A rows):zal w g 0 rows:=fun j hj=>by
 obtain⟨gj,oj,cj,q1,q2,q3,-,q5⟩:=h.at hj;exact⟨gj,oj,cj,by rw[Nat.zero_add];exact q1,q2,q3,q5⟩
theorem Que.one{x:Nat}{o c:Nat}{y:LI}(hB:B<=w.heap.size)(hx:x<w.heap.size)(hc:y.length<=c)(hy:zag w x o y)(hA:x ∉ A)(hm:w.heap.size∈A):
 Que (w.alloc (.cells #[(qS (some ⟨x,o,none⟩) y.length c)] 25)) B w.heap.size 1 A [y]:=
 ⟨[(qS (some ⟨x,o,none⟩) y.length c)],zaI.new _ rfl hB,⟨rfl,fun j hj=>by
  have:j=0:=by simp at hj;exact hj
  subst this;exact⟨x,o,c,rfl,hc,by simp;omega,hA,hy.below ((Below.refl _ _).alloc (qr _) _) hx⟩⟩,hm⟩
theorem zrp(h:Que w B g cap A rows){gy oy cy:Nat}{y:LI}(Gv:gy<w.heap.size)(Bu:gy ∉ A)(Gw:y.length<=cy)(Dq:zag w gy oy y)(am:rows.length+1<=1048576)(ty:TypeId):
 ∃g' cap' w',(Builtin.append_ #[24,24] ty #[(qS (some ⟨g,0,none⟩) rows.length cap),(qS (some ⟨w.heap.size,0,none⟩) 1 1)]).run Tryz.prog (w.alloc (.cells #[(qS (some ⟨gy,oy,none⟩) y.length cy)] 25))= .ok (qS (some ⟨g',0,none⟩) (rows.length+1) cap') w'/\
  Que w' B g' cap' (g'::A) (rows++[y])/\w.grownBy w' (some g)/\(g'=g∨w.heap.size<g')/\(∀j,j<rows.length->w'.cell? ⟨g,j,none⟩=w.cell? ⟨g,j,none⟩):=by
 obtain⟨vs,h1,h2,h3⟩:=h;obtain⟨g',cap',w',cz,q1,q2,q3,q4⟩:=zqH h1 (qS (some ⟨gy,oy,none⟩) y.length cy) rfl (by rw[h2.1];exact am) ty;rw[h2.1] at cz
 refine⟨g',cap',w',cz,⟨_,q1,?_,by simp⟩,q2,q3,fun j hj=>by
  have fC:j<vs.length:=by rw[h2.1];exact hj
  rw[q4 j fC,h1.cell j fC];simp[List.getD,fC]⟩
 have r1:=(h2.push Gv Bu Gw Dq).grown q2 h3
 exact⟨r1.1,fun j hj=>by
  obtain⟨a,b,d,e1,e2,e3,e4,e5⟩:=r1.2 j hj;refine⟨a,b,d,e1,e2,e3,fun hm=>?_,e5⟩
  rcases List.mem_cons.1 hm with e|e
  ·subst e
   rcases q3 with q|q
   ·exact e4 (by rw[q];exact h3)
   ·have:a<w.heap.size:=by
     obtain⟨a',b',d',f1,f2,f3,f4,f5⟩:=(h2.push Gv Bu Gw Dq).2 j hj;rw[f1] at e1;have e2:=Option.some.inj e1;simp only[Value.slice.injEq,Option.some.injEq,Addr.mk.injEq] at e2;have e3:=e2.1.1;omega
    omega
  ·exact e4 e⟩
theorem zos{ops:Array Oper}{rest:List Oper}{o:Oper}{a:Act}{Q:Exit->Act->World->Prop}(dH:o.guard=none)(s x:Operand)
 (ho:o.op= .call {callee:= .builtin .append,args:=#[s,x],argTypes:=#[24,24]})
 (B g cap n H gy oy ly cy:Nat) (A:List Nat) (rows:LL) (y:LI) (W:World) (hn:rows.length=n) (lV:y.length=ly) (hW:W=w.alloc (.cells #[(qS (some ⟨gy,oy,none⟩) ly cy)] 25)) (hH:w.heap.size=H) (ai:Que w B g cap A rows)
 (Gv:gy<w.heap.size) (Bu:gy ∉ A) (Gw:ly<=cy) (Dq:zag w gy oy y) (hs:a.eval s=(qS (some ⟨g,0,none⟩) n cap)) (hx:a.eval x=(qS (some ⟨H,0,none⟩) 1 1)) (am:n+1<=1048576)
 (h:∀g' cap' w',Que w' B g' cap' (g'::A) (rows++[y])->w.grownBy w' (some g)->(g'=g∨w.heap.size<g')->wpList Tryz.prog ops Q rest (a.put o.dst (qS (some ⟨g',0,none⟩) (n+1) cap')) w'):
 wpList Tryz.prog ops Q (o::rest) a W:=by
 subst hn;subst hW;subst hH;subst lV;obtain⟨g',cap',w',cz,h2,h3,h4,h5⟩:=zrp ai Gv Bu Gw Dq am o.type;refine wpList_plain dH fun K hK=>?_
 unfold Oper.wp execOp;simp only[ho,resolve,invoke,builtin,Sem.run_bind,Sem.run_pure,Result.andThen_ok,List.map_toArray,List.map_cons,List.map_nil,hs,hx,cz];exact hK _ _ (h g' cap' w' h2 h3 h4)
end
end
end Go.Proofs.YtlgcmaoimpgedaaGreatDoor

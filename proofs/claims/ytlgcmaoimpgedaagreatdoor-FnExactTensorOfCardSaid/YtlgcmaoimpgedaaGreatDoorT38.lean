/- SortP SmI PosI PosI2 -/
import Derived.Test.YtlgcmaoimpgedaaGreatDoorT36
import Derived.Test.YtlgcmaoimpgedaaGreatDoorSlap
set_option maxHeartbeats 8000000
set_option maxRecDepth 100000
set_option linter.unusedSimpArgs false
namespace Go.Proofs.YtlgcmaoimpgedaaGreatDoor
open Go.Value renaming slice->qS
section
open Go.RowKit Game
open Go.Sort (Holds putRow putCells mapBlock onCells grow heap_grow_old SWO PermIn SortedIn flatK HoldsK)
theorem zFU(w:World)(a b:Obj)(q:Nat)(os':Array Obj):grow (((w.alloc a).alloc b).drewN q) os'=grow (w.drewN q) (#[a]++#[b]++os'):=by
 have e1:((w.alloc a).alloc b).drewN q=((w.drewN q).alloc a).alloc b:=rfl;rw[e1,Sort.alloc_eq_grow,Sort.alloc_eq_grow,Sort.grow_grow,Sort.grow_grow,Array.append_assoc]
theorem zAY(ga ca ka gb cb kb:Nat)(va vb:Value)(xs ys:LI)(w:World)(hx:xs.length<=1048576)(hy:ys.length<=1048576)(QQ:xs.length=ka)(QR:ys.length=kb)(li:ga<w.heap.size)(oZ:gb<w.heap.size)(h1:zag w ga 0 xs)(h2:zag w gb 0 ys)
 (oa ob:Option Addr) (la lb cca ccb:Nat) (QS:va= .slice oa la cca) (QT:vb= .slice ob lb ccb):
 Calls Tryz.prog 193 #[.agg #[(qS (some ⟨ga,0,none⟩) ka ca),va],.agg #[(qS (some ⟨gb,0,none⟩) kb cb),vb]] w fun e w'=>e= .returned (.int .i64 (zbu xs ys))/\∃q os',w'=grow (w.drewN q) os':=by
 subst QQ;subst QR;subst QS;subst QT;have ad:Below w.heap.size w ((w.alloc (.cells #[(qS (some ⟨ga,0,none⟩) xs.length ca),.slice oa la cca] 139)).alloc (.cells #[(qS (some ⟨gb,0,none⟩) ys.length cb),.slice ob lb ccb] 139)):=zgu;have aa:=zAf ga 0 ca gb 0 cb xs ys _ hx hy (h1.below ad li) (h2.below ad oZ);have ab:=qd aa;generalize zbu xs ys=z at*;clear aa ad h1 h2
 go_enter Tryz.func193,Tryz.ntmps193
 go_wp2_with fail;refine ab.out.mono ?_;rintro e w1 ⟨rfl,q,os',rfl⟩;go_wp2_with fail;go_ret;exact⟨rfl,q,_,zFU _ _ _ _ _⟩
theorem zqI{α:Type}[Inhabited α](val:α->PairRef)(d:Array α):flatK (fun a=>zdj (val a)) 2 d=(zdr (d.toList.map val)).toArray:=by
 have hl:(zdr (d.toList.map val)).length=d.size*2:=by rw[zfL];simp
 refine Sort.ext_get! (by simp[hl]) fun t ht=>?_
 have kS:t<d.size*2:=by simpa using ht
 rw[Sort.get_flatK _ _ _ t kS];have hj:t / 2<d.size:=by omega
 have BA:t / 2<(d.toList.map val).length:=by simpa using hj
 obtain⟨h0,h1⟩:=zva BA
 have hg:((zdr (d.toList.map val)).toArray)[t]! =(zdr (d.toList.map val))[t]! :=by
  rw[getElem!_pos _ t (by simpa [hl] using kS),getElem!_pos _ t (by rw[hl];exact kS)];simp
 have hd:d[t / 2]! =d[t / 2]:=getElem!_pos d _ hj;have he:(d.toList.map val)[t / 2]=val d[t / 2]:=by simp
 rw[hg,hd];rw[he] at h0 h1
 rcases Nat.mod_two_eq_zero_or_one t with hm|hm
 ·have e:t / 2*2=t:=by omega
  rw[e] at h0;rw[hm,List.getElem!_of_getElem? h0];rfl
 ·have e:t / 2*2+1=t:=by omega
  rw[e] at h1;rw[hm,List.getElem!_of_getElem? h1];rfl
theorem zwI{w:World}{B g cap n m k:Nat}{E:TypeId}{os:Array Obj}{cs ds:List Value}(h:zaE w B E k g cap m cs)(hl:ds.length=cs.length):zaE (sortWorld id w g 0 n ds.toArray os) B E k g cap m ds:=by
 have am:=h.1
 rcases h.2 with⟨h',_⟩|⟨g',cap',cur,h',hb,hh,hn,hm,hs,bQ⟩
 ·simp at h'
 ·simp only[Value.slice.injEq,Option.some.injEq,Addr.mk.injEq] at h';obtain⟨⟨rfl,_⟩,_,rfl⟩:=h';refine⟨by rw[hl];exact am,.inr ⟨g,cap,_,rfl,hb,znq id _ hh,hn,hm,by simp[putCells,hs],?_⟩⟩;have e:m*k=ds.length:=by rw[hl];exact am.symm
  rw[e];have h2:=zkQ id cur ds (by rw[<-e,hs];exact Nat.mul_le_mul_right _ hn);rw[h2,List.map_id]
theorem zvc{α:Type}[Inhabited α](val:α->PairRef)(d:Array α){w:World}{B g cap:Nat}(h:zaZ w B g cap (d.toList.map val)):HoldsK (fun a=>zdj (val a)) 2 w g 0 d:=by
 unfold HoldsK;rw[zqI];intro j hj;have fC:j<(zdr (d.toList.map val)).length:=by simpa using hj
 refine⟨?_,zaE.frozen h _⟩;rw[Nat.zero_add,zaE.cell h j fC];simp[fC]
theorem zyx(oz:SWO (ltOf zbu))(ef:∀args w,(callFunc 193 args).run Tryz.prog w= .ok (.enter 193 args) w)(B g cap n:Nat)(ps:List PairRef)(w:World)(hn:ps.length=n)(hl:ps.length<=1048576)(qc:ps≠[])
 (ho:zaZ w B g cap ps) (xf:∀p∈ps,Own w B p.1.1 p.1.2.1 p.1.2.2/\p.1.2.2.length<=1048576/\g≠p.1.1):
 Calls Tryz.prog 192 #[(qS (some ⟨g,0,none⟩) n cap),.func (.func 193) #[] #[]] w fun e w'=>
  e= .returned (.tuple #[])/\∃ps':List PairRef,ps'.Perm ps/\(zbm ps').Pairwise (fun a b=>¬zbu b a<0)/\zaZ w' B g cap ps'/\w.grownBy w' (some g):=by
 subst hn;obtain⟨p0,pf⟩:∃p,p∈ps:=by cases ps with|nil=>exact absurd rfl qc|cons a b=>exact⟨a,by simp⟩
 letI:Inhabited {p:PairRef // p∈ps}:=⟨⟨p0,pf⟩⟩
 let d:Array {p:PairRef // p∈ps}:=ps.attach.toArray
 let val:{p:PairRef // p∈ps}->PairRef:=fun p=>p.1
 let cf:{p:PairRef // p∈ps}->{p:PairRef // p∈ps}->Int:=fun a b=>zbu a.1.1.2.2 b.1.1.2.2
 have pO:d.size=ps.length:=by simp[d]
 have mI:d.toList.map val=ps:=List.attach_map_subtype_val ps;have ln:zaZ w B g cap (d.toList.map val):=by rw[mI];exact ho
 have hH:=zvc val d ln;have rV:SWO (ltOf cf):=⟨fun x=>oz.irrefl _,fun x y z h1 h2=>oz.trans _ _ _ h1 h2,fun x y z h1 h2=>oz.ntrans _ _ _ h1 h2⟩;have ig:∀(m:Nat) (os:Array Obj) (dk:Array {p:PairRef // p∈ps}),sortWorldK (fun a=>zdj (val a)) 2 w g 0 m dk os=sortWorld id w g 0 m (flatK (fun a=>zdj (val a)) 2 dk) os:=fun _ _ _=>rfl
 have pP:CmpLays Tryz.prog 193 #[] (fun a=>zdj (val a)) 2 cf g 0 d.size w:=by
  intro m os dk Gm x y;obtain⟨hx,dF,QU⟩:=xf x.1 x.2;obtain⟨hy,gZ,QV⟩:=xf y.1 y.2;rw[ig]
  have fh:zag (sortWorld id w g 0 m (flatK (fun a=>zdj (val a)) 2 dk) os) x.1.1.1 0 x.1.1.2.2:=by
   have h1:=hx.cells;intro j hj;rw[<-h1 j hj];unfold World.cell?;simp only[zdF id _ hx.lt QU]
  have gS:zag (sortWorld id w g 0 m (flatK (fun a=>zdj (val a)) 2 dk) os) y.1.1.1 0 y.1.1.2.2:=by
   have h1:=hy.cells;intro j hj;rw[<-h1 j hj];unfold World.cell?;simp only[zdF id _ hy.lt QV]
  have fJ:=(zfw (w:=w) (g:=g) (n:=m) (os:=os) id (flatK (fun a=>zdj (val a)) 2 dk)).size;exact zAY x.1.1.1 x.1.1.2.1 _ y.1.1.1 y.1.1.2.1 _ _ _ x.1.1.2.2 y.1.1.2.2 _ dF gZ rfl rfl (qL hx.lt fJ) (qL hy.lt fJ) fh gS _ _ _ _ _ _ rfl rfl
 have br:=AnyQ.slices_SortFunc Tryz.sortPairs 2 Tryz.isAgg139 Tryz.sizeOf139 (fun a=>zdj (val a)) (fun _=>rfl) (fun x v hv=>by simp[zdj] at hv;rcases hv with rfl|rfl <;> rfl) cf rV 193 #[] g 0 cap d w ef pP hH (zaE.lt ho) (by rw[pO];omega);rw[pO] at br
 change Calls Tryz.prog 192 _ _ _ at br
 refine br.mono ?_;rintro e w' ⟨rfl,d',k,os,hp,hs,rfl⟩;have ls:d'.size=ps.length:=by rw[hp.1,pO]
 have rW:(d'.toList.map val).Perm ps:=by
  have h1:=hp.2.2;have h2:(d'.extract 0 ps.length).toList=d'.toList:=by rw[<-ls];simp
  have h3:(d.extract 0 ps.length).toList=d.toList:=by rw[<-pO];simp
  rw[h2,h3] at h1;have h4:=h1.map val;rw[mI] at h4;exact h4
 refine⟨rfl,d'.toList.map val,rW,?_,?_,?_⟩
 ·unfold zbm;rw[List.map_map,List.pairwise_map,List.pairwise_iff_getElem];intro i j hi hj iP;have h1:=hs i j (qz _) iP (by rw[<-ls];simpa using hj);have h2:i<d'.size:=by simpa using hi
  have h3:j<d'.size:=by simpa using hj
  rw[getElem!_pos d' i h2,getElem!_pos d' j h3] at h1;unfold ltOf at h1;simpa using h1
 ·rw[ig,zqI];have vA:(d'.toList.map val).length=ps.length:=rW.length_eq;have h1:=zwI (n:=k) (os:=os) (ds:=zdr (d'.toList.map val)) ho (by rw[zfL,zfL,vA]);unfold zaZ;rw[vA];exact h1
 ·rw[ig];exact zfw id _
end
section
open Go.RowKit Game
def ziL(ps:List PairRef):List RPair:=ps.map fun p=>(p.1.2.2,p.2.2.2)
theorem zse(ps:List PairRef):(ziL ps).map (·.1)=zbm ps:=by simp[ziL,zbm]
theorem zny(ps:List PairRef):(ziL ps).length=ps.length:=by simp[ziL]
theorem zyy(ps:List PairRef)(p:PairRef):ziL (ps++[p])=ziL ps++[(p.1.2.2,p.2.2.2)]:=by simp[ziL]
theorem zAZ{c:LL}{k:Nat}(hk:k<c.length):zbn c.length k ∉ ((zcg c).take k).map (·.1):=by
 have h:=(zpW c).nodup;have e:zcg c=(zcg c).take (k+1)++(zcg c).drop (k+1):=(List.take_append_drop _ _).symm;rw[e,znx c k hk,List.map_append,List.map_append] at h;have h2:=(List.nodup_append.1 (List.nodup_append.1 h).1).2.2;intro hm;exact h2 _ hm _ (by simp) rfl
theorem zvd(fn:Fn)(first cap:Array Value)(w:World):(Instr.makeFunc fn first cap).run Tryz.prog w= .ok (.func fn first cap) w:=rfl
theorem zFV(n i:Nat):WfV (zbn n i):=by
 intro j _
 have:(zbn n i).getD j 0=0∨(zbn n i).getD j 0=1:=by
  unfold zbn;simp only[List.getD,List.getElem?_set]
  split
  ·split
   ·exact .inr rfl
   ·exact .inl rfl
  ·left;by_cases h:j<n
   ·simp[h]
   ·simp[h]
 rcases this with h|h <;> rw[h] <;> decide
theorem zIE{c:LL}{i:Nat}{r:LI}(h:WfV r):WfV (zbk c i r):=by
 intro j hj;have:=h j hj;unfold zbk;simp only[List.getD,List.getElem?_set] at*
 split
 ·split
  ·exact wrap64_wf _
  ·decide
 ·exact this
theorem zIF{ps:List PairRef}(h:(ps.map fun p=>p.1.1).Nodup){t:Nat}(ht:t<ps.length):∀s∈(ps.take t).map (·.1),s.1≠ps[t].1.1:=by
 intro s hs e;obtain⟨q,hq,rfl⟩:=List.mem_map.1 hs;obtain⟨u,hu,rfl⟩:=List.mem_iff_getElem.1 hq;rw[List.length_take] at hu;rw[List.getElem_take] at e;have zF:u<ps.length:=by omega
 have h2:(ps.map fun p=>p.1.1)[u]'(by simpa using zF)=(ps.map fun p=>p.1.1)[t]'(by simpa using ht):=by simpa using e
 have h3:=(List.getElem_inj h).1 h2;omega
theorem zte{w:World}{B:Nat}{a b:Value}{t:TypeId}(h:w.heap[B]? =some (.cells #[a,b] t (0,0))):w.cell? ⟨B,0,none⟩=some a/\w.cell? ⟨B,1,none⟩=some b:=by
 constructor <;> simp[World.cell?,h]
end
section
open Go.RowKit Game
theorem zcV.start(w3:World)(B m:Nat)(hB:B<=w3.heap.size):
 zcV ((((w3.alloc (.cells #[] 139)).alloc (.cells #[(qS (some ⟨w3.heap.size,0,none⟩) 0 0)] 136)).alloc (.map #[] 0)).alloc (.cells #[.map (some (w3.heap.size+1+1))] 137)) B (w3.heap.size+1+1+1) (w3.heap.size+1) (w3.heap.size+1+1) w3.heap.size 0 0 0 m []:=by
 have hP:=zaZ.empty (w:=w3) hB;have h1:=heap_alloc_new (w3.alloc (.cells #[] 139)) (.cells #[(qS (some ⟨w3.heap.size,0,none⟩) 0 0)] 136);have s1:(w3.alloc (.cells #[] 139)).heap.size=w3.heap.size+1:=by simp
 rw[s1] at h1;generalize w3.alloc (.cells #[] 139)=wA at*;have ug:=hP.below ((Below.refl _ _).alloc (qr _) (.cells #[(qS (some ⟨w3.heap.size,0,none⟩) 0 0)] 136));have s2:(wA.alloc (.cells #[(qS (some ⟨w3.heap.size,0,none⟩) 0 0)] 136)).heap.size=w3.heap.size+1+1:=by simp[s1]
 generalize wA.alloc (.cells #[(qS (some ⟨w3.heap.size,0,none⟩) 0 0)] 136)=wB at*;have hM:=zdv.start wB m;rw[s2] at hM;have zb:=ug.below ((Below.refl _ _).alloc (qr _) (.map #[] 0));have h2:=(Below.heap_alloc wB (.map #[] 0) (w3.heap.size+1) (by omega)).trans h1;have s3:(wB.alloc (.map #[] 0)).heap.size=w3.heap.size+1+1+1:=by simp[s2]
 generalize wB.alloc (.map #[] 0)=wC at*;have h3:=heap_alloc_new wC (.cells #[.map (some (w3.heap.size+1+1))] 137);rw[s3] at h3;have hb:=(Below.refl wC.heap.size wC).alloc (qr _) (.cells #[.map (some (w3.heap.size+1+1))] 137);exact⟨h3,(hb.block _ (by omega)).trans h2,zb.below hb,rfl,hM.same (hb.block _ (by omega)),qr _,by simp,by simp,by omega,by omega⟩
structure zfd(w0 wi:World)(gP cP g1 c1 g2 c2 t1 t2:Nat)(ps:List PairRef):Prop where
 r1:zab wi w0.heap.size g1 c1 ((ps.take t1).map (·.1))
 r2:zab wi w0.heap.size g2 c2 ((ps.take t2).map (·.2))
 hP:zaZ wi w0.heap.size gP cP ps
 rows:∀p∈ps,Own wi w0.heap.size p.1.1 p.1.2.1 p.1.2.2/\Own wi w0.heap.size p.2.1 p.2.2.1 p.2.2.2
 ne:g1≠g2
 below:Below w0.heap.size w0 wi
theorem zfd.keep{w0 wi w':World}{gP cP g1 c1 g2 c2 t1 t2:Nat}{ps:List PairRef}(h:zfd w0 wi gP cP g1 c1 g2 c2 t1 t2 ps)(hb:Below wi.heap.size wi w'):zfd w0 w' gP cP g1 c1 g2 c2 t1 t2 ps:=
 ⟨h.r1.below hb,h.r2.below hb,zaE.same h.hP (hb.block _ h.hP.lt),fun p hp=>⟨(h.rows p hp).1.below hb (h.rows p hp).1.lt,(h.rows p hp).2.below hb (h.rows p hp).2.lt⟩,h.ne,h.below.trans (hb.mono h.below.size)⟩
theorem zmj{w:World}{B B2 gP cP g cap:Nat}{ps:List PairRef}{rs:List RowRef}(hP:zaZ w B gP cP ps)(ho:zab w B2 g cap rs):gP≠g:=by
 obtain⟨cur,h2,-⟩:=zaE.row hP;obtain⟨cur2,h5,-⟩:=ho.1.row;intro e;subst e;simp_all
theorem zfd.app1{w0 wi w':World}{gP cP g1 c1 g2 c2 t t2 g' c':Nat}{ps:List PairRef}(h:zfd w0 wi gP cP g1 c1 g2 c2 t t2 ps)(ht:t<ps.length)(hO:zab w' w0.heap.size g' c' ((ps.take t).map (·.1)++[ps[t].1]))(hg:wi.grownBy w' (some g1))(aY:g'=g1∨wi.heap.size<g'):zfd w0 w' gP cP g' c' g2 c2 (t+1) t2 ps:=by
 have hk:∀k,k<wi.heap.size->k≠g1->w'.heap[k]? =wi.heap[k]? :=fun k hk ao=>hg.block k hk (fun e=>ao (Option.some.inj e))
 refine⟨?_,?_,zaE.same h.hP (hk _ h.hP.lt (zmj h.hP h.r1)),fun p hp=>?_,?_,h.below.grown hg h.below.size (by intro j hj;cases hj;exact h.r1.base)⟩
 ·rw[qT ht,List.map_append];exact hO
 ·exact⟨h.r2.1.same (hk _ h.r2.lt h.ne.symm),fun r hr=>(h.r2.2.1 r hr).same (hk _ (h.r2.2.1 r hr).lt (Ne.symm (h.r1.1.ne (h.r2.2.1 r hr).toV (by decide)))),h.r2.2.2⟩
 ·have a:=(h.rows p hp).1;have b:=(h.rows p hp).2;exact⟨a.same (hk _ a.lt (Ne.symm (h.r1.1.ne a.toV (by decide)))),b.same (hk _ b.lt (Ne.symm (h.r1.1.ne b.toV (by decide))))⟩
 ·have:=h.r2.lt;have:=h.ne
  rcases aY with e|e <;> omega
theorem zfd.app2{w0 wi w':World}{gP cP g1 c1 g2 c2 t t1 g' c':Nat}{ps:List PairRef}(h:zfd w0 wi gP cP g1 c1 g2 c2 t1 t ps)(ht:t<ps.length)(hO:zab w' w0.heap.size g' c' ((ps.take t).map (·.2)++[ps[t].2]))(hg:wi.grownBy w' (some g2))(aY:g'=g2∨wi.heap.size<g'):zfd w0 w' gP cP g1 c1 g' c' t1 (t+1) ps:=by
 have hk:∀k,k<wi.heap.size->k≠g2->w'.heap[k]? =wi.heap[k]? :=fun k hk ao=>hg.block k hk (fun e=>ao (Option.some.inj e))
 refine⟨?_,?_,zaE.same h.hP (hk _ h.hP.lt (zmj h.hP h.r2)),fun p hp=>?_,?_,h.below.grown hg h.below.size (by intro j hj;cases hj;exact h.r2.base)⟩
 ·exact⟨h.r1.1.same (hk _ h.r1.lt h.ne),fun r hr=>(h.r1.2.1 r hr).same (hk _ (h.r1.2.1 r hr).lt (Ne.symm (h.r2.1.ne (h.r1.2.1 r hr).toV (by decide)))),h.r1.2.2⟩
 ·rw[qT ht,List.map_append];exact hO
 ·have a:=(h.rows p hp).1;have b:=(h.rows p hp).2;exact⟨a.same (hk _ a.lt (Ne.symm (h.r2.1.ne a.toV (by decide)))),b.same (hk _ b.lt (Ne.symm (h.r2.1.ne b.toV (by decide))))⟩
 ·have:=h.r1.lt;have:=h.ne
  rcases aY with e|e <;> omega
def zJF(R:LI->LI->Prop)(w0:World)(c:LL)(e:Ending)(w':World):Prop:=
 ∃g cap rs g2 cap2 rs2,e= .returned (.tuple #[(qS (some ⟨g,0,none⟩) ((zaq c).length) cap),(qS (some ⟨g2,0,none⟩) ((zaq c).length) cap2)])/\zaa rs=zaq c/\(zaa rs2).length=(zaq c).length/\(∀k,k<(zaq c).length->R ((zaq c).getD k []) ((zaa rs2).getD k []))/\zab w' w0.heap.size g cap rs/\zab w' w0.heap.size g2 cap2 rs2/\Below w0.heap.size w0 w'
def zyz(R:LI->LI->Prop)(m:Nat)(ps:List PairRef):Prop:=(∀p∈ps,p.1.2.2.length=m/\p.2.2.2.length=m/\WfV p.1.2.2/\R p.1.2.2 p.2.2.2)/\(ps.map fun p=>p.2.1).Nodup
structure ztf(c:LL)(R:LI->LI->Prop):Prop where
 simp:∀i,i<c.length->R (zbn c.length i) (zbn c.length i)
 step:∀x y i,R x y->i<c.length->zed (zbk c i x)=true->zak (zbk c i x)<=12->R (zbk c i x) (zbk (zgO c) i y)
theorem ztf.any(c:LL):ztf c fun _ _=>True:=⟨fun _ _=>trivial,fun _ _ _ _ _ _ _=>trivial⟩
def ztg(R:LI->LI->Prop)(w0:World)(bS bL bM bH bp bo co bd cd gT cT k i:Nat)(c:LL)(x y:LI)(rsT:List RowRef)(w':World):Prop:=
 ∃(gP cP nP nM:Nat) (ps:List PairRef),k<nP/\zcV w' w0.heap.size bS bL bM gP cP nP nM c.length ps/\zfN c (zbm ps) k i/\zyz R c.length ps/\(zbm ps).getD k []=x/\w'.heap[bH]? =some (.cells #[.int .i64 12] 3 (0,0))/\zab w' w0.heap.size gT cT rsT/\Below w0.heap.size w0 w'/\Own w' w0.heap.size bo co x/\Own w' w0.heap.size bd cd y/\w'.heap[bp]? =some (.cells #[(qS (some ⟨bo,0,none⟩) c.length co),(qS (some ⟨bd,0,none⟩) c.length cd)] 139 (0,0))/\bp≠gP/\bH≠gP
theorem ztg.cells{R:LI->LI->Prop}{w0:World}{bS bL bM bH bp bo co bd cd gT cT k i:Nat}{c:LL}{x y:LI}{rsT:List RowRef}{w':World}(h:ztg R w0 bS bL bM bH bp bo co bd cd gT cT k i c x y rsT w'):
 w'.cell? ⟨bp,0,none⟩=some (qS (some ⟨bo,0,none⟩) c.length co)/\w'.cell? ⟨bp,1,none⟩=some (qS (some ⟨bd,0,none⟩) c.length cd):=by
 obtain⟨gP,cP,nP,nM,ps,h⟩:=h;exact zte h.2.2.2.2.2.2.2.2.2.2.1
theorem zyA{R:LI->LI->Prop}{w0 wr W:World}{bS bL bM bH bp bo co bd cd gT cT k i gP cP nP nM gA cA gD cD:Nat}{c:LL}{x y s:LI}{rsT:List RowRef}{ps:List PairRef}
 (aR:c.length<=4) (hP:zbI c) (dF:x.length=c.length) (cC:s.length=c.length) (QW:WfV x) (hi:i<c.length) (hk:k<nP) (st:zcV wr w0.heap.size bS bL bM gP cP nP nM c.length ps)
 (aV:zfN c (zbm ps) k i) (am:zyz R c.length ps) (hs:zed (zbk c i x)=true->zak (zbk c i x)<=12->R (zbk c i x) s) (hx:(zbm ps).getD k []=x) (hH:wr.heap[bH]? =some (.cells #[.int .i64 12] 3 (0,0))) (hT:zab wr w0.heap.size gT cT rsT) (hb:Below w0.heap.size w0 wr) (bN:Own wr w0.heap.size bo co x) (iV:Own wr w0.heap.size bd cd y)
 (hp:wr.heap[bp]? =some (.cells #[(qS (some ⟨bo,0,none⟩) c.length co),(qS (some ⟨bd,0,none⟩) c.length cd)] 139 (0,0))) (zG:bp≠gP) (JQ:bp≠bL) (AW:bp≠bM) (GA:bH≠bL) (GB:bH≠bM) (zH:bH≠gP)
 (GC:w0.heap.size<=bL) (ub:w0.heap.size<=bM) (hW:Below wr.heap.size wr W) (kQ:Own W wr.heap.size gA cA (zbk c i x)) (zI:Own W wr.heap.size gD cD s):
 Calls Tryz.prog 188 #[(qS (some ⟨gA,0,none⟩) c.length cA),(qS (some ⟨gD,0,none⟩) c.length cD),.pointer (some ⟨bS,0,none⟩),.pointer (some ⟨bH,0,none⟩),.pointer (some ⟨bL,0,none⟩)] W fun e w'=>e= .returned (.tuple #[])/\ztg R w0 bS bL bM bH bp bo co bd cd gT cT k (i+1) c x y rsT w':=by
 have an:(zbk c i x).length=c.length:=by rw[zdL];exact dF
 have mE:WfV (zbk c i x):=zIE QW;have nB:k<(zbm ps).length:=by rw[zbm,List.length_map,st.hn];exact hk
 have yY:nP<=24:=by have:=aV.few hP;rw[zbm,List.length_map,st.hn] at this;exact this
 have cG:=aV.step hP nB hi;rw[hx] at cG;have xh:=zsd (r:=zbk c i x) nB;rw[hx] at xh;have gn:=zvb ps ((gA,cA,zbk c i x),(gD,cD,s));have stW:=st.below hW;have QX:=hT.below hW;have JR:=bN.below hW bN.lt;have JS:=iV.below hW iV.lt;have JU:=(hW.block bp (zcy hp)).trans hp;have GD:=(hW.block bH (zcy hH)).trans hH;have yG:=hb.trans (hW.mono hb.size)
 have ao:∀p∈ps,p.1.1≠gA:=fun p hp e=>by
  have h1:=(st.rows p hp).1.lt;have h2:=kQ.base;omega
 refine(zmi w0.heap.size bS bL bM bH gP cP nP nM gA cA gD cD c.length c.length ps (zbk c i x) s W an cC (by rw[an];exact aR) mE (by omega) (by rw[an];exact stW) GD (kQ.mono hb.size) (zI.mono hb.size) ao).mono ?_;rintro e w6 ⟨rfl,gG,gP',cP',nP',nM',st6,aY⟩;rw[an] at st6;refine⟨rfl,gP',cP',nP',nM',_,?_,st6,by rw[gn];exact cG,?_,by rw[gn];exact xh,(gG.block bH (zcy GD) GA zH GB).trans GD,gG.rowsP stW QX,yG.trans (gG.below GC stW.hP.base ub yG.size),?_,?_,(gG.block bp (zcy JU) JQ zG AW).trans JU,?_,?_⟩
 ·rw[<-st6.hn];have h1:(zeF ps ((gA,cA,zbk c i x),(gD,cD,s))).length=(zbm (zeF ps ((gA,cA,zbk c i x),(gD,cD,s)))).length:=by simp[zbm]
  rw[h1,gn];exact qL nB zFT.1
 ·unfold zeF
  split
  ·rename_i hc
   refine⟨fun p hp=>?_,?_⟩
   ·rcases List.mem_append.1 hp with h|h
    ·exact am.1 p h
    ·rw[List.mem_singleton] at h;subst h;exact⟨an,cC,mE,hs hc.1 hc.2.1⟩
   ·rw[List.map_append,List.nodup_append];refine⟨am.2,by simp,?_⟩;intro a ha b hb e;obtain⟨p,hp,rfl⟩:=List.mem_map.1 ha;simp only[List.map_cons,List.map_nil,List.mem_singleton] at hb;have h1:=(st.rows p hp).2.lt;have h2:=zI.base;omega
  ·exact am
 ·have ax:=stW.neOwn JR;exact JR.same (gG.block _ JR.lt ax.2.1 ax.2.2.2 ax.2.2.1)
 ·have ay:=stW.neOwn JS;exact JS.same (gG.block _ JS.lt ay.2.1 ay.2.2.2 ay.2.2.1)
 ·rcases aY with h|h
  ·rw[h];exact zG
  ·have:=zcy JU;omega
 ·rcases aY with h|h
  ·rw[h];exact zH
  ·have:=zcy GD;omega
end
section
open Go.RowKit Game
theorem zFW{ps:List PairRef}(h:(ps.map fun p=>p.2.1).Nodup){t:Nat}(ht:t<ps.length):∀s∈(ps.take t).map (·.2),s.1≠ps[t].2.1:=by
 intro s hs e;obtain⟨q,hq,rfl⟩:=List.mem_map.1 hs;obtain⟨u,hu,rfl⟩:=List.mem_iff_getElem.1 hq;rw[List.length_take] at hu;rw[List.getElem_take] at e;have zF:u<ps.length:=by omega
 have h2:(ps.map fun p=>p.2.1)[u]'(by simpa using zF)=(ps.map fun p=>p.2.1)[t]'(by simpa using ht):=by simpa using e
 have h3:=(List.getElem_inj h).1 h2;omega
theorem zBa:∀n,n<5->∀k,k<n->zed (zbn n k)=true/\zak (zbn n k)<=12:=by decide+kernel
theorem zmw(R:LI->LI->Prop)(gc oc n cc:Nat)(c:LL)(w:World)(hn:c.length=n)(hC:IsC c)(hP:zbI c)(hR:ztf c R)(ah:gc<w.heap.size)(hr:zal w gc oc c):
 Calls Tryz.prog 147 #[(qS (some ⟨gc,oc,none⟩) n cc),.int .i64 12] w (zJF R w c):=by
 subst hn;have aR:=hC.2.1;have bD:∀j,j<c.length->(c.getD j []).length=c.length:=hC.2.2.1;have dY:=qd bD;clear bD;have Hr:=qd hr;clear hr;have kF:Below w.heap.size w (w.alloc (.cells #[.int .i64 12] 3)):=(Below.refl _ _).alloc (qr _) _;have JV:=heap_alloc_new w (.cells #[.int .i64 12] 3 (0,0));have aa:=zju gc oc _ cc c _ rfl hC (qL ah kF.size) (Hr.out.below kF ah);have ab:=qd aa;clear aa;have QY:=zvd;have nu:=@run_makeMap Tryz.prog
 go_enter Tryz.func147,Tryz.ntmps147
 go_wp2_with fail;refine ab.out.mono ?_;rintro e w3 ⟨gT,cT,rsT,rfl,uh,Dv,ir⟩;have ag:=kF.trans (ir.mono kF.size);have Cd:=Dv.mono kF.size;have NB:=(ir.block _ (zcy JV)).trans JV;have JW:(w.alloc (.cells #[.int .i64 12] 3)).heap.size=w.heap.size+1:=by simp
 have jX:w.heap.size+1<=w3.heap.size:=by have:=ir.size;omega
 clear Dv ir kF JV JW;rw[zma];have Dw:=qd uh;clear uh ab;have nk:∀j,j<c.length->((zgO c).getD j []).length=c.length:=fun j hj=>zsH hj
 have vx:=qd nk;clear nk;have NC:=qd (zma c);have ND:=hR.step;have QZ:=qd ND;have Ra:=qd hR.simp;clear ND hR;generalize zgO c=T at*;go_wp2_with fail;have st0:=zcV.start w3 w.heap.size c.length ag.size;have aN:Below w.heap.size w3 ((((w3.alloc (.cells #[] 139)).alloc (.cells #[(qS (some ⟨w3.heap.size,0,none⟩) 0 0)] 136)).alloc (.map #[] 0)).alloc (.cells #[.map (some (w3.heap.size+1+1))] 137)):=((((Below.refl _ _).alloc ag.size _).alloc (by simp;have:=ag.size;omega) _).alloc (by simp;have:=ag.size;omega) _).alloc (by simp;have:=ag.size;omega) _;have zJ:Below w3.heap.size w3 ((((w3.alloc (.cells #[] 139)).alloc (.cells #[(qS (some ⟨w3.heap.size,0,none⟩) 0 0)] 136)).alloc (.map #[] 0)).alloc (.cells #[.map (some (w3.heap.size+1+1))] 137)):=((((Below.refl _ _).alloc (qr _) _).alloc (by simp) _).alloc (by simp;omega) _).alloc (by simp;omega) _;have Gx:=Cd.below zJ;have Rb:=qd ((zJ.block _ (zcy NB)).trans NB);have pM:=ag.trans aN;have GC:w.heap.size<=w3.heap.size+1:=by have:=ag.size;omega
 have ub:w.heap.size<=w3.heap.size+1+1:=by omega
 have Rc:w.heap.size<w3.heap.size+1:=by omega
 have Re:w.heap.size<w3.heap.size+1+1:=by omega
 clear QY nu aN zJ Cd ag;generalize w3.heap.size+1+1+1=bS at*;generalize w3.heap.size+1+1=bM at*;generalize w3.heap.size+1=bL at*;go_loopw [25] (fun kv wr=>∃(k gP cP nP nM:Nat) (ps:List PairRef),k<=c.length/\kv= .int .i64 k/\Hid (wr.heap[w.heap.size]? =some (.cells #[.int .i64 12] 3 (0,0)))/\w.heap.size≠gP/\zcV wr w.heap.size bS bL bM gP cP nP nM c.length ps/\Hid (ziL ps=(zcg c).take k)/\Hid (∀p∈ps,WfV p.1.2.2)/\Hid ((ps.map fun p=>p.2.1).Nodup)/\zab wr w.heap.size gT cT rsT/\Below w.heap.size w wr) (fun kv _=>c.length-(intOf kv).toNat)
 case atStart=>exact⟨0,_,0,0,0,[],qz _,rfl,Rb,by omega,st0,rfl,by intro p hp;simp at hp,by simp[Hid],Gx,pM⟩
 case round=>
  clear st0 Gx pM;obtain⟨k,gP,cP,nP,nM,ps,hk,rfl,bE,xl,st,iW,vB,ku,hT,hb⟩:=hrel;by_cases ac:k<c.length
  ·have db:zbn c.length k ∉ zbm ps:=by rw[<-zse,iW.out];exact zAZ ac
   have cC:=zds c.length k;have wl:=znx c k ac;have ns:=zFV c.length k;have mP:=zBa c.length (by omega) k ac;have yY:nP<=4:=by rw[<-st.hn,<-zny,iW.out,List.length_take];omega
   have aI:=fun W=>zpY c.length k W (by omega) ac
   have Hc:=qd aI;generalize zbn c.length k=x at*;have fH:=qd cC;have uH:=qd wl;have fN:=qd db;clear db cC wl aI;have nY:=qd (Hc.out wr);go_wp2_with fail;refine nY.out.mono ?_;rintro e w4 ⟨g4,c4,rfl,aw,aM⟩;rw[fH.out];have fi:=qd (Hc.out w4);go_wp2_with fail;refine fi.out.mono ?_;rintro e w5 ⟨g5,c5,rfl,aD,aQ⟩;rw[fH.out];have sx:Below wr.heap.size wr w5:=aM.trans (aQ.mono aM.size);have st5:=st.below sx;have sy:=(sx.block _ (zcy bE.out)).trans bE.out;have NE:=hT.below sx;have bj:=hb.trans (sx.mono hb.size);have yR:Own w5 w.heap.size g4 c4 x:=(aw.below aQ aw.lt).mono hb.size;have JX:Own w5 w.heap.size g5 c5 x:=aD.mono (qt hb.size aM.size)
   have ao:∀p∈ps,p.1.1≠g4:=fun p hp e=>by
    have h1:=(st.rows p hp).1.lt;have h2:=aw.base;omega
   have Dx:((ps++[((g4,c4,x),(g5,c5,x))]).map fun p=>p.2.1).Nodup:=by
    rw[List.map_append,List.nodup_append];refine⟨ku.out,by simp,?_⟩;intro a ha b hb e;obtain⟨p,hp,rfl⟩:=List.mem_map.1 ha;simp only[List.map_cons,List.map_nil,List.mem_singleton] at hb;have h1:=(st.rows p hp).2.lt;have h2:=aD.base;have h3:=aM.size;omega
   have JY:=qd Dx;clear Dx ku;have JZ:=st5.hP.base;have aa:=zmi w.heap.size bS bL bM w.heap.size gP cP nP nM g4 c4 g5 c5 c.length c.length ps x x w5 fH.out fH.out (by rw[fH.out];exact aR) ns (by omega) (by rw[fH.out];exact st5) sy yR JX ao;have ab:=qd aa;clear aa nY fi st hT hb aM aQ aw aD sx;go_wp2_with fail;refine ab.out.mono ?_;rintro e w6 ⟨rfl,gG,gP',cP',nP',nM',st6,dR⟩;have Rf:=gG.rowsP st5 NE;have de:=bj.trans (gG.below GC JZ ub bj.size);have kY:zeF ps ((g4,c4,x),(g5,c5,x))=ps++[((g4,c4,x),(g5,c5,x))]:=by unfold zeF;exact if_pos ⟨mP.1,mP.2,fN.out⟩
   rw[kY,fH.out] at st6;have GA:w.heap.size≠bL:=by omega
   have GB:w.heap.size≠bM:=by omega
   have zK:=qd ((gG.block _ (zcy sy) GA xl GB).trans sy)
   have Ka:w.heap.size≠gP':=by
    rcases dR with h|h
    ·rw[h];exact xl
    ·have:=zcy sy;omega
   clear gG st5 NE bj ab kY dR sy bE xl GA GB;go_wp2_with fail;go_roundw
   case rel=>
    refine⟨k+1,gP',cP',nP',nM',ps++[((g4,c4,x),(g5,c5,x))],by omega,by go_num,zK.out,Ka,st6,?_,?_,JY.out,Rf,de⟩
    ·show _=_;rw[zyy,iW.out,uH.out]
    ·intro p hp
     rcases List.mem_append.1 hp with h|h
     ·exact vB.out p h
     ·rw[List.mem_singleton] at h;subst h;exact ns
   case measure=>simp[intOf];omega
  ·obtain rfl:k=c.length:=by omega
   have iT:(zcg c).take c.length=zcg c:=qF (by rw[zhA];exact qr _);rw[iT] at iW;have yY:nP<=4:=by rw[<-st.hn,<-zny,iW.out,zhA];exact aR
   have zL:=zpW c;have sA:zbm ps=(zcg c).map (·.1):=by rw[<-zse,iW.out]
   have nC:zfN c (zbm ps) 0 0:=by
    rw[sA];exact zfN.start (fun j hj=>List.mem_map.2 ⟨(zbn c.length j,zbn c.length j),by unfold zcg;exact List.mem_map.2 ⟨j,List.mem_range.2 hj,rfl⟩,rfl⟩) zL.nodup hP
   have mQ:zyz R c.length ps:=by
    refine⟨?_,ku.out⟩;intro p hp;have h1:(p.1.2.2,p.2.2.2)∈ziL ps:=List.mem_map.2 ⟨p,hp,rfl⟩;rw[iW.out] at h1;have h2:=zL.len1 _ h1
    have h3:∃j,j<c.length/\(zbn c.length j,zbn c.length j)=(p.1.2.2,p.2.2.2):=by
     unfold zcg at h1;obtain⟨j,hj,e⟩:=List.mem_map.1 h1;exact⟨j,List.mem_range.1 hj,e⟩
    obtain⟨j,hj,e⟩:=h3;have e1:=congrArg Prod.fst e;have e2:=congrArg Prod.snd e;have e1':zbn c.length j=p.1.2.2:=e1;have e2':zbn c.length j=p.2.2.2:=e2;exact⟨h2.1,h2.2,vB.out p hp,by rw[<-e1',<-e2'];exact Ra.out j hj⟩
   have wW:=qd nC;have NF:=qd mQ;clear iT ac zL sA nC mQ iW vB ku;have qL0:=(zfM st.hL).1;go_wp2_with fail;go_loopw [11] (fun kv wr=>∃(k gP cP nP nM:Nat) (ps:List PairRef),kv= .int .i64 k/\k<=nP/\Hid (wr.heap[w.heap.size]? =some (.cells #[.int .i64 12] 3 (0,0)))/\w.heap.size≠gP/\zcV wr w.heap.size bS bL bM gP cP nP nM c.length ps/\Hid (zfN c (zbm ps) k 0)/\Hid (zyz R c.length ps)/\zab wr w.heap.size gT cT rsT/\Below w.heap.size w wr) (fun kv _=>25-(intOf kv).toNat)
   case atStart=>exact⟨0,gP,cP,nP,nM,ps,rfl,qz _,bE,xl,st,wW.out,NF.out,hT,hb⟩
   case round=>
    clear st hT hb yY qL0 hk bE xl wW NF;obtain⟨k,gP,cP,nP,nM,ps,rfl,hk,bE,xl,st,nC,mQ,hT,hb⟩:=hrel;have qLd:=(zfM st.hL).1;have vn:nP<=24:=by have:=nC.out.few hP;rw[zbm,List.length_map,st.hn] at this;exact this
    by_cases ac:k<nP
    ·have vC:k<ps.length:=by rw[st.hn];exact ac
     obtain⟨d0,d1⟩:=st.hP.cell vC;have Bn:(zbm ps).getD k []=ps[k].1.2.2:=by simp[zbm,List.getD,vC]
     obtain⟨bN,iV⟩:=st.rows _ (List.getElem_mem vC);have am:=mQ.out.1 _ (List.getElem_mem vC);generalize ps[k]=pk at*;obtain⟨⟨bo,co,x⟩,⟨bd,cd,y⟩⟩:=pk;have e0:wr.cell? ⟨gP,k*2,none⟩=some (qS (some ⟨bo,0,none⟩) x.length co):=d0;have e1:wr.cell? ⟨gP,k*2+1,none⟩=some (qS (some ⟨bd,0,none⟩) y.length cd):=d1;have sB:Own wr w.heap.size bo co x:=bN;have qe:Own wr w.heap.size bd cd y:=iV;have dF:x.length=c.length:=am.1;have gZ:y.length=c.length:=am.2.1;have Kb:WfV x:=am.2.2.1;have Dy:R x y:=am.2.2.2;have Kc:=qd Dy;clear Dy;have Dz:(zbm ps).getD k []=x:=Bn;have Ri:=qd Dz;clear d0 d1 bN iV am Bn Dz vC;rw[dF] at e0;rw[gZ] at e1;have eo:=qd dF;have kV:=qd gZ;clear dF gZ;have Kd:=st.hP.lt;obtain⟨wo,rfl⟩:∃wo:World,wo=wr:=⟨_,rfl⟩;go_wp2_with fail;have stA:=st.below ((Below.refl _ _).alloc (qr _) (.cells #[(qS (some ⟨bo,0,none⟩) c.length co),(qS (some ⟨bd,0,none⟩) c.length cd)] 139));have NG:=hT.below ((Below.refl _ _).alloc (qr _) (.cells #[(qS (some ⟨bo,0,none⟩) c.length co),(qS (some ⟨bd,0,none⟩) c.length cd)] 139));have DC:=sB.alloc (.cells #[(qS (some ⟨bo,0,none⟩) c.length co),(qS (some ⟨bd,0,none⟩) c.length cd)] 139);have sC:=qe.alloc (.cells #[(qS (some ⟨bo,0,none⟩) c.length co),(qS (some ⟨bd,0,none⟩) c.length cd)] 139);have NH:=hb.alloc hb.size (.cells #[(qS (some ⟨bo,0,none⟩) c.length co),(qS (some ⟨bd,0,none⟩) c.length cd)] 139);have NI:Hid ((wo.alloc (.cells #[(qS (some ⟨bo,0,none⟩) c.length co),(qS (some ⟨bd,0,none⟩) c.length cd)] 139)).heap[wo.heap.size]? =some (.cells #[(qS (some ⟨bo,0,none⟩) c.length co),(qS (some ⟨bd,0,none⟩) c.length cd)] 139 (0,0))):=heap_alloc_new _ _;have zG:wo.heap.size≠gP:=by omega
     have JQ:wo.heap.size≠bL:=by have:=zcy st.hL;omega
     have AW:wo.heap.size≠bM:=by have:=st.hM.lt;omega
     have sD:=qd ((((Below.refl _ _).alloc (qr _) (.cells #[(qS (some ⟨bo,0,none⟩) c.length co),(qS (some ⟨bd,0,none⟩) c.length cd)] 139):Below wo.heap.size wo _).block _ (zcy bE.out)).trans bE.out);clear st hT sB qe hb e0 e1 Kd qLd bE;generalize wo.alloc (.cells #[(qS (some ⟨bo,0,none⟩) c.length co),(qS (some ⟨bd,0,none⟩) c.length cd)] 139)=wA at*;generalize wo.heap.size=bp at*;go_loopw [51] (fun iv wi=>∃i:Nat,i<=c.length/\iv= .int .i64 i/\Hid (ztg R w bS bL bM w.heap.size bp bo co bd cd gT cT k i c x y rsT wi)) (fun iv _=>c.length-(intOf iv).toNat)
     case atStart=>exact⟨0,qz _,rfl,⟨gP,cP,nP,nM,ps,ac,stA,nC.out,mQ.out,Ri.out,sD.out,NG,NH,DC,sC,NI.out,zG,xl⟩⟩
     case round=>
      clear stA nC mQ NG NH DC sC NI sD ac;obtain⟨i,hi,rfl,hR⟩:=hrel;by_cases bG:i<c.length
      ·obtain⟨b0,b1⟩:=hR.out.cells;obtain⟨gP,cP,nP,nM,ps',qI,st,aV,mQ,hx,hH,hT,hb,bN,iV,hp,zG,zH⟩:=hR.out;have cC:(zbk T i y).length=c.length:=by rw[zdL];exact kV.out
       have an:(zbk c i x).length=c.length:=by rw[zdL];exact eo.out
       have K1:∀W,Below wr.heap.size wr W->Calls Tryz.prog 191 #[(qS (some ⟨gc,oc,none⟩) c.length cc),.int .i64 i,(qS (some ⟨bo,0,none⟩) c.length co)] W (zav W (zbk c i x)):=fun W hW=>zix gc oc c.length cc i bo 0 c.length co c x W rfl eo.out bG (by rw[eo.out];exact bG) (by rw[dY.out i bG,eo.out];exact qr _) (by rw[dY.out i bG];omega) (qL ah (hb.trans (hW.mono hb.size)).size) (qL bN.lt hW.size) (Hr.out.below (hb.trans (hW.mono hb.size)) ah) (bN.cells.below hW bN.lt)
       have K2:∀W,Below wr.heap.size wr W->Calls Tryz.prog 191 #[(qS (some ⟨gT,0,none⟩) c.length cT),.int .i64 i,(qS (some ⟨bd,0,none⟩) c.length cd)] W (zav W (zbk T i y)):=fun W hW=>zix gT 0 c.length cT i bd 0 c.length cd T y W NC.out kV.out (by rw[NC.out];exact bG) (by rw[kV.out];exact bG) (by rw[vx.out i bG,kV.out];exact qr _) (by rw[vx.out i bG];omega) (qL hT.lt hW.size) (qL iV.lt hW.size) (by have:=(hT.below hW).rows2;rw[Dw.out] at this;exact this) (iV.cells.below hW iV.lt)
       have K3:=fun(W:World) (gA cA gD cD:Nat) (hW:Below wr.heap.size wr W) (kQ:Own W wr.heap.size gA cA (zbk c i x)) (zI:Own W wr.heap.size gD cD (zbk T i y))=>zyA (bS:=bS) aR hP eo.out cC Kb bG qI st aV mQ (QZ.out x y i Kc.out bG) hx hH hT hb bN iV hp zG JQ AW (by omega) (by omega) zH GC ub hW kQ zI
       have k1:=qd K1;have k2:=qd K2;have k3:=qd K3;have nl:=qd an;have fH:=qd cC;clear K1 K2 K3 an cC st aV mQ hx hH hT hb bN iV hp zG zH qI;have hX:Below wr.heap.size wr wr.drew:=zcr wr 1;have x0:wr.drew.cell? ⟨bp,0,none⟩=some (qS (some ⟨bo,0,none⟩) c.length co):=b0;have x1:wr.drew.cell? ⟨bp,1,none⟩=some (qS (some ⟨bd,0,none⟩) c.length cd):=b1;clear b0 b1 hR;go_wp2_with fail
       go_region_held3 (fun W=>W.cell? ⟨bp,0,none⟩=some (qS (some ⟨bo,0,none⟩) c.length co)/\W.cell? ⟨bp,1,none⟩=some (qS (some ⟨bd,0,none⟩) c.length cd))
        (first|with_reducible exact⟨x0,x1⟩|with_reducible exact⟨zaB bT x0,zaB bT x1⟩|with_reducible exact⟨zaB mh (zaB bT x0),zaB mh (zaB bT x1)⟩|with_reducible exact hF.cells|exact⟨x0,x1⟩)
        (first
          |(go_at_call 191;(with_reducible refine(k1.out _ hX).mono ?_);rintro e wA ⟨gA,cA,rfl,kQ,bT⟩;rw[nl.out])
          |(go_at_call 191;(with_reducible refine(k2.out _ (hX.trans (bT.mono hX.size))).mono ?_);rintro e wD ⟨gD,cD,rfl,zI,mh⟩;rw[fH.out])
          |(go_at_call 188;(with_reducible refine(k3.out _ gA cA gD cD ((hX.trans (bT.mono hX.size)).trans (mh.mono (qt hX.size bT.size))) ((kQ.mono hX.size).below mh kQ.lt) (zI.mono (qt hX.size bT.size))).mono ?_);rintro e wF ⟨rfl,hF⟩))
       have HF:=qd hF;clear hF hX x0 x1 bT mh kQ zI k1 k2 k3;go_wp2_with fail;go_roundw
       case rel=>exact⟨i+1,by omega,by go_num,HF.out⟩
       case measure=>simp[intOf];omega
      ·obtain rfl:i=c.length:=by omega
       obtain⟨gP,cP,nP,nM,ps',qI,st,aV,mQ,hx,hH,hT,hb,-,-,-,-,zH⟩:=hR.out;have eY:=qd aV.next;have Ke:=qd mQ;have JN:=qd hH;clear aV mQ hH hx hR;go_wp2_with fail;go_roundw
       case rel=>exact⟨k+1,gP,cP,nP,nM,ps',by go_num,by omega,JN.out,zH,st,eY.out,Ke.out,hT,hb⟩
       case measure=>simp[intOf];omega
    ·obtain rfl:k=nP:=by omega
     have bF:=nC.out.fin (by rw[zbm,List.length_map,st.hn];exact qr _);have ez:=nC.out.nodup
     have qc:ps≠[]:=by
      intro e;have h1:=nC.out.simp 0 (by have:=hC.1;omega);rw[e] at h1;simp[zbm] at h1
     have aa:=zyx (zJA zeL zja zmb) (enters_of Tryz.func193 (by kernel_rfl) rfl) w.heap.size gP cP k ps wr st.hn (by rw[st.hn];omega) qc st.hP (fun p hp=>⟨(st.rows p hp).1,by rw[(mQ.out.1 p hp).1];omega,(st.neOwn (st.rows p hp).1).2.2.2.symm⟩);have ab:=qd aa;have dW:=qd bF;have ud:=qd ez;clear aa bF ez qc;go_wp2_with fail;refine ab.out.mono ?_;rintro e w4 ⟨rfl,ps4,cZ,fy,Dt,aT⟩;have aG:Below w.heap.size w w4:=hb.grown aT hb.size (by intro j hj;cases hj;exact st.hP.base);have dV:ps4.length=k:=by rw[cZ.length_eq];exact st.hn
     have GE:∀b,b<wr.heap.size->b≠gP->w4.heap[b]? =wr.heap[b]? :=fun b Rj ao=>aT.block b Rj (fun e=>ao (Option.some.inj e))
     have jD:∀p∈ps4,Own w4 w.heap.size p.1.1 p.1.2.1 p.1.2.2/\Own w4 w.heap.size p.2.1 p.2.2.1 p.2.2.2:=fun p hp=>by
      have uE:=cZ.mem_iff.1 hp;have a:=(st.rows p uE).1;have b:=(st.rows p uE).2;exact⟨a.same (GE _ a.lt (st.neOwn a).2.2.2),b.same (GE _ b.lt (st.neOwn b).2.2.2)⟩
     have DD:=(GE _ (zcy st.hL) st.ne.2.2.2.2.1).trans st.hL;have DF:(ps4.map fun p=>p.1.1).Nodup:=(cZ.map _).nodup_iff.2 st.nodup;have ku:(ps4.map fun p=>p.2.1).Nodup:=(cZ.map _).nodup_iff.2 mQ.out.2;have DG:∀p∈ps4,R p.1.2.2 p.2.2.2:=fun p hp=>(mQ.out.1 p (cZ.mem_iff.1 hp)).2.2.2
     have sE:zbm ps4=zaq c:=(ztu ud.out (cZ.map _) (fy.imp (by intro a b h;omega))).trans dW.out;have pC:(zaq c).length=k:=by rw[<-sE,zbm,List.length_map];exact dV
     have NJ:zfd w ((w4.alloc (.cells #[] 25)).alloc (.cells #[] 25)) gP cP w4.heap.size 0 (w4.heap.size+1) 0 0 0 ps4:=by
      have hA:=(Below.refl w4.heap.size w4).alloc (qr _) (.cells #[] 25);have hs:(w4.alloc (.cells #[] 25)).heap.size=w4.heap.size+1:=by simp
      have hJ:=(Below.refl (w4.heap.size+1) (w4.alloc (.cells #[] 25))).alloc (Nat.le_of_eq hs.symm) (.cells #[] 25);have nD:Below w4.heap.size w4 _:=hA.trans (hJ.mono (Nat.le_succ _));have h1:zab (w4.alloc (.cells #[] 25)) w.heap.size w4.heap.size 0 []:=zab.empty aG.size;have h2:zab ((w4.alloc (.cells #[] 25)).alloc (.cells #[] 25)) w.heap.size (w4.alloc (.cells #[] 25)).heap.size 0 []:=zab.empty (by rw[hs];have:=aG.size;omega);rw[hs] at h2;exact⟨h1.below (by rw[hs];exact hJ),h2,zaE.same Dt (nD.block _ Dt.lt),fun p hp=>⟨(jD p hp).1.below nD (jD p hp).1.lt,(jD p hp).2.below nD (jD p hp).2.lt⟩,by omega,aG.trans (nD.mono aG.size)⟩
     have qLa:∀o1 o2,((w4.alloc o1).alloc o2).cell? ⟨bL,0,none⟩=some (qS (some ⟨gP,0,none⟩) k cP):=fun o1 o2=>by
      have hA:=(Below.refl w4.heap.size w4).alloc (qr _) o1;have hJ:=(Below.refl (w4.alloc o1).heap.size (w4.alloc o1)).alloc (qr _) o2;have vD:=zcy DD;exact(zfM ((hJ.block _ (qL vD hA.size)).trans ((hA.block _ vD).trans DD))).1
     have Kf:=qd DF;have Kg:=qd ku;have Kh:=qd DG;have xm:=qd sE;have Ki:=qd pC;have Rk:k<=24:=vn;clear cZ fy Dt aT aG GE jD DD DF ku DG sE pC ab dW ud st nC mQ hT hb bE xl qLd ac vn;go_wp2_with fail;go_loopw [14,15,73] (fun o1 o2 kv wi=>∃(t gO cO gO2 cO2:Nat),t<=k/\kv= .int .i64 t/\o1=(qS (some ⟨gO,0,none⟩) t cO)/\o2=(qS (some ⟨gO2,0,none⟩) t cO2)/\zfd w wi gP cP gO cO gO2 cO2 t t ps4) (fun _ _ kv _=>k-(intOf kv).toNat)
     case atStart=>exact⟨0,_,0,_,0,qz _,rfl,rfl,rfl,NJ⟩
     case round=>
      clear NJ qLa;obtain⟨t,gO,cO,gO2,cO2,ht,rfl,rfl,rfl,hE⟩:=hrel;by_cases bU:t<k
      ·have ii:t<ps4.length:=by rw[dV];exact bU
       obtain⟨d0,d1⟩:=hE.hP.cell ii;have aY:=(hE.rows _ (List.getElem_mem ii)).1;have dJ:=(hE.rows _ (List.getElem_mem ii)).2;have ao:=zIF Kf.out ii;have ky:=zFW Kg.out ii;have vA:((ps4.take t).map (·.1)).length=t:=by rw[List.length_map,List.length_take];omega
       have DI:((ps4.take t).map (·.2)).length=t:=by rw[List.length_map,List.length_take];omega
       have NK:=fun(wi w':World) (g1 c1 g2 c2 g' c' t2:Nat) (h:zfd w wi gP cP g1 c1 g2 c2 t t2 ps4)=>h.app1 (w':=w') (g':=g') (c':=c') ii
       have hJ:=fun(wi w':World) (g1 c1 g2 c2 g' c' t1:Nat) (h:zfd w wi gP cP g1 c1 g2 c2 t1 t ps4)=>h.app2 (w':=w') (g':=g') (c':=c') ii
       have pg:=fun(wi:World) (g1 c1 g2 c2 t1 t2:Nat) (h:zfd w wi gP cP g1 c1 g2 c2 t1 t2 ps4)=>(h.rows _ (List.getElem_mem ii)).2
       have sG:=qd pg;clear pg;generalize ps4[t]=pk at*;obtain⟨⟨bo,co,x⟩,⟨bd,cd,y⟩⟩:=pk;have e0:wr.cell? ⟨gP,t*2,none⟩=some (qS (some ⟨bo,0,none⟩) x.length co):=d0;have e1:wr.cell? ⟨gP,t*2+1,none⟩=some (qS (some ⟨bd,0,none⟩) y.length cd):=d1;have lk:Own wr w.heap.size bo co x:=aY;have sH:Own wr w.heap.size bd cd y:=dJ;have GF:=qd vA;have Kj:=qd DI;have uJ:=qd ao;have zM:=qd ky;have Rm:=qd NK;have pU:=qd hJ;have pg:=qd (fun(wi:World) (g1 c1 g2 c2 t1 t2:Nat) (h:zfd w wi gP cP g1 c1 g2 c2 t1 t2 ps4)=>sG.out wi g1 c1 g2 c2 t1 t2 h);clear sG;clear d0 d1 aY dJ vA DI ao ky NK hJ;have hA:=(Below.refl wr.heap.size wr).alloc (qr _) (.cells #[(qS (some ⟨bo,0,none⟩) x.length co),(qS (some ⟨bd,0,none⟩) y.length cd)] 139);have Kk:=hE.keep hA;have qf:=lk.below hA lk.lt;have DJ:=sH.below hA sH.lt;have aB:(wr.alloc (.cells #[(qS (some ⟨bo,0,none⟩) x.length co),(qS (some ⟨bd,0,none⟩) y.length cd)] 139)).heap.size=wr.heap.size+1:=by simp
       have tY:(wr.alloc (.cells #[(qS (some ⟨bo,0,none⟩) x.length co),(qS (some ⟨bd,0,none⟩) y.length cd)] 139)).cell? ⟨wr.heap.size,1,none⟩=some (qS (some ⟨bd,0,none⟩) y.length cd):=(zte (heap_alloc_new wr (.cells #[(qS (some ⟨bo,0,none⟩) x.length co),(qS (some ⟨bd,0,none⟩) y.length cd)] 139))).2;have lu:some wr.heap.size≠some gO:=fun e=>by have h1:=Option.some.inj e;have h2:=hE.r1.lt;omega
       clear hE lk sH hA;go_wp2_with (at_builtin;refine zao (w:=wr.alloc (.cells #[(qS (some ⟨bo,0,none⟩) x.length co),(qS (some ⟨bd,0,none⟩) y.length cd)] 139)) rfl _ _ rfl w.heap.size gO cO t (wr.heap.size+1) ((ps4.take t).map (·.1)) (bo,co,x) _ GF.out rfl aB Kk.r1 qf uJ.out rfl rfl (by omega) ?_);intro g5 c5 w5 eW eF cY;have GG:=Rm.out _ _ _ _ _ _ _ _ _ Kk (by simpa only[List.map_take] using eW) eF (by rw[aB];exact cY);have sI:Own w5 w.heap.size bd cd y:=pg.out _ _ _ _ _ _ _ GG;have Kl:=eF.cell (a:=⟨wr.heap.size,1,none⟩) tY lu;clear eW eF cY Kk qf DJ tY;go_wp2_with (at_builtin;refine zao (w:=w5) rfl _ _ rfl w.heap.size gO2 cO2 t w5.heap.size ((ps4.take t).map (·.2)) (bd,cd,y) _ Kj.out rfl rfl GG.r2 sI zM.out rfl rfl (by omega) ?_);intro g6 c6 w6 wT fG dR;have Rn:=pU.out _ _ _ _ _ _ _ _ _ GG (by simpa only[List.map_take] using wT) fG dR;clear wT fG dR GG sI Kl;go_wp2_with fail;go_roundw
       case rel=>exact⟨t+1,g5,c5,g6,c6,by omega,by go_num,rfl,rfl,Rn⟩
       case measure=>simp[intOf];omega
      ·obtain rfl:t=k:=by omega
       have iT:(ps4.take t).map (·.1)=ps4.map (·.1):=by rw[qF (by rw[dV];exact qr _)]
       have sJ:(ps4.take t).map (·.2)=ps4.map (·.2):=by rw[qF (by rw[dV];exact qr _)]
       have uj:=hE.r1;have Bp:=hE.r2;rw[iT] at uj;rw[sJ] at Bp;have Ro:=hE.below;have aI:zaa (ps4.map (·.1))=zaq c:=by rw[<-xm.out];simp[zaa,zbm]
       have aH:(zaa (ps4.map (·.2))).length=(zaq c).length:=by rw[Ki.out,zac,List.length_map,dV]
       have eE:∀k,k<(zaq c).length->R ((zaq c).getD k []) ((zaa (ps4.map (·.2))).getD k []):=by
        intro k hk;have vC:k<ps4.length:=by rw[dV,<-Ki.out];exact hk
        have h1:=Kh.out _ (List.getElem_mem vC);have e1:(zaq c).getD k []=ps4[k].1.2.2:=by rw[<-xm.out];simp[zbm,List.getD,vC]
        have e2:(zaa (ps4.map (·.2))).getD k []=ps4[k].2.2.2:=by simp[zaa,List.getD,vC]
        rw[e1,e2];exact h1
       have nY:=qd aI;have fi:=qd aH;have zd:=qd eE;clear iT sJ hE aI aH eE;go_wp2_with fail;go_ret2;refine⟨gO,cO,_,gO2,cO2,_,?_,nY.out,fi.out,zd.out,uj,Bp,Ro⟩;rw[Ki.out];rfl
end
end Go.Proofs.YtlgcmaoimpgedaaGreatDoor

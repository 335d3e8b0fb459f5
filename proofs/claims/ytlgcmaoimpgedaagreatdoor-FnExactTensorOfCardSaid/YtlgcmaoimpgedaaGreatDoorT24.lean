/- SortR TopS TopI -/
import Derived.Test.YtlgcmaoimpgedaaGreatDoorSlay
import Derived.Shelf.SlSortCmp.NoneTotal
import Derived.Test.YtlgcmaoimpgedaaGreatDoorT22
import Derived.Deep.LoopGhost
set_option maxHeartbeats 4000000
set_option maxRecDepth 100000
set_option linter.unusedSimpArgs false
namespace Go.Proofs.YtlgcmaoimpgedaaGreatDoor
open Go.Value renaming slice->qS
section
open Go.RowKit Game
open Go.Sort (Holds putRow putCells mapBlock onCells grow heap_grow_old SWO PermIn SortedIn)
section
variable {α:Type} [Inhabited α] (enc:α->Value)
theorem znq{w:World}{g n:Nat}{os:Array Obj}{cur:Array Value}{e:TypeId}{fr:Nat × Nat}(d:Array α)(hb:w.heap[g]? =some (.cells cur e fr)):
 (sortWorld enc w g 0 n d os).heap[g]? =some (.cells (putCells enc 0 d cur) e fr):=by
 have hg:g<w.heap.size:=(Array.getElem?_eq_some_iff.1 hb).1;unfold sortWorld;rw[heap_grow_old _ _ (by simpa using hg)];simp[putRow,mapBlock,Sort.ahead,Array.getElem?_modify,hb,onCells]
theorem zdF{w:World}{g n k:Nat}{os:Array Obj}(d:Array α)(hk:k<w.heap.size)(ao:g≠k):
 (sortWorld enc w g 0 n d os).heap[k]? =w.heap[k]? :=by
 unfold sortWorld;rw[heap_grow_old _ _ (by simpa using hk)];simp[putRow,mapBlock,Sort.ahead,Array.getElem?_modify,ao]
theorem zfw{w:World}{g n:Nat}{os:Array Obj}(d:Array α):w.grownBy (sortWorld enc w g 0 n d os) (some g):=
 ⟨rfl,rfl,rfl,by unfold sortWorld;simp,fun k hk ao=>zdF enc d hk (fun e=>ao (by rw[e]))⟩
theorem zkQ(cur:Array Value)(ts:List α)(h:ts.length<=cur.size):(putCells enc 0 ts.toArray cur).toList.take ts.length=ts.map enc:=by
 apply List.ext_getElem?;intro j;by_cases hj:j<ts.length
 ·rw[List.getElem?_take_of_lt hj,Array.getElem?_toList];simp[putCells,hj,show j<cur.size by omega]
 ·rw[List.getElem?_take_eq_none (by omega),List.getElem?_eq_none (by simp;omega)]
theorem zsT{w:World}{B g cap:Nat}{E:TypeId}{ss:List α}(h:zaI w B E g cap (ss.map enc)):Holds enc w g 0 ss.toArray:=by
 intro j hj;have fC:j<ss.length:=by simpa using hj
 refine⟨?_,h.frozen _⟩;rw[Nat.zero_add,h.cell j (by simpa using fC)];simp[fC]
theorem zwB{w:World}{B g cap n:Nat}{E:TypeId}{os:Array Obj}{ss ts:List α}(h:zaI w B E g cap (ss.map enc))(hl:ts.length=ss.length):zaI (sortWorld enc w g 0 n ts.toArray os) B E g cap (ts.map enc):=by
 rcases h.2 with⟨h',_⟩|⟨g',cap',cur,h',hb,hh,hn,hm,hs,bQ⟩
 ·simp at h'
 ·simp only[Value.slice.injEq,Option.some.injEq,Addr.mk.injEq,List.length_map] at h';obtain⟨⟨rfl,_⟩,_,rfl⟩:=h';refine⟨by simp,.inr ⟨g,cap,_,by simp,hb,znq enc _ hh,by simp at hn ⊢;omega,hm,by simp[putCells,hs],?_⟩⟩;rw[Nat.mul_one,List.length_map];refine zkQ enc cur ts ?_;simp at hn hs;omega
end
def zyn(f:Nat)(cf:LI->LI->Int):Prop:=
 ∀(g1 o1 c1 g2 o2 c2:Nat) (xs ys:LI) (w:World),xs.length<=1048576->ys.length<=1048576->zag w g1 o1 xs->zag w g2 o2 ys->
  Calls Tryz.prog f #[(qS (some ⟨g1,o1,none⟩) xs.length c1),(qS (some ⟨g2,o2,none⟩) ys.length c2)] w fun e w'=>e= .returned (.int .i64 (cf xs ys))/\∃q os',w'=grow (w.drewN q) os'
theorem zAe{w:World}{v:Value}{e:Ending}{w':World}(h:zJg w v e w'):e= .returned v/\∃q os',w'=grow (w.drewN q) os':=by
 obtain⟨h1,o,q,rfl⟩:=h;refine⟨h1,q,#[o],?_⟩;rw[<-Sort.alloc_eq_grow];rfl
theorem zyo{w:World}{v:Value}{e:Ending}{w':World}(h:zap w v e w'):e= .returned v/\∃q os',w'=grow (w.drewN q) os':=by
 obtain⟨h1,q,rfl⟩:=h;exact⟨h1,q,#[],by simp⟩
theorem zJA{cf:LI->LI->Int}(anti:∀a b,cf b a=- cf a b)(zero:∀{a b},cf a b=0->a=b)(tr:∀{a b d},cf a b<0->cf b d<0->cf a d<0):SWO (ltOf cf) where
 irrefl x:=by unfold ltOf;have:=anti x x;simp;omega
 trans x y z h1 h2:=by unfold ltOf at*;simp at*;exact tr h1 h2
 ntrans x y z h1 h2:=by
  unfold ltOf at*;simp at*
  rcases Int.lt_trichotomy (cf x z) 0 with h|h|h
  ·have a1:=anti x y;have a2:=anti y z
   rcases Int.lt_trichotomy (cf x y) 0 with g|g|g
   ·omega
   ·have:=zero g;subst this;omega
   ·rcases Int.lt_trichotomy (cf y z) 0 with k|k|k
    ·omega
    ·have:=zero k;subst this;omega
    ·have:=tr (a:=z) (b:=y) (d:=x) (by omega) (by omega);have a3:=anti x z;omega
  ·omega
  ·omega
theorem znr(f:Nat)(cf:LI->LI->Int)(Qv:zyn f cf)(oz:SWO (ltOf cf))(ef:∀args w,(callFunc f args).run Tryz.prog w= .ok (.enter f args) w)(B g cap n:Nat)(rs:List RowRef)(w:World)(hn:rs.length=n)(hl:rs.length<=1048576)(an:∀r∈rs,r.2.2.length<=1048576)
 (ho:zab w B g cap rs):
 Calls Tryz.prog 119 #[(qS (some ⟨g,0,none⟩) n cap),.func (.func f) #[] #[]] w fun e w'=>
  e= .returned (.tuple #[])/\∃rs',rs'.Perm rs/\(zaa rs').Pairwise (fun a b=>¬cf b a<0)/\zab w' B g cap rs'/\w.grownBy w' (some g):=by
 subst hn
 cases cK:rs with
 |nil=>
  have br:=AnyF.slices_SortFunc_none {Tryz.sortRows with} (some ⟨g,0,none⟩) cap (.func (.func f) #[] #[]) w
  change Calls Tryz.prog 119 _ _ _ at br
  refine br.mono ?_;rintro e w' ⟨rfl,rfl⟩;subst cK;exact⟨rfl,[],List.Perm.refl _,List.Pairwise.nil,ho,World.grownBy.refl _ _⟩
 |cons r0 rest=>
  rw[<-cK];have fm:r0∈rs:=by rw[cK];simp
  letI:Inhabited {r:RowRef // r∈rs}:=⟨⟨r0,fm⟩⟩
  let d:Array {r:RowRef // r∈rs}:=rs.attach.toArray
  let enc:{r:RowRef // r∈rs}->Value:=fun r=>zah r.1
  let cf':{r:RowRef // r∈rs}->{r:RowRef // r∈rs}->Int:=fun a b=>cf a.1.2.2 b.1.2.2
  have pO:d.size=rs.length:=by simp[d]
  have ai:zaI w B 25 g cap (rs.attach.map enc):=by
   have e:rs.attach.map enc=rs.map zah:=by
    show rs.attach.map (fun r=>zah r.1)=_;have h:=List.map_map (f:=(Subtype.val:{r:RowRef // r∈rs}->RowRef)) (g:=zah) (l:=rs.attach);rw[List.attach_map_subtype_val] at h;exact h.symm
   rw[e];exact ho.1
  have hH:Holds enc w g 0 d:=zsT enc ai;have rV:SWO (ltOf cf'):=⟨fun x=>oz.irrefl _,fun x y z h1 h2=>oz.trans _ _ _ h1 h2,fun x y z h1 h2=>oz.ntrans _ _ _ h1 h2⟩
  have pP:CmpLays1 Tryz.prog f #[] enc cf' g 0 d.size w:=by
   intro m os dk Gm x y;have hx:=ho.2.1 x.1 x.2;have hy:=ho.2.1 y.1 y.2
   have fh:zag (sortWorld enc w g 0 m dk os) x.1.1 0 x.1.2.2:=by
    have h1:=hx.cells;have ao:g≠x.1.1:=ho.1.ne hx.toV (by decide);intro j hj;rw[<-h1 j hj];unfold World.cell?;simp only[zdF enc dk hx.lt ao]
   have gS:zag (sortWorld enc w g 0 m dk os) y.1.1 0 y.1.2.2:=by
    have h1:=hy.cells;have ao:g≠y.1.1:=ho.1.ne hy.toV (by decide);intro j hj;rw[<-h1 j hj];unfold World.cell?;simp only[zdF enc dk hy.lt ao]
   exact Qv x.1.1 0 x.1.2.1 y.1.1 0 y.1.2.1 x.1.2.2 y.1.2.2 _ (an _ x.2) (an _ y.2) fh gS
  have br:=Any.slices_SortFunc Tryz.sortRows enc (fun _=>rfl) cf' rV f #[] g 0 cap d w ef pP hH ho.1.lt (by rw[pO];omega);rw[pO] at br
  change Calls Tryz.prog 119 _ _ _ at br
  refine br.mono ?_;rintro e w' ⟨rfl,d',k,os,hp,hs,rfl⟩;have ls:d'.size=rs.length:=by rw[hp.1,pO]
  have rW:(d'.toList.map (fun x:{r:RowRef // r∈rs}=>x.1)).Perm rs:=by
   have h1:=hp.2.2;have h2:(d'.extract 0 rs.length).toList=d'.toList:=by rw[<-ls];simp
   have h3:(d.extract 0 rs.length).toList=d.toList:=by rw[<-pO];simp
   rw[h2,h3] at h1;have h4:=h1.map (fun x:{r:RowRef // r∈rs}=>x.1);have h5:d.toList.map (fun x:{r:RowRef // r∈rs}=>x.1)=rs:=List.attach_map_subtype_val rs;rw[h5] at h4;exact h4
  refine⟨rfl,d'.toList.map (·.1),rW,?_,?_,zfw enc d'⟩
  ·unfold zaa;rw[List.map_map,List.pairwise_map,List.pairwise_iff_getElem];intro i j hi hj iP;have h1:=hs i j (qz _) iP (by rw[<-ls];simpa using hj);have h2:i<d'.size:=by simpa using hi
   have h3:j<d'.size:=by simpa using hj
   rw[getElem!_pos d' i h2,getElem!_pos d' j h3] at h1;unfold ltOf at h1;simpa using h1
  ·have jV:d'.toList.length=rs.attach.length:=by simp[hp.1,pO]
   have h1:=zwB (n:=k) (os:=os) enc ai jV;have e1:d'.toList.map enc=(d'.toList.map (·.1)).map zah:=by rw[List.map_map];rfl
   rw[e1] at h1
   have be:∀r∈d'.toList.map (·.1),r∈rs:=fun r hr=>by
    obtain⟨x,-,rfl⟩:=List.mem_map.1 hr;exact x.2
   refine⟨by simpa using h1,fun r hr=>?_,?_⟩
   ·have h2:=ho.2.1 r (be r hr);exact h2.grown (zfw enc d') (fun e=>ho.1.ne h2.toV (by decide) (Option.some.inj e).symm)
   ·exact(rW.map (·.1)).nodup_iff.2 ho.2.2
end
section
open Go.RowKit Game
open Go.Sort (SWO)
def zuR(w:World)(c:LL)(v:LI)(e:Ending)(w':World):Prop:=
 ∃g1 c1 g2 c2,e= .returned (.tuple #[(qS (some ⟨g1,0,none⟩) c.length c1),(qS (some ⟨g2,0,none⟩) ((zcv c v).length) c2),.bool true])/\Own w' w.heap.size g1 c1 (zbd c v)/\Own w' w.heap.size g2 c2 (zae (zcv c v))/\Below w.heap.size w w'
theorem Game.zbY.wt{c:LL}{v:LI}(h:zbY c v):zir c v:=⟨h.hC,h.len,h.small⟩
structure zfx(c:LL)(v x:LI)(p:List Nat):Prop where
 orb:zbv c v x
 top:(zdb c (30-p.length) x).1=zbd c v
 word:p++(zdb c (30-p.length) x).2=zcv c v
theorem zfx.start{c:LL}{v:LI}(hD:zbY c v):zfx c v v []:=⟨zbv.self hD.len,rfl,rfl⟩
theorem zfx.len{c:LL}{v x:LI}{p:List Nat}(h:zfx c v x p)(hD:zbY c v):p.length<=24:=by
 have h1:=(zqi hD).2;rw[<-h.word,qA] at h1;omega
theorem zfx.none{c:LL}{v x:LI}{p:List Nat}(h:zfx c v x p)(hn:zaG x=none):x=zbd c v/\p=zcv c v:=by
 have e:=zmS (c:=c) (f:=30-p.length) hn;have h1:=h.top;have h2:=h.word;rw[e] at h1 h2;exact⟨h1,by simpa using h2⟩
theorem zfx.some{c:LL}{v x:LI}{p:List Nat}{i:Nat}(h:zfx c v x p)(hD:zbY c v)(hn:zaG x=some i):i<c.length/\zfx c v (refl c i x) (p++[i])/\p.length<24:=by
 have hi:i<c.length:=by rw[<-h.orb.1];exact(zdM hn).1
 have hl:=h.len hD;have h1:=h.top;have h2:=h.word;rw[show 30-p.length=(29-p.length)+1 by omega,zmT hn] at h1 h2;have e:30-(p++[i]).length=29-p.length:=by rw[qA,List.length_singleton];omega
 have h3:zfx c v (refl c i x) (p++[i]):=⟨h.orb.refl hD hi,by rw[e];exact h1,by rw[e,List.append_assoc];exact h2⟩;have h4:=h3.len hD;rw[qA,List.length_singleton] at h4;exact⟨hi,h3,by omega⟩
theorem zoR(p:List Nat)(i:Nat):zae p++[(i:Int)]=zae (p++[i]):=by simp[zae]
theorem zea(gc oc n cc g o m cv:Nat)(c:LL)(v:LI)(w:World)(hn:c.length=n)(hm:v.length=m)(hD:zbY c v)(ah:gc<w.heap.size)(hg:g<w.heap.size)(hr:zal w gc oc c)(hv:zag w g o v):
 Calls Tryz.prog 89 #[(qS (some ⟨gc,oc,none⟩) n cc),(qS (some ⟨g,o,none⟩) m cv)] w (zuR w c v):=by
 subst hn;subst hm;have aR:=hD.hC.2.1;have wQ:=hD.len;have an:∀j,j<c.length->(c.getD j []).length<=1048576:=fun j hj=>by rw[hD.hC.2.2.1 j hj];omega
 have aa:=ziw gc oc _ cc g o _ cv c v w rfl rfl (by omega) (by omega) an hr hv;rw[decide_eq_true hD.wt] at aa;have ab:=qd aa;have uC:v.length<=4:=by omega
 clear aa wQ
 go_enter Tryz.func89,Tryz.ntmps89
 go_wp2_with fail;refine ab.out.mono ?_;rintro e w1 ⟨rfl,bh⟩;have ad:=zaf (Below.refl w.heap.size w) bh;clear bh ab;have aa:=zcE gc oc _ cc c w1 rfl (by omega) an (qL ah ad.size) (hr.below ad ah);rw[hD.fin] at aa;have ab:=qd aa;clear aa;go_wp2_with fail;refine ab.out.mono ?_;rintro e w2 ⟨rfl,aF⟩;have ae:=ad.trans (aF.mono ad.size);clear ab ad aF;go_wp2_with (at_builtin;refine zaV (w:=w2) rfl _ _ rfl g o _ cv v rfl (qL hg ae.size) (hv.below ae hg) rfl rfl (by omega) ?_);intro g3 c3 w3 al ir;have ag:=ae.trans (ir.mono ae.size);have cn:Own w3 w.heap.size g3 c3 v:=al.mono ae.size;clear al ir ae;go_wp2_with fail;have aM:Below w.heap.size w (w3.alloc (.cells #[] 3)):=ag.alloc ag.size _;have aw:Own (w3.alloc (.cells #[] 3)) w.heap.size g3 c3 v:=cn.alloc _;have tV:Own (w3.alloc (.cells #[] 3)) w.heap.size w3.heap.size 0 (zae []):=Own.empty (w:=w3) ag.size;have ao:g3≠w3.heap.size:=by have:=cn.lt;omega
 have wQ:=hD.len;rw[wQ];clear uC wQ;go_loopw [7,8,9] (fun xv wv nv wr=>∃(gx cx gw cw:Nat) (x:LI) (p:List Nat),xv=(qS (some ⟨gx,0,none⟩) c.length cx)/\wv=(qS (some ⟨gw,0,none⟩) p.length cw)/\nv= .int .i64 p.length/\Hid (zfx c v x p)/\gx≠gw/\Own wr w.heap.size gx cx x/\Own wr w.heap.size gw cw (zae p)/\Below w.heap.size w wr) (fun _ _ nv _=>30-(intOf nv).toNat)
 case atStart=>exact⟨g3,c3,w3.heap.size,0,v,[],rfl,rfl,rfl,zfx.start hD,ao,aw,tV,aM⟩
 case round=>
  clear aw tV aM ao cn ag;obtain⟨gx,cx,gw,cw,x,p,rfl,rfl,rfl,aL,ao,bN,cS,hb⟩:=hrel;have Jn:=aL.out.len hD;have dF:=aL.out.orb.1;have d30:decide ((p.length:Int)<30)=true:=decide_eq_true (by omega);have eo:=qd dF;have Jo:x.length<=4:=by rw[dF];exact aR
  clear dF;obtain⟨wo,rfl⟩:∃wo:World,wo=wr:=⟨_,rfl⟩;go_wp2_with fail;go_loopw [10] (fun iv wi=>∃t:Nat,t<=c.length/\iv= .int .i64 t/\Hid (∀j,j<t->0<=x.getD j 0)/\∃q,wi=wo.drewN q) (fun iv _=>c.length-(intOf iv).toNat)
  case atStart=>exact⟨0,qz _,rfl,fun j hj=>absurd hj (by omega),(by first|exact⟨_,rfl⟩|exact⟨0,rfl⟩|exact zam _ _ _|exact zan _ _ _ _)⟩
  case round=>
   obtain⟨t,ht,rfl,aE,q,rfl⟩:=hrel;by_cases ac:t<c.length
   ·have q1:=bN.cells t (by rw[eo.out];exact ac);rw[Nat.zero_add] at q1;by_cases h0:0<=x.getD t 0
    ·have gY:Hid (∀j,j<t+1->0<=x.getD j 0):=qd (fun j hj=>by
      by_cases e:j=t
      ·subst e;exact h0
      ·exact aE.out j (by omega))
     have d0:decide (0<=x.getD t 0)=true:=decide_eq_true h0;generalize x.getD t 0=y at*;go_wp2_with fail;go_roundw
     case rel=>exact⟨t+1,by omega,by go_num,gY.out,(by first|exact⟨_,rfl⟩|exact⟨0,rfl⟩|exact zam _ _ _|exact zan _ _ _ _)⟩
     case measure=>simp[intOf];omega
    ·have fF:=zhQ (v:=x) (i:=t) (by rw[eo.out];exact ac) (by omega) aE.out;obtain⟨-,rX,Ck⟩:=aL.out.some hD fF;have d0:decide (0<=x.getD t 0)=false:=decide_eq_false h0;have og:=qd rX;have ky:((t:Int)==(c.length:Int))=false:=by rw[beq_eq_false_iff_ne];omega
     have rG:=zaf hb ⟨q,rfl⟩;have yN:=bN.still ⟨q,rfl⟩;have vf:=cS.still ⟨q,rfl⟩;have aa:=zfC gc oc c.length cc gx 0 c.length cx t c x (wo.drewN q) rfl eo.out (by rw[eo.out];exact qr _) aR (fun j hj=>hD.hC.2.2.1 j hj) (by rw[eo.out];exact ac) (qL ah rG.size) yN.lt (hr.below rG ah) yN.cells;have ab:=qd aa;have nl:Hid ((refl c t x).length=c.length):=qd (by rw[zcf];exact eo.out);generalize refl c t x=x2 at*;generalize x.getD t 0=y at*;clear aa fF rX h0 aL aE;go_wp2_with fail;refine ab.out.mono ?_;rintro e w4 ⟨g4,c4,rfl,aw,yO⟩;rw[nl.out];have aM:=rG.trans (yO.mono rG.size);have yP:=vf.below yO vf.lt;have rY:=aw.mono rG.size;have yQ:g4≠gw:=by have h1:=aw.base;have h2:=vf.lt;omega
     clear ab yO rG yN vf bN cS hb aw;go_wp2_with (at_builtin;refine zay (w:=w4) rfl _ _ rfl w.heap.size gw cw p.length (zae p) (t:Int) (zai p) yP rfl rfl (by omega) ?_);intro g5 c5 w5 aD eF cY;rw[zoR] at aD;have aQ:Below w.heap.size w w5:=aM.grown eF aM.size (by intro j hj;cases hj;exact yP.base);have yR:=rY.grown eF (by intro e;cases e;exact yQ rfl)
     have Qw:g4≠g5:=fun e=>by
      rcases cY with h|h
      ·exact yQ (e.trans h)
      ·have:=rY.lt;omega
     have fE:Hid ((p++[t]).length=p.length+1):=qd (by rw[qA];rfl);clear eF cY yP rY aM yQ;go_wp2_with fail;go_roundw
     case rel=>exact⟨g4,c4,g5,c5,x2,p++[t],rfl,by rw[fE.out],by rw[fE.out];go_num,og.out,Qw,yR,aD,aQ⟩
     case measure=>simp[intOf];omega
   ·obtain rfl:t=c.length:=by omega
    have fF:zaG x=none:=zfF fun j hj=>aE.out j (by rw[<-eo.out];exact hj)
    obtain⟨e1,e2⟩:=aL.out.none fF;have MP:=qd (cS.still ⟨q,rfl⟩);have MQ:=qd (bN.still ⟨q,rfl⟩);have Hb:=qd (zaf hb ⟨q,rfl⟩);have HF:Hid (zuR w c v (.returned (.tuple #[(qS (some ⟨gx,0,none⟩) c.length cx),(qS (some ⟨gw,0,none⟩) p.length cw),.bool true])) (wo.drewN q)):=qd ⟨gx,cx,gw,cw,by rw[e2],by rw[<-e1];exact MQ.out,by rw[<-e2];exact MP.out,Hb.out⟩;clear e1 e2 fF cS bN hb MP MQ Hb aE aL;go_wp2_with fail;go_ret3;exact HF.out
end
section
open Go.RowKit Game
open Go.Sort (SWO)
theorem zrk(a b:List Nat):zae (a++b)=zae a++zae b:=by simp[zae]
theorem zuS{c:LL}:∀(f:Nat) (v:LI),(∀i∈(zdb c f v).2,i<c.length)->zct c (zae (zdb c f v).2.reverse) v=(zdb c f v).1
 |0,v,_=>rfl
 |f+1,v,h=>by
  cases hn:zaG v with
  |none=>rw[zmS hn];rfl
  |some i=>
   rw[zmT hn] at h ⊢;have ih:=zuS f (refl c i v) (fun j hj=>h j (List.mem_cons_of_mem _ hj));simp only[List.reverse_cons];rw[zrk,zvR];exact ih
theorem zjX(gc oc n cc g2 o2 n2 c2:Nat)(c:LL)(v:LI)(w:World)(hn:c.length=n)(da:v.length=n2)(hD:zbY c v)(ah:gc<w.heap.size)(aP:g2<w.heap.size)(hr:zal w gc oc c)(aH:zag w g2 o2 v):
 Calls Tryz.prog 131 #[(qS (some ⟨gc,oc,none⟩) n cc),(qS (some ⟨g2,o2,none⟩) n2 c2)] w (zav w (zae (zcv c v))):=by
 subst hn;subst da;have hC:=hD.hC;have aR:=hC.2.1;have wQ:=hD.len;have MR:=qd wQ;rw[wQ];clear wQ
 go_enter Tryz.func131,Tryz.ntmps131
 go_wp2_with (at_builtin;refine zaV rfl _ _ rfl g2 o2 c.length c2 v MR.out aP aH rfl rfl (by rw[MR.out];omega) ?_);intro gv cv w1 au ad;go_wp2;go_loopg [5,6] 30 (fun gk s _ wr=>∃(g' c':Nat) (x:LI) (p:List Nat),gk+p.length=30/\s=(qS (some ⟨g',0,none⟩) p.length c')/\Hid (zfx c v x p)/\Own wr w.heap.size gv cv x/\Own wr w.heap.size g' c' (zae p)/\gv≠g'/\Below w.heap.size w wr)
 case atStart=>
  exact⟨w1.heap.size,0,v,[],rfl,rfl,zfx.start hD,au.alloc _,Own.empty (w:=w1) ad.size,by have:=au.lt;omega,ad.alloc ad.size _⟩
 case round=>
  obtain⟨g',c',x,p,Ba,rfl,aL,lm,cS,ao,hb⟩:=hrel;have dF:=aL.out.orb.1;have Jn:=aL.out.len hD;have oX:=zeN gv 0 c.length cv x wr dF (by rw[dF];omega) lm.cells;have eo:=qd dF;clear dF
  cases fF:zaG x with
  |none=>
   have hI:zcs x=-1:=by unfold zcs;rw[fF]
   rw[hI] at oX;obtain⟨-,e2⟩:=aL.out.none fF;have xZ:=qd oX;have Qx:=qd e2;clear oX hI fF e2;go_wp2_with fail;refine xZ.out.mono ?_;rintro e w2 ⟨rfl,m2,rfl⟩;go_wp2_with fail;go_ret;rw[<-Qx.out];exact zav.mk' g' c' (zai p) (cS.drewN m2) (below_drewN hb m2)
  |some i=>
   have hI:zcs x=i:=by unfold zcs;rw[fF]
   rw[hI] at oX;obtain⟨hi,rX,Ck⟩:=aL.out.some hD fF;have BV:¬((i:Int)<0):=by omega
   have xZ:=qd oX;have og:=qd rX;clear oX hI fF rX aL;go_wp2_with fail;refine xZ.out.mono ?_;rintro e w2 ⟨rfl,m2,rfl⟩;go_wp2_with (at_builtin;refine zay (w:=wr.drewN m2) rfl _ _ rfl w.heap.size g' c' p.length (zae p) (i:Int) (zai p) (cS.drewN m2) rfl rfl (by omega) ?_);intro g3 c3 w3 al aK aY;rw[zoR] at al;have ag:Below w.heap.size w w3:=(below_drewN hb m2).grown aK hb.size (by intro j hj;cases hj;exact cS.base);have nV:Own w3 w.heap.size gv cv x:=(lm.drewN m2).grown aK (by intro e;cases e;exact ao rfl)
   have dz:gv≠g3:=by
    rcases aY with h|h
    ·rw[h];exact ao
    ·have h1:=lm.lt;have h2:wr.heap.size<g3:=h;omega
   have aa:=zej w gc oc _ cc gv cv i c.length c x w3 rfl eo.out eo.out aR hC.2.2.1 hi ah hr ag nV;have ab:=qd aa;clear aa;have fE:Hid ((p++[i]).length=p.length+1):=qd (by rw[qA];rfl);go_wp2_with fail;refine ab.out.mono ?_;rintro e w4 ⟨rfl,aw,aT⟩;go_wp2_with fail
   go_roundg (29-p.length)
   case measure=>omega
   case rel=>exact⟨g3,c3,refl c i x,p++[i],by rw[fE.out];omega,by rw[fE.out],og.out,aw,al.grown aT (by intro e;cases e;exact dz rfl),dz,ag.grown aT ag.size (by intro j hj;cases hj;exact lm.base)⟩
theorem zhf(gc oc n cc g o m cv:Nat)(c:LL)(v:LI)(w:World)(hn:c.length=n)(hm:v.length=m)(hD:zbY c v)(ah:gc<w.heap.size)(hg:g<w.heap.size)(hr:zal w gc oc c)(hv:zag w g o v):
 Calls Tryz.prog 75 #[(qS (some ⟨gc,oc,none⟩) n cc),(qS (some ⟨g,o,none⟩) m cv)] w (fun e w'=>∃g1 c1 g2 c2,e= .returned (.tuple #[(qS (some ⟨g1,0,none⟩) c.length c1),(qS (some ⟨g2,0,none⟩) ((zcv c v).length) c2)])/\Own w' w.heap.size g1 c1 (zbd c v)/\Own w' w.heap.size g2 c2 (zae (zcv c v))/\Below w.heap.size w w'):=by
 subst hn;subst hm;obtain⟨hT,Qy⟩:=zqi hD;have nk:∀i∈zcv c v,i<c.length:=hT.lt;have iY:zct c (zae (zcv c v).reverse) v=zbd c v:=zuS 30 v hT.lt;have CU:(zae (zcv c v)).reverse=zae (zcv c v).reverse:=by simp[zae]
 have bG:(zae (zcv c v)).length=(zcv c v).length:=zai _;have yS:(zae (zcv c v).reverse).length=(zcv c v).length:=by rw[zai,List.length_reverse]
 have bR:∀k,k<(zae (zcv c v).reverse).length->0<=(zae (zcv c v).reverse).getD k 0/\(zae (zcv c v).reverse).getD k 0<c.length:=fun k hk=>by
  rw[yS] at hk;have qI:k<(zcv c v).reverse.length:=by rw[List.length_reverse];exact hk
  rw[zbB _ k qI];have hm:=nk ((zcv c v).reverse.getD k 0) (by simp[List.getD,show k<(zcv c v).length from hk]);omega
 have dF:(zbd c v).length=c.length:=hT.end_.1;have dq:=hD.len;have aa:=zjX gc oc _ cc g o _ cv c v w rfl rfl hD ah hg hr hv;have ab:=qd aa;have Jp:=qd iY;have CV:=qd CU;have Gn:=qd bG;have yT:=qd yS;have iq:=qd bR;have eo:=qd dF;have jg:=qd dq;clear aa iY CU bG yS bR dF dq hT nk
 go_enter Tryz.func75,Tryz.ntmps75
 go_wp2_with fail;refine ab.out.mono ?_;rintro e w1 ⟨g1,c1,rfl,au,ad⟩;rw[Gn.out];clear ab;have aa:=zlC g1 0 _ c1 (zae (zcv c v)) w1 Gn.out (by rw[Gn.out];omega) au.lt au.cells;have ab:=qd aa;clear aa;go_wp2_with fail;refine ab.out.mono ?_;rintro e w2 ⟨g2,c2,rfl,ar,ae⟩;rw[CV.out] at ar;rw[CV.out,yT.out];have az:=ad.trans (ae.mono ad.size);clear ab;have aa:=zqU gc oc _ cc g2 0 _ c2 g o _ cv c (zae (zcv c v).reverse) v w2 rfl yT.out rfl hD.hC hD.len (by rw[yT.out];omega) iq.out (qL ah az.size) ar.lt (qL hg az.size) (hr.below az ah) ar.cells (hv.below az hg);rw[Jp.out] at aa;have ab:=qd aa;clear aa ad ae;go_wp2_with fail;refine ab.out.mono ?_;rintro e w3 ⟨g3,c3,rfl,al,ag⟩;rw[eo.out];have ap:=az.trans (ag.mono az.size);have cn:Own w3 w.heap.size g3 c3 (zbd c v):=al.mono az.size;clear ab al;have aa:=zjX gc oc _ cc g o _ cv c v w3 rfl rfl hD (qL ah ap.size) (qL hg ap.size) (hr.below ap ah) (hv.below ap hg);have ab:=qd aa;clear aa ag;go_wp2_with fail;refine ab.out.mono ?_;rintro e w4 ⟨g4,c4,rfl,aw,aM⟩;rw[Gn.out];have aG:=ap.trans (aM.mono ap.size);have aD:=cn.below aM cn.lt;have rY:=aw.mono ap.size;clear ab;go_wp2_with fail;go_ret2;exact⟨g3,c3,g4,c4,rfl,aD,rY,aG⟩
theorem zhu(gc oc n cc g o m cv:Nat)(c:LL)(v:LI)(w:World)(hn:c.length=n)(hm:v.length=m)(hD:zbY c v)(ah:gc<w.heap.size)(hg:g<w.heap.size)(hr:zal w gc oc c)(hv:zag w g o v):
 Calls Tryz.prog 76 #[(qS (some ⟨gc,oc,none⟩) n cc),(qS (some ⟨g,o,none⟩) m cv)] w (zuR w c v):=by
 subst hn;subst hm;have aR:=hD.hC.2.1;have uC:v.length<=4:=by have:=hD.len;omega
 have an:∀j,j<c.length->(c.getD j []).length<=1048576:=fun j hj=>by rw[hD.hC.2.2.1 j hj];omega
 have aa:=ziv gc oc _ cc g o _ cv c v w rfl rfl (by omega) (by omega) an hr hv;rw[decide_eq_true hD.wt] at aa;have ab:=qd aa;clear aa
 go_enter Tryz.func76,Tryz.ntmps76
 go_wp2_with fail;refine ab.out.mono ?_;rintro e w1 ⟨rfl,bh⟩;have ad:=zaf (Below.refl w.heap.size w) bh;clear bh ab;have aa:=zdd gc oc _ cc c w1 rfl (by omega) an (qL ah ad.size) (hr.below ad ah);rw[hD.fin] at aa;have ab:=qd aa;clear aa;go_wp2_with fail;refine ab.out.mono ?_;rintro e w2 ⟨rfl,aF⟩;have ae:=ad.trans (aF.mono ad.size);clear ab ad aF;have aa:=zhf gc oc _ cc g o _ cv c v w2 rfl rfl hD (qL ah ae.size) (qL hg ae.size) (hr.below ae ah) (hv.below ae hg);have ab:=qd aa;clear aa;go_wp2_with fail;refine ab.out.mono ?_;rintro e w3 ⟨g3,c3,g4,c4,rfl,al,aw,ag⟩;clear ab;go_wp2_with fail;go_ret3;exact⟨g3,c3,g4,c4,rfl,al.mono ae.size,aw.mono ae.size,ae.trans (ag.mono ae.size)⟩
end
end Go.Proofs.YtlgcmaoimpgedaaGreatDoor

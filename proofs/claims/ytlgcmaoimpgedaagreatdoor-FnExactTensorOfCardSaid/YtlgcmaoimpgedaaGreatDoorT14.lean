/- Ctn Chn Mark Rset TyI -/
import Derived.Test.YtlgcmaoimpgedaaGreatDoorT13
set_option maxHeartbeats 2000000
set_option maxRecDepth 100000
set_option linter.unusedSimpArgs false
namespace Go.Proofs.YtlgcmaoimpgedaaGreatDoor
open Go.Value renaming slice->qS
section
open Go.RowKit
def zlt(w:World)(B:Nat)(v:Value)(xs:LI):Prop:=(v= .slice none 0 0/\xs=[])∨∃g c,v=(qS (some ⟨g,0,none⟩) xs.length c)/\Own w B g c xs
theorem zlt.below{w w':World}{B:Nat}{v:Value}{xs:LI}(h:zlt w B v xs)(hb:Below w.heap.size w w'):zlt w' B v xs:=by
 rcases h with h|⟨g,c,h1,h2⟩
 ·exact .inl h
 ·exact .inr ⟨g,c,h1,h2.below hb h2.lt⟩
theorem zom(x:Int)(w:World):Calls Tryz.prog 293 #[.slice none 0 0,.int .i64 x] w (zap w (.int .i64 (-1))):=by
 go_enter Tryz.func293,Tryz.ntmps293
 go_wp2;go_loopw [5,8] (fun _ i wr=>i= .int .i64 0/\∃n,wr=w.drewN n) (fun _ _ _=>0)
 case atStart=>exact⟨rfl,0,rfl⟩
 case round=>
  obtain⟨rfl,n,rfl⟩:=hrel;go_wp2;go_ret;exact⟨rfl,n,rfl⟩
theorem zqn(g o n c:Nat)(x:Int)(xs:LI)(w:World)(hn:xs.length=n)(hx:n<=1099511627776)(hc:zag w g o xs):
 Calls Tryz.prog 293 #[(qS (some ⟨g,o,none⟩) n c),.int .i64 x] w fun e w'=>∃r:Int,e= .returned (.int .i64 r)/\(decide (0<=r)=decide (x∈xs))/\∃q,w'=w.drewN q:=by
 subst hn
 go_enter Tryz.func293,Tryz.ntmps293
 go_wp2;go_loopw [5,8] (fun _ i wr=>∃k:Nat,k<=xs.length/\i= .int .i64 k/\Hid (x ∉ xs.take k)/\∃n,wr=w.drewN n) (fun _ i _=>xs.length-(intOf i).toNat)
 case atStart=>exact⟨0,qz _,rfl,qd (by simp),0,rfl⟩
 case round=>
  obtain⟨k,hk,rfl,aJ,n,rfl⟩:=hrel;by_cases ac:k<xs.length
  ·have q1:=hc k ac;have hm:Hid (xs.getD k 0=x->x∈xs):=fun e=>by rw[<-e];simp[List.getD,ac]
   have nX:Hid (¬x=xs.getD k 0->x ∉ xs.take (k+1)):=fun e be=>by
    rw[qT ac] at be
    rcases List.mem_append.1 be with h|h
    ·exact aJ.out h
    ·have e3:xs.getD k 0=xs[k]:=by simp[List.getD,ac]
     rw[List.mem_singleton,<-e3] at h;exact e h
   generalize xs.getD k 0=y at*;by_cases kP:x=y
   ·have Hm:=qd (hm.out kP.symm);subst kP;go_wp2;go_ret;exact⟨k,rfl,(by first|exact⟨fun _=>Hm.out,fun _=>by omega⟩|(rw[decide_eq_true Hm.out];simp)),n,rfl⟩
   ·have Hn:=qd (nX.out kP);have hb:(x==y)=false:=by rw[beq_eq_false_iff_ne];exact kP
    clear nX hm;go_wp2;go_roundw
    case rel=>exact⟨k+1,by omega,by go_num,Hn,n,rfl⟩
    case measure=>simp[intOf];omega
  ·obtain rfl:k=xs.length:=by omega
   have h:=aJ.out;rw[List.take_length] at h;have H:=qd h;clear aJ h;go_wp2;go_ret;exact⟨-1,rfl,by rw[decide_eq_false H.out];rfl,n,rfl⟩
theorem zmp(v:Value)(B:Nat)(x:Int)(xs:LI)(w:World)(hx:xs.length<=1048576)(h:zlt w B v xs):
 Calls Tryz.prog 280 #[v,.int .i64 x] w (zap w (.bool (decide (x∈xs)))):=by
 rcases h with⟨rfl,rfl⟩|⟨g,c,rfl,ho⟩
 ·have h1:=qd (zom x w)
  go_enter Tryz.func280,Tryz.ntmps280
  go_wp2_with fail;refine h1.out.mono ?_;rintro e w1 ⟨rfl,hs⟩;go_wp2_with fail;go_ret;exact⟨zaK (by simp),hs⟩
 ·have h1:=qd (zqn g 0 _ c x xs w rfl (by omega) ho.cells)
  go_enter Tryz.func280,Tryz.ntmps280
  go_wp2_with fail;refine h1.out.mono ?_;rintro e w1 ⟨r,rfl,hr,hs⟩;have Hr:=qd hr;clear hr;go_wp2_with fail;go_ret;exact⟨zaK Hr.out,hs⟩
theorem zjm(v:Value)(B:Nat)(xs:LI)(w:World)(hx:xs.length<=1048576)(h:zlt w B v xs):
 Calls Tryz.prog 106 #[v] w fun e w'=>∃v',e= .returned v'/\zlt w' w.heap.size v' xs/\(xs≠[]->∃g c,v'=(qS (some ⟨g,0,none⟩) xs.length c)/\Own w' w.heap.size g c xs)/\Below w.heap.size w w':=by
 rcases h with⟨rfl,rfl⟩|⟨g,c,rfl,ho⟩
 ·have yd:∀W,(binOp .eql 25 (.slice none 0 0) (.slice none 0 0)).run Tryz.prog W= .ok (.bool true) W:=fun W=>by kernel_rfl
  go_enter Tryz.func106,Tryz.ntmps106
  go_wp2_with fail;go_ret;exact⟨_,rfl,.inl ⟨rfl,rfl⟩,fun h=>absurd rfl h,Below.refl _ _⟩
 ·have yd:∀W,(binOp .eql 25 (qS (some ⟨g,0,none⟩) xs.length c) (.slice none 0 0)).run Tryz.prog W= .ok (.bool false) W:=fun W=>Lib.run_eql_slice_nil W 25 3 _ _ _ _ _ Tryz.underlying25
  have hc:=ho.cells;have hg:=ho.lt;clear ho
  go_enter Tryz.func106,Tryz.ntmps106
  go_wp2_with (at_builtin;refine zaV rfl _ _ rfl g 0 _ c xs rfl hg hc rfl rfl (by omega) ?_);intro g1 c1 w1 au ad;go_wp2_with fail;go_ret;exact⟨_,rfl,.inr ⟨g1,c1,rfl,au⟩,fun _=>⟨g1,c1,rfl,au⟩,ad⟩
theorem zqZ{w:World}{B:Nat}{v:Value}{xs:LI}(h:zlt w B v xs)(hB:B<=w.heap.size)(z:Int)(hx:xs.length+1<=1048576)(ty:TypeId):
 ∃g c w',(Builtin.append_ #[25,25] ty #[v,(qS (some ⟨w.heap.size,0,none⟩) 1 1)]).run Tryz.prog (w.alloc (.cells #[.int .i64 z] 3))= .ok (qS (some ⟨g,0,none⟩) (xs.length+1) c) w'/\Own w' B g c (xs++[z])/\(v= .slice none 0 0->Below w.heap.size w w')/\(∀g0 n0 c0,v=(qS (some ⟨g0,0,none⟩) n0 c0)->w.grownBy w' (some g0)):=by
 rcases h with⟨rfl,rfl⟩|⟨g,c,rfl,ho⟩
 ·obtain⟨i0,hi,fP,eJ,gK⟩:=info_parts zxB;have db:=Own.new (w:=w) (B:=w.heap.size) z (qr _);have mb:(w.alloc (.cells #[.int .i64 z] 3)).ownsRow B 3 1 (.slice none 0 0) 0 []:=⟨rfl,.inl ⟨rfl,rfl⟩⟩
  obtain⟨v',w',hr,ho,hg,Is⟩:=run_append_own (P:=Tryz.prog) (w.alloc (.cells #[.int .i64 z] 3)) B 25 ty 3 i0 (.int .i64 0) 1 8 Tryz.underlying25 hi fP eJ gK rfl (by decide) _ 0 _ mb ⟨w.heap.size,0,none⟩ 1 1 [.int .i64 z] rfl
   (fun j u hu=>by
     have hj:j=0:=by have:=(List.getElem?_eq_some_iff.1 hu).1;simp at this;exact this
     subst hj;have:=db.cell 0 (by simp);simp at hu;rw[Addr.add_lit,Nat.add_zero,this,<-hu];rfl) (fun u hu=>by simp at hu;subst hu;rfl) (by unfold maxLen;omega) (by omega) (by simp;omega)
  rcases ho.2 with⟨h1,h2⟩|⟨g',cap',cur,hv,hb,hh,hn,hm,hs,bQ⟩
  ·exact absurd (Is.1 h1).2 (by omega)
  ·refine⟨g',cap',w',?_,?_,fun _=>?_,fun g0 n0 c0 e=>by cases e⟩
   ·rw[hr,hv];rfl
   ·show w'.ownsRow B 3 1 (qS (some ⟨g',0,none⟩) (([]++[z]:LI).length) cap') _ _;rw[hv] at ho;exact ho
   ·exact((Below.refl _ _).alloc (qr _) _).grown hg (by simp) (by intro k hk;simp[Value.ownBlock] at hk)
 ·obtain⟨g',cap',w',hr,h1,h2,h3⟩:=zfr (ho.alloc (.cells #[.int .i64 z] 3)) (Own.new (B:=w.heap.size) z (qr _)).cells (c2:=1) (by simp;omega) ty;refine⟨g',cap',w',hr,h1,(fun e=>by cases e),fun g0 n0 c0 e=>?_⟩
  cases e
  exact⟨h2.os,h2.tape,h2.output,qt (by simp) h2.size,fun k hk ao=>(h2.block k (by simp;omega) ao).trans (Below.heap_alloc _ _ _ hk)⟩
end
section
open Go.RowKit
def zaJ(m:Nat):LL:=(List.range m).map fun i=>(List.range m).map fun j=>if i=j then 2 else if i=j+1∨j=i+1 then -1 else 0
theorem zab.grownK2{w w':World}{B g cap k:Nat}{rs:List RowRef}(h:zab w B g cap rs)(hg:w.grownBy w' (some k))(h1:g≠k)(h2:∀r∈rs,r.1≠k):zab w' B g cap rs:=
 ⟨h.1.grown hg (by intro e;cases e;exact h1 rfl),fun r hr=>(h.2.1 r hr).grown hg (by intro e;cases e;exact h2 r hr rfl),h.2.2⟩
def zca(n k:Nat):LI:=
 let r1:=(List.replicate n (0:Int)).set k 2
 let r2:=if 0<k then r1.set (k-1) (-1) else r1
 if k+1<n then r2.set (k+1) (-1) else r2
theorem zHP{n k:Nat}(hn:n<=4)(hk:k<n):(zaJ n).getD k []=zca n k:=by
 have:n=1∨n=2∨n=3∨n=4:=by omega
 rcases this with rfl|rfl|rfl|rfl
 ·obtain rfl:k=0:=by omega
  decide
 ·have:k=0∨k=1:=by omega
  rcases this with rfl|rfl <;> decide
 ·have:k=0∨k=1∨k=2:=by omega
  rcases this with rfl|rfl|rfl <;> decide
 ·have:k=0∨k=1∨k=2∨k=3:=by omega
  rcases this with rfl|rfl|rfl|rfl <;> decide
theorem zoM(n k:Nat):(zca n k).length=n:=by
 unfold zca;simp only
 split <;> split <;> simp
theorem zat(n:Nat):(zaJ n).length=n:=by simp[zaJ]
theorem zoN{n k:Nat}(hn:n<=4)(hk:k<n):(zaJ n).take (k+1)=(zaJ n).take k++[zca n k]:=by
 rw[qT (by rw[zat];exact hk),<-zHP hn hk];simp[List.getD,zat,hk]
theorem zaY(n:Nat)(w:World)(hn:n<=4):Calls Tryz.prog 155 #[.int .i64 n] w (zbC w (zaJ n)):=by
 go_enter Tryz.func155,Tryz.ntmps155
 go_wp2;go_loopw [3,4] (fun ov kv wr=>∃(k g2 c2:Nat) (rs:List RowRef),k<=n/\kv= .int .i64 k/\ov=(qS (some ⟨g2,0,none⟩) k c2)/\Hid (rs.length=k)/\Hid (zaa rs=(zaJ n).take k)/\zab wr w.heap.size g2 c2 rs/\Below w.heap.size w wr) (fun _ kv _=>n-(intOf kv).toNat)
 case atStart=>exact⟨0,w.heap.size,0,[],qz _,rfl,rfl,rfl,rfl,zab.empty (qr _),(Below.refl _ _).alloc (qr _) _⟩
 case round=>
  obtain⟨k,g2,c2,rs,hk,rfl,rfl,dK,br,hO,hb⟩:=hrel;by_cases ac:k<n
  ·have Ht:=qd (zoN hn ac);have Hl:=qd (zoM n k);go_wp2_with (at_make;refine zbF rfl _ _ rfl w.heap.size n _ rfl rfl rfl (by omega) hb.size ?_);intro w2 ar aP;have gH:zab w2 w.heap.size g2 c2 rs:=hO.below ⟨aP.os,aP.tape,aP.output,aP.size,fun j hj=>aP.block j hj (by intro e;cases e)⟩;have az:Below w.heap.size w w2:=hb.trans ⟨aP.os,aP.tape,aP.output,aP.size,fun j hj=>aP.block j (qL hj hb.size) (by intro e;cases e)⟩;have ao:∀s∈rs,s.1≠wr.heap.size:=fun s hs e=>by have:=(hO.2.1 s hs).lt;omega
   have uF:g2≠wr.heap.size:=by have:=hO.lt;omega
   have kn:=hb.size;clear hO hb aP;generalize wr.heap.size=gr at*;have x0:=ar.cell k (by simpa using ac);have y0:=ar.frozen k;have s1:=ar.set k 2;have e2:IntKind.i64.wrap ((k:Int)+1)=(k:Int)+1:=IntWalk.i64_in _ (by omega);have t2:((k:Int)+1).toNat=k+1:=by omega
   have b2:(0:Int)<=(k:Int)+1:=by omega
   have hX:zca n k=if k+1<n then(if 0<k then((List.replicate n (0:Int)).set k 2).set (k-1) (-1) else(List.replicate n (0:Int)).set k 2).set (k+1) (-1) else(if 0<k then((List.replicate n (0:Int)).set k 2).set (k-1) (-1) else(List.replicate n (0:Int)).set k 2):=rfl;have ff:(k:Int)<(n:Int):=by omega
   by_cases h0:0<k
   ·by_cases h1:k+1<n
    ·have e1:IntKind.i64.wrap ((k:Int)-1)=(k:Int)-1:=IntWalk.i64_in _ (by omega);have t1:((k:Int)-1).toNat=k-1:=by omega
     have b1:(0:Int)<=(k:Int)-1:=by omega
     have b1':(k:Int)-1<(n:Int):=by omega
     have z0:(0:Int)<(k:Int):=by omega
     have x1:=s1.1.cell (k-1) (by simp;omega);have y1:=s1.1.frozen (k-1);have s2:=s1.1.set (k-1) (-1);have l0:(k:Int)+1<(n:Int):=by omega
     have x2:=s2.1.cell (k+1) (by simp;omega);have y2:=s2.1.frozen (k+1);have s3:=s2.1.set (k+1) (-1);have hR:zca n k=(((List.replicate n (0:Int)).set k 2).set (k-1) (-1)).set (k+1) (-1):=by rw[hX,if_pos h1,if_pos h0]
     have HR:=qd hR;have ai:=s3.1;have bn:=World.grownBy.trans' (World.grownBy.trans' s1.2 s2.2) s3.2;rw[<-hR] at ai;have fV:=qd ai;have jn:=qd bn;clear ai bn s1 s2 s3 hR hX ar;have bg:zab _ w.heap.size g2 c2 rs:=gH.grownK2 jn.out uF ao;have ap:=az.grown jn.out az.size (by intro j hj;cases hj;exact kn);clear gH az;go_wp2_with (at_builtin;refine zao (w:=(((w2.setCell ⟨gr,k,none⟩ (.int .i64 2)).setCell ⟨gr,k-1,none⟩ (.int .i64 (-1))).setCell ⟨gr,k+1,none⟩ (.int .i64 (-1)))) rfl _ _ rfl w.heap.size g2 c2 k w2.heap.size rs (gr,n,zca n k) _ dK.out (by unfold zah;rw[Hl.out]) (by simp) bg (fV.out.mono (qr _)) ao rfl rfl (by omega) ?_);intro g4 c4 w4 cV aT bq;have aG:Below w.heap.size w w4:=ap.grown aT ap.size (by intro t ht;cases ht;exact bg.base);have dV:Hid ((rs++[(gr,n,zca n k)]).length=k+1):=qd (by rw[qA,dK.out];rfl);have jo:Hid (zaa (rs++[(gr,n,zca n k)])=(zaJ n).take (k+1)):=qd (by rw[Ht.out,<-br.out];simp[zaa]);clear bg ap aT bq;go_wp2_with fail;go_roundw
     case rel=>exact⟨k+1,g4,c4,_,by omega,by go_num,rfl,dV.out,jo.out,cV,aG⟩
     case measure=>simp[intOf];omega
    ·have e1:IntKind.i64.wrap ((k:Int)-1)=(k:Int)-1:=IntWalk.i64_in _ (by omega);have t1:((k:Int)-1).toNat=k-1:=by omega
     have b1:(0:Int)<=(k:Int)-1:=by omega
     have b1':(k:Int)-1<(n:Int):=by omega
     have z0:(0:Int)<(k:Int):=by omega
     have x1:=s1.1.cell (k-1) (by simp;omega);have y1:=s1.1.frozen (k-1);have s2:=s1.1.set (k-1) (-1);have l0:¬(k:Int)+1<(n:Int):=by omega
     have hR:zca n k=((List.replicate n (0:Int)).set k 2).set (k-1) (-1):=by rw[hX,if_neg h1,if_pos h0]
     have HR:=qd hR;have ai:=s2.1;have bn:=World.grownBy.trans' s1.2 s2.2;rw[<-hR] at ai;have fV:=qd ai;have jn:=qd bn;clear ai bn s1 s2 hR hX ar;have bg:zab _ w.heap.size g2 c2 rs:=gH.grownK2 jn.out uF ao;have ap:=az.grown jn.out az.size (by intro j hj;cases hj;exact kn);clear gH az;go_wp2_with (at_builtin;refine zao (w:=((w2.setCell ⟨gr,k,none⟩ (.int .i64 2)).setCell ⟨gr,k-1,none⟩ (.int .i64 (-1)))) rfl _ _ rfl w.heap.size g2 c2 k w2.heap.size rs (gr,n,zca n k) _ dK.out (by unfold zah;rw[Hl.out]) (by simp) bg (fV.out.mono (qr _)) ao rfl rfl (by omega) ?_);intro g4 c4 w4 cV aT bq;have aG:Below w.heap.size w w4:=ap.grown aT ap.size (by intro t ht;cases ht;exact bg.base);have dV:Hid ((rs++[(gr,n,zca n k)]).length=k+1):=qd (by rw[qA,dK.out];rfl);have jo:Hid (zaa (rs++[(gr,n,zca n k)])=(zaJ n).take (k+1)):=qd (by rw[Ht.out,<-br.out];simp[zaa]);clear bg ap aT bq;go_wp2_with fail;go_roundw
     case rel=>exact⟨k+1,g4,c4,_,by omega,by go_num,rfl,dV.out,jo.out,cV,aG⟩
     case measure=>simp[intOf];omega
   ·by_cases h1:k+1<n
    ·have z0:¬(0:Int)<(k:Int):=by omega
     have l0:(k:Int)+1<(n:Int):=by omega
     have x2:=s1.1.cell (k+1) (by simp;omega);have y2:=s1.1.frozen (k+1);have s3:=s1.1.set (k+1) (-1);have hR:zca n k=((List.replicate n (0:Int)).set k 2).set (k+1) (-1):=by rw[hX,if_pos h1,if_neg h0]
     have HR:=qd hR;have ai:=s3.1;have bn:=World.grownBy.trans' s1.2 s3.2;rw[<-hR] at ai;have fV:=qd ai;have jn:=qd bn;clear ai bn s1 s3 hR hX ar;have bg:zab _ w.heap.size g2 c2 rs:=gH.grownK2 jn.out uF ao;have ap:=az.grown jn.out az.size (by intro j hj;cases hj;exact kn);clear gH az;go_wp2_with (at_builtin;refine zao (w:=((w2.setCell ⟨gr,k,none⟩ (.int .i64 2)).setCell ⟨gr,k+1,none⟩ (.int .i64 (-1)))) rfl _ _ rfl w.heap.size g2 c2 k w2.heap.size rs (gr,n,zca n k) _ dK.out (by unfold zah;rw[Hl.out]) (by simp) bg (fV.out.mono (qr _)) ao rfl rfl (by omega) ?_);intro g4 c4 w4 cV aT bq;have aG:Below w.heap.size w w4:=ap.grown aT ap.size (by intro t ht;cases ht;exact bg.base);have dV:Hid ((rs++[(gr,n,zca n k)]).length=k+1):=qd (by rw[qA,dK.out];rfl);have jo:Hid (zaa (rs++[(gr,n,zca n k)])=(zaJ n).take (k+1)):=qd (by rw[Ht.out,<-br.out];simp[zaa]);clear bg ap aT bq;go_wp2_with fail;go_roundw
     case rel=>exact⟨k+1,g4,c4,_,by omega,by go_num,rfl,dV.out,jo.out,cV,aG⟩
     case measure=>simp[intOf];omega
    ·have z0:¬(0:Int)<(k:Int):=by omega
     have l0:¬(k:Int)+1<(n:Int):=by omega
     have hR:zca n k=(List.replicate n (0:Int)).set k 2:=by rw[hX,if_neg h1,if_neg h0]
     have HR:=qd hR;have ai:=s1.1;have bn:=s1.2;rw[<-hR] at ai;have fV:=qd ai;have jn:=qd bn;clear ai bn s1 hR hX ar;have bg:zab _ w.heap.size g2 c2 rs:=gH.grownK2 jn.out uF ao;have ap:=az.grown jn.out az.size (by intro j hj;cases hj;exact kn);clear gH az;go_wp2_with (at_builtin;refine zao (w:=(w2.setCell ⟨gr,k,none⟩ (.int .i64 2))) rfl _ _ rfl w.heap.size g2 c2 k w2.heap.size rs (gr,n,zca n k) _ dK.out (by unfold zah;rw[Hl.out]) (by simp) bg (fV.out.mono (qr _)) ao rfl rfl (by omega) ?_);intro g4 c4 w4 cV aT bq;have aG:Below w.heap.size w w4:=ap.grown aT ap.size (by intro t ht;cases ht;exact bg.base);have dV:Hid ((rs++[(gr,n,zca n k)]).length=k+1):=qd (by rw[qA,dK.out];rfl);have jo:Hid (zaa (rs++[(gr,n,zca n k)])=(zaJ n).take (k+1)):=qd (by rw[Ht.out,<-br.out];simp[zaa]);clear bg ap aT bq;go_wp2_with fail;go_roundw
     case rel=>exact⟨k+1,g4,c4,_,by omega,by go_num,rfl,dV.out,jo.out,cV,aG⟩
     case measure=>simp[intOf];omega
  ·obtain rfl:k=n:=by omega
   have hc:=br.out;rw[qF (by rw[zat];exact qr _)] at hc;have Hc:=qd hc;have Hl:=qd (show k=(zaJ k).length by rw[zat]);go_wp2_with fail;go_ret;exact⟨g2,c2,rs,congrArg (fun z=>Ending.returned (qS (some ⟨g2,0,none⟩) z c2)) Hl.out,Hc.out,hO,hb⟩
end
section
open Go.RowKit
theorem zlu{B E g cap:Nat}{xs:LI}(k0:Nat)(K:Int)(w:World)(hK:K=(k0:Int))(hx:xs.length<=1048576)(nh:k0<=1099511627776)(h:zek w B E g cap xs):
 Calls Tryz.prog 34 #[(qS (some ⟨g,0,none⟩) xs.length cap),.int .i64 K] w fun e w'=>e= .returned (.int .i64 ((k0+xs.length:Nat):Int))/\zek w' B E g cap (zbU k0 xs.length)/\zdy B E w w':=
 (zpO B g _ cap xs k0 K w hK rfl (by omega) nh h.1).mono fun _ _ ⟨he,ho,hg⟩=>⟨he,⟨ho,h.2⟩,zdy.of_grown hg h.1.base h.2⟩
theorem zcS.setRow{w w':World}{B:Nat}{rs:List RowRef}(h:zcS w B rs)(t:Nat)(ht:t<rs.length)(xs:LI)(hg:w.grownBy w' (some rs[t].1))(ho:Own w' B rs[t].1 rs[t].2.1 xs):
 zcS w' B (rs.set t (rs[t].1,rs[t].2.1,xs)):=by
 have ez:=h.2;refine⟨fun r hr=>?_,?_⟩
 ·obtain⟨u,hu,rfl⟩:=List.getElem_of_mem hr;rw[List.length_set] at hu;by_cases e:u=t
  ·subst e;simpa using ho
  ·rw[List.getElem_set_ne (by omega)];refine(h.1 rs[u] (List.getElem_mem hu)).grown hg ?_;intro he;have Pv:rs[u].1=rs[t].1:=Option.some.inj he;have h1:(rs.map (·.1))[u]'(by simpa using hu)=(rs.map (·.1))[t]'(by simpa using ht):=by simpa using Pv
   have hp:=List.pairwise_iff_getElem.1 ez
   rcases Nat.lt_or_gt_of_ne e with h2|h2
   ·exact hp u t (by simpa using hu) (by simpa using ht) h2 h1
   ·exact hp t u (by simpa using ht) (by simpa using hu) h2 h1.symm
 ·have:(rs.set t (rs[t].1,rs[t].2.1,xs)).map (·.1)=rs.map (·.1):=by
   rw[List.map_set];apply List.ext_getElem (by simp);intro i h1 h2;by_cases e:i=t
   ·subst e;simp
   ·rw[List.getElem_set_ne (by omega)]
  rw[this];exact ez
theorem zqo{rs:List RowRef}(t:Nat)(ht:t<rs.length)(xs:LI)(hl:xs.length=rs[t].2.2.length):(rs.set t (rs[t].1,rs[t].2.1,xs)).map zah=rs.map zah:=by
 rw[List.map_set];apply List.ext_getElem (by simp);intro i h1 h2;by_cases e:i=t
 ·subst e;simp[zah,hl]
 ·rw[List.getElem_set_ne (by omega)]
theorem zjQ{rs:List RowRef}(t:Nat)(r:RowRef):zaa (rs.set t r)=(zaa rs).set t r.2.2:=by simp[zaa,List.map_set]
def zjn(k:Nat)(rows:LL):LL:=(List.range rows.length).map fun t=>zbU (k+zci rows t) (rows.getD t []).length
def zra(rows:LL):Nat:=zci rows rows.length
theorem zfh(k:Nat)(rows:LL):(zjn k rows).length=rows.length:=by simp[zjn]
theorem zvW(k:Nat)(rows:LL)(t:Nat)(ht:t<rows.length):(zjn k rows).getD t []=zbU (k+zci rows t) (rows.getD t []).length:=by simp[zjn,List.getD,ht]
theorem zHQ{a b:LL}{t:Nat}(hl:a.length=b.length)(ht:t<b.length):(a.take t++b.drop t).set t (a.getD t [])=a.take (t+1)++b.drop (t+1):=by
 have ha:t<a.length:=by omega
 rw[List.set_append_right _ _ (by rw[List.length_take];omega)];have e:b.drop t=b[t]::b.drop (t+1):=List.drop_eq_getElem_cons ht;have e2:t-(a.take t).length=0:=by rw[List.length_take];omega
 rw[e2,e,List.set_cons_zero,qT ha,List.append_assoc];simp[List.getD,ha]
theorem zoO{B E g cap:Nat}{rows:LL}(k0:Nat)(K:Int)(w:World)(hK:K=(k0:Int))(hx:zkE rows)(nh:k0<=549755813888)(h:zel w B E g cap rows):
 Calls Tryz.prog 33 #[(qS (some ⟨g,0,none⟩) rows.length cap),.int .i64 K] w fun e w'=>e= .returned (.int .i64 ((k0+zra rows:Nat):Int))/\zel w' B E g cap (zjn k0 rows)/\zdy B E w w':=by
 subst hK;obtain⟨rs0,uq,AV,Ga,It⟩:=h;have BK:=hx.1;have ke:=hx.2.2
 go_enter Tryz.func33,Tryz.ntmps33
 go_wp2;go_loopw [1,5] (fun k i wr=>∃(t:Nat) (rs:List RowRef),t<=rows.length/\i= .int .i64 t/\k= .int .i64 ((k0+zci rows t:Nat):Int)/\Hid (zaa rs=(zjn k0 rows).take t++rows.drop t)/\zab wr B g cap rs/\Hid (∀r∈rs,r.1<E)/\zdy B E w wr) (fun _ i _=>rows.length-(intOf i).toNat)
 case atStart=>exact⟨0,rs0,qz _,rfl,rfl,by show _=_;simpa using uq,AV,It,zdy.refl _ _ _⟩
 case round=>
  obtain⟨t,rs,ht,rfl,rfl,ak,ho,hE,jq⟩:=hrel;by_cases ac:t<rows.length
  ·have an:rs.length=rows.length:=by
    have:=congrArg List.length ak.out;simp only[zaa,List.length_map,qA,List.length_take,List.length_drop,zfh] at this;omega
   have im:t<rs.length:=by omega
   have aA:=ho.1.cell t (by simpa using im)
   have fe:rs[t].2.2=rows.getD t []:=by
    have h1:(zaa rs).getD t []=rs[t].2.2:=by simp[zaa,List.getD,im]
    rw[<-h1,ak.out];simp only[List.getD];rw[List.getElem?_append_right (by rw[List.length_take,zfh];omega),List.length_take,zfh,show t-min t rows.length=0 by omega,List.getElem?_drop];simp
   have ai:=ho.2.1 _ (List.getElem_mem im);have wl:=zhO rows t ac;have bZ:=zki rows (k:=t+1) (n:=rows.length) ac;have BY:=zvW k0 rows t ac
   have fU:wr.cell? ⟨g,t,none⟩=some (qS (some ⟨(rs[t].1),0,none⟩) ((rows.getD t []).length) (rs[t].2.1)):=by
    rw[aA];simp only[List.getElem_map,zah,fe]
   have jj:=(ho.2.1 _ (List.getElem_mem im)).base;have jr:=hE.out _ (List.getElem_mem im)
   have HW:Hid (∀(w2:World),Own w2 B rs[t].1 rs[t].2.1 (zbU (k0+zci rows t) (rows.getD t []).length)->wr.grownBy w2 (some rs[t].1)->
    ∃rs2,zaa rs2=(zjn k0 rows).take (t+1)++rows.drop (t+1)/\zab w2 B g cap rs2/\(∀r∈rs2,r.1<E)/\zdy B E w w2):=fun w2 uG bn=>by
    refine⟨rs.set t (rs[t].1,rs[t].2.1,zbU (k0+zci rows t) (rows.getD t []).length),?_,⟨?_,ho.2.setRow t im _ bn uG⟩,fun r hr=>?_,jq.trans (zdy.of_grown bn jj jr)⟩
    ·rw[zjQ,ak.out,<-BY];exact zHQ (zfh _ _) ac
    ·rw[zqo t im _ (by rw[zdR,fe])];exact ho.1.grown bn (fun e=>ho.1.ne ai.toV (by decide) (Option.some.inj e))
    ·rcases List.mem_or_eq_of_mem_set hr with h1|h1
     ·exact hE.out r h1
     ·rw[h1];exact jr
   rw[fe] at ai;have dF:=hx.2.1 t ac;clear aA fe BY jj jr ho jq hE;generalize rs[t].1=gr at*;generalize rs[t].2.1=cr at*;generalize hR:rows.getD t []=R at*;have aa:=zpO B gr R.length cr R (k0+zci rows t) _ wr rfl rfl (by omega) (by omega) ai;have ab:=qd aa;have uH:=qd wl;have HR:=qd hR;clear aa wl hR ai bZ;generalize zci rows t=S at*;go_wp2_with fail;refine ab.out.mono ?_;rintro e w2 ⟨rfl,uG,bn⟩;obtain⟨rs2,q1,q2,q3,q4⟩:=HW.out w2 uG bn;have Q1:=qd q1;have Q3:=qd q3;clear q1 q3 HW uG bn;go_wp2_with fail;go_roundw
   case rel=>exact⟨t+1,rs2,by omega,by go_num,by rw[uH.out];congr 2;omega,Q1.out,q2,Q3.out,q4⟩
   case measure=>simp[intOf];omega
  ·obtain rfl:t=rows.length:=by omega
   have aI:=ak.out;rw[qF (by rw[zfh];omega),List.drop_length,List.append_nil] at aI;have nY:=qd aI;clear aI;go_wp2;go_ret;exact⟨rfl,⟨rs,nY.out,ho,Ga,hE.out⟩,jq⟩
end
section
open Go.RowKit
end
section
open Go.RowKit
def zbe(c:LL)(i j:Nat)(x:Int):LL:=c.set i ((c.getD i []).set j x)
theorem zkr(c:LL)(i j:Nat)(x:Int):(zbe c i j x).length=c.length:=by simp[zbe]
theorem zab.setAt{w:World}{B g cap:Nat}{rs:List RowRef}(h:zab w B g cap rs)(t:Nat)(ht:t<rs.length)(j:Nat)(z:Int):
 zab (w.setCell ⟨rs[t].1,j,none⟩ (.int .i64 z)) B g cap (rs.set t (rs[t].1,rs[t].2.1,rs[t].2.2.set j z))/\w.grownBy (w.setCell ⟨rs[t].1,j,none⟩ (.int .i64 z)) (some rs[t].1):=by
 have ho:=h.2.1 _ (List.getElem_mem ht);have hs:=ho.set j z;refine⟨⟨?_,h.2.setRow t ht _ hs.2 hs.1⟩,hs.2⟩;rw[zqo t ht _ (by rw[List.length_set])];exact h.1.grown hs.2 (fun e=>h.1.ne ho.toV (by decide) (Option.some.inj e))
theorem zei(rs:List RowRef)(t:Nat)(ht:t<rs.length):(zaa rs).getD t []=rs[t].2.2:=by simp[zaa,List.getD,ht]
theorem zab.setMat{w:World}{B g cap:Nat}{rs:List RowRef}{c:LL}(h:zab w B g cap rs)(hc:zaa rs=c)(t:Nat)(ht:t<c.length):∃gr cr,(∃r∈rs,r.1=gr)/\B<=gr/\gr<w.heap.size/\g≠gr/\
 w.cell? ⟨g,t,none⟩=some (qS (some ⟨gr,0,none⟩) ((c.getD t []).length) cr)/\(∀j,j<(c.getD t []).length->w.cell? ⟨gr,j,none⟩=some (.int .i64 ((c.getD t []).getD j 0))/\w.frozen? ⟨gr,j,none⟩=false)/\
 ∀j z,∃rs2,(∀r∈rs2,∃s∈rs,s.1=r.1)/\zaa rs2=zbe c t j z/\rs2.length=rs.length/\zab (w.setCell ⟨gr,j,none⟩ (.int .i64 z)) B g cap rs2/\w.grownBy (w.setCell ⟨gr,j,none⟩ (.int .i64 z)) (some gr):=by
 subst hc;have kS:t<rs.length:=by simpa [zaa] using ht
 have ho:=h.2.1 _ (List.getElem_mem kS);have e:=zei rs t kS;rw[e];refine⟨rs[t].1,rs[t].2.1,⟨_,List.getElem_mem kS,rfl⟩,ho.base,ho.lt,h.1.ne ho.toV (by decide),?_,fun j hj=>⟨ho.cell j hj,ho.frozen j⟩,fun j z=>?_⟩
 ·rw[h.1.cell t (by simpa using kS)];simp[zah]
 ·have h2:=h.setAt t kS j z;refine⟨_,fun r hr=>?_,?_,by rw[List.length_set],h2.1,h2.2⟩
  ·rcases List.mem_or_eq_of_mem_set hr with h3|h3
   ·exact⟨r,h3,rfl⟩
   ·exact⟨_,List.getElem_mem kS,by rw[h3]⟩
  rw[zjQ];unfold zbe;rw[e]
end
section
open Go.RowKit
theorem zba(n:Nat)(w:World)(hn:n<=4):Calls Tryz.prog 255 #[.int .i64 n] w (zbC w (zaJ n)):=by
 go_enter Tryz.func255,Tryz.ntmps255
 go_wp2;go_loopw [3,4,8] (fun ov _ kv wr=>∃(k g2 c2:Nat) (rs:List RowRef),k<=n/\kv= .int .i64 k/\ov=(qS (some ⟨g2,0,none⟩) k c2)/\Hid (rs.length=k)/\Hid (zaa rs=(zaJ n).take k)/\zab wr w.heap.size g2 c2 rs/\Below w.heap.size w wr) (fun _ _ kv _=>n-(intOf kv).toNat)
 case atStart=>exact⟨0,w.heap.size,0,[],qz _,rfl,rfl,rfl,rfl,zab.empty (qr _),(Below.refl _ _).alloc (qr _) _⟩
 case round=>
  obtain⟨k,g2,c2,rs,hk,rfl,rfl,dK,br,hO,hb⟩:=hrel;by_cases ac:k<n
  ·have Ht:=qd (zoN hn ac);have Hl:=qd (zoM n k);go_wp2_with (at_make;refine zbF rfl _ _ rfl w.heap.size n _ rfl rfl rfl (by omega) hb.size ?_);intro w2 ar aP;have gH:zab w2 w.heap.size g2 c2 rs:=hO.below ⟨aP.os,aP.tape,aP.output,aP.size,fun j hj=>aP.block j hj (by intro e;cases e)⟩;have az:Below w.heap.size w w2:=hb.trans ⟨aP.os,aP.tape,aP.output,aP.size,fun j hj=>aP.block j (qL hj hb.size) (by intro e;cases e)⟩;have ao:∀s∈rs,s.1≠wr.heap.size:=fun s hs e=>by have:=(hO.2.1 s hs).lt;omega
   have uF:g2≠wr.heap.size:=by have:=hO.lt;omega
   have kn:=hb.size;clear hO hb aP;generalize wr.heap.size=gr at*;have x0:=ar.cell k (by simpa using ac);have y0:=ar.frozen k;have s1:=ar.set k 2;have e2:IntKind.i64.wrap ((k:Int)+1)=(k:Int)+1:=IntWalk.i64_in _ (by omega);have t2:((k:Int)+1).toNat=k+1:=by omega
   have b2:(0:Int)<=(k:Int)+1:=by omega
   have hX:zca n k=if k+1<n then(if 0<k then((List.replicate n (0:Int)).set k 2).set (k-1) (-1) else(List.replicate n (0:Int)).set k 2).set (k+1) (-1) else(if 0<k then((List.replicate n (0:Int)).set k 2).set (k-1) (-1) else(List.replicate n (0:Int)).set k 2):=rfl;have ff:(k:Int)<(n:Int):=by omega
   by_cases h0:0<k
   ·by_cases h1:k+1<n
    ·have e1:IntKind.i64.wrap ((k:Int)-1)=(k:Int)-1:=IntWalk.i64_in _ (by omega);have t1:((k:Int)-1).toNat=k-1:=by omega
     have b1:(0:Int)<=(k:Int)-1:=by omega
     have b1':(k:Int)-1<(n:Int):=by omega
     have z0:(0:Int)<(k:Int):=by omega
     have x1:=s1.1.cell (k-1) (by simp;omega);have y1:=s1.1.frozen (k-1);have s2:=s1.1.set (k-1) (-1);have l0:(k:Int)+1<(n:Int):=by omega
     have x2:=s2.1.cell (k+1) (by simp;omega);have y2:=s2.1.frozen (k+1);have s3:=s2.1.set (k+1) (-1);have hR:zca n k=(((List.replicate n (0:Int)).set k 2).set (k-1) (-1)).set (k+1) (-1):=by rw[hX,if_pos h1,if_pos h0]
     have HR:=qd hR;have ai:=s3.1;have bn:=World.grownBy.trans' (World.grownBy.trans' s1.2 s2.2) s3.2;rw[<-hR] at ai;have fV:=qd ai;have jn:=qd bn;clear ai bn s1 s2 s3 hR hX ar;have bg:zab _ w.heap.size g2 c2 rs:=gH.grownK2 jn.out uF ao;have ap:=az.grown jn.out az.size (by intro j hj;cases hj;exact kn);clear gH az;go_wp2_with (at_builtin;refine zao (w:=(((w2.setCell ⟨gr,k,none⟩ (.int .i64 2)).setCell ⟨gr,k-1,none⟩ (.int .i64 (-1))).setCell ⟨gr,k+1,none⟩ (.int .i64 (-1)))) rfl _ _ rfl w.heap.size g2 c2 k w2.heap.size rs (gr,n,zca n k) _ dK.out (by unfold zah;rw[Hl.out]) (by simp) bg (fV.out.mono (qr _)) ao rfl rfl (by omega) ?_);intro g4 c4 w4 cV aT bq;have aG:Below w.heap.size w w4:=ap.grown aT ap.size (by intro t ht;cases ht;exact bg.base);have dV:Hid ((rs++[(gr,n,zca n k)]).length=k+1):=qd (by rw[qA,dK.out];rfl);have jo:Hid (zaa (rs++[(gr,n,zca n k)])=(zaJ n).take (k+1)):=qd (by rw[Ht.out,<-br.out];simp[zaa]);clear bg ap aT bq;go_wp2_with fail;go_roundw
     case rel=>exact⟨k+1,g4,c4,_,by omega,by go_num,rfl,dV.out,jo.out,cV,aG⟩
     case measure=>simp[intOf];omega
    ·have e1:IntKind.i64.wrap ((k:Int)-1)=(k:Int)-1:=IntWalk.i64_in _ (by omega);have t1:((k:Int)-1).toNat=k-1:=by omega
     have b1:(0:Int)<=(k:Int)-1:=by omega
     have b1':(k:Int)-1<(n:Int):=by omega
     have z0:(0:Int)<(k:Int):=by omega
     have x1:=s1.1.cell (k-1) (by simp;omega);have y1:=s1.1.frozen (k-1);have s2:=s1.1.set (k-1) (-1);have l0:¬(k:Int)+1<(n:Int):=by omega
     have hR:zca n k=((List.replicate n (0:Int)).set k 2).set (k-1) (-1):=by rw[hX,if_neg h1,if_pos h0]
     have HR:=qd hR;have ai:=s2.1;have bn:=World.grownBy.trans' s1.2 s2.2;rw[<-hR] at ai;have fV:=qd ai;have jn:=qd bn;clear ai bn s1 s2 hR hX ar;have bg:zab _ w.heap.size g2 c2 rs:=gH.grownK2 jn.out uF ao;have ap:=az.grown jn.out az.size (by intro j hj;cases hj;exact kn);clear gH az;go_wp2_with (at_builtin;refine zao (w:=((w2.setCell ⟨gr,k,none⟩ (.int .i64 2)).setCell ⟨gr,k-1,none⟩ (.int .i64 (-1)))) rfl _ _ rfl w.heap.size g2 c2 k w2.heap.size rs (gr,n,zca n k) _ dK.out (by unfold zah;rw[Hl.out]) (by simp) bg (fV.out.mono (qr _)) ao rfl rfl (by omega) ?_);intro g4 c4 w4 cV aT bq;have aG:Below w.heap.size w w4:=ap.grown aT ap.size (by intro t ht;cases ht;exact bg.base);have dV:Hid ((rs++[(gr,n,zca n k)]).length=k+1):=qd (by rw[qA,dK.out];rfl);have jo:Hid (zaa (rs++[(gr,n,zca n k)])=(zaJ n).take (k+1)):=qd (by rw[Ht.out,<-br.out];simp[zaa]);clear bg ap aT bq;go_wp2_with fail;go_roundw
     case rel=>exact⟨k+1,g4,c4,_,by omega,by go_num,rfl,dV.out,jo.out,cV,aG⟩
     case measure=>simp[intOf];omega
   ·by_cases h1:k+1<n
    ·have z0:¬(0:Int)<(k:Int):=by omega
     have l0:(k:Int)+1<(n:Int):=by omega
     have x2:=s1.1.cell (k+1) (by simp;omega);have y2:=s1.1.frozen (k+1);have s3:=s1.1.set (k+1) (-1);have hR:zca n k=((List.replicate n (0:Int)).set k 2).set (k+1) (-1):=by rw[hX,if_pos h1,if_neg h0]
     have HR:=qd hR;have ai:=s3.1;have bn:=World.grownBy.trans' s1.2 s3.2;rw[<-hR] at ai;have fV:=qd ai;have jn:=qd bn;clear ai bn s1 s3 hR hX ar;have bg:zab _ w.heap.size g2 c2 rs:=gH.grownK2 jn.out uF ao;have ap:=az.grown jn.out az.size (by intro j hj;cases hj;exact kn);clear gH az;go_wp2_with (at_builtin;refine zao (w:=((w2.setCell ⟨gr,k,none⟩ (.int .i64 2)).setCell ⟨gr,k+1,none⟩ (.int .i64 (-1)))) rfl _ _ rfl w.heap.size g2 c2 k w2.heap.size rs (gr,n,zca n k) _ dK.out (by unfold zah;rw[Hl.out]) (by simp) bg (fV.out.mono (qr _)) ao rfl rfl (by omega) ?_);intro g4 c4 w4 cV aT bq;have aG:Below w.heap.size w w4:=ap.grown aT ap.size (by intro t ht;cases ht;exact bg.base);have dV:Hid ((rs++[(gr,n,zca n k)]).length=k+1):=qd (by rw[qA,dK.out];rfl);have jo:Hid (zaa (rs++[(gr,n,zca n k)])=(zaJ n).take (k+1)):=qd (by rw[Ht.out,<-br.out];simp[zaa]);clear bg ap aT bq;go_wp2_with fail;go_roundw
     case rel=>exact⟨k+1,g4,c4,_,by omega,by go_num,rfl,dV.out,jo.out,cV,aG⟩
     case measure=>simp[intOf];omega
    ·have z0:¬(0:Int)<(k:Int):=by omega
     have l0:¬(k:Int)+1<(n:Int):=by omega
     have hR:zca n k=(List.replicate n (0:Int)).set k 2:=by rw[hX,if_neg h1,if_neg h0]
     have HR:=qd hR;have ai:=s1.1;have bn:=s1.2;rw[<-hR] at ai;have fV:=qd ai;have jn:=qd bn;clear ai bn s1 hR hX ar;have bg:zab _ w.heap.size g2 c2 rs:=gH.grownK2 jn.out uF ao;have ap:=az.grown jn.out az.size (by intro j hj;cases hj;exact kn);clear gH az;go_wp2_with (at_builtin;refine zao (w:=(w2.setCell ⟨gr,k,none⟩ (.int .i64 2))) rfl _ _ rfl w.heap.size g2 c2 k w2.heap.size rs (gr,n,zca n k) _ dK.out (by unfold zah;rw[Hl.out]) (by simp) bg (fV.out.mono (qr _)) ao rfl rfl (by omega) ?_);intro g4 c4 w4 cV aT bq;have aG:Below w.heap.size w w4:=ap.grown aT ap.size (by intro t ht;cases ht;exact bg.base);have dV:Hid ((rs++[(gr,n,zca n k)]).length=k+1):=qd (by rw[qA,dK.out];rfl);have jo:Hid (zaa (rs++[(gr,n,zca n k)])=(zaJ n).take (k+1)):=qd (by rw[Ht.out,<-br.out];simp[zaa]);clear bg ap aT bq;go_wp2_with fail;go_roundw
     case rel=>exact⟨k+1,g4,c4,_,by omega,by go_num,rfl,dV.out,jo.out,cV,aG⟩
     case measure=>simp[intOf];omega
  ·obtain rfl:k=n:=by omega
   have hc:=br.out;rw[qF (by rw[zat];exact qr _)] at hc;have Hc:=qd hc;have Hl:=qd (show k=(zaJ k).length by rw[zat]);go_wp2_with fail;go_ret;exact⟨g2,c2,rs,congrArg (fun z=>Ending.returned (qS (some ⟨g2,0,none⟩) z c2)) Hl.out,Hc.out,hO,hb⟩
abbrev Tri:=Nat × Nat × Int
def zks:Tri:=(0,0,0)
def ziI(c:LL)(tr:List Tri):LL:=tr.foldl (fun c t=>zbe c t.1 t.2.1 t.2.2) c
theorem zxV(c:LL)(tr:List Tri)(t:Nat)(ht:t<tr.length):ziI c (tr.take (t+1))=zbe (ziI c (tr.take t)) (tr.getD t zks).1 (tr.getD t zks).2.1 (tr.getD t zks).2.2:=by
 have e:tr.take (t+1)=tr.take t++[tr[t]]:=qT ht;have e2:tr.getD t zks=tr[t]:=by simp[List.getD,ht]
 rw[e,e2];unfold ziI;rw[List.foldl_append];rfl
def SqN(n:Nat)(c:LL):Prop:=c.length=n/\∀k,k<n->(c.getD k []).length=n
theorem SqN.set{n:Nat}{c:LL}(h:SqN n c)(i j:Nat)(x:Int):SqN n (zbe c i j x):=by
 refine⟨by rw[zkr];exact h.1,fun k hk=>?_⟩;have hi:=h.2;by_cases e:i=k
 ·subst e
  have:(zbe c i j x).getD i []=(c.getD i []).set j x:=by
   have hl:i<c.length:=by rw[h.1];exact hk
   simp[zbe,List.getD,hl]
  rw[this,List.length_set];exact hi i hk
 ·have:(zbe c i j x).getD k []=c.getD k []:=by simp[zbe,List.getD,e]
  rw[this];exact hi k hk
theorem SqN.with{n:Nat}:∀(tr:List Tri) {c:LL},SqN n c->SqN n (ziI c tr)
 |[],_,h=>h
 |t::tr,_,h=>SqN.with tr (h.set t.1 t.2.1 t.2.2)
theorem zbT(B g n cap ge m ce:Nat)(c0:LL)(tr:List Tri)(E:LI)(rs0:List RowRef)(w:World)(hB:B<=w.heap.size)(hm:tr.length*3=m)(uI:tr.length<=10)(bC:SqN n c0)(BZ:∀t,t<tr.length->(tr.getD t zks).1<n/\(tr.getD t zks).2.1<n)
 (hE:∀t,t<tr.length->E.getD (t*3) 0=((tr.getD t zks).1:Int)/\E.getD (t*3+1) 0=((tr.getD t zks).2.1:Int)/\E.getD (t*3+2) 0=(tr.getD t zks).2.2) (Mo:E.length=tr.length*3)
 (hc:zaa rs0=c0) (ho:zab w B g cap rs0) (nT:∀r∈rs0,r.1≠ge) (wm:zag w ge 0 E):
 Calls Tryz.prog 256 #[(qS (some ⟨g,0,none⟩) n cap),(qS (some ⟨ge,0,none⟩) m ce)] w fun e w'=>∃rs2,e= .returned (qS (some ⟨g,0,none⟩) n cap)/\zaa rs2=ziI c0 tr/\zab w' B g cap rs2/\Below B w w':=by
 subst hm;have Gb:=qd bC;have Iu:=qd BZ;have HE:=qd hE;have Iv:=qd Mo;have aL:Hid (zaa rs0=ziI c0 (tr.take 0)):=qd hc;have Ca:=qd nT;have Cb:=qd wm;clear bC BZ hE Mo hc nT wm
 go_enter Tryz.func256,Tryz.ntmps256
 go_wp2;go_loopw [5] (fun kv wr=>∃(t:Nat) (rs:List RowRef),t<=tr.length/\kv= .int .i64 ((t*3:Nat):Int)/\Hid (zaa rs=ziI c0 (tr.take t))/\zab wr B g cap rs/\Hid (∀r∈rs,r.1≠ge)/\Hid (zag wr ge 0 E)/\Below B w wr) (fun kv _=>tr.length*3+1-(intOf kv).toNat)
 case atStart=>exact⟨0,rs0,qz _,rfl,aL,ho,Ca,Cb,Below.refl _ _⟩
 case round=>
  clear aL Ca Cb;obtain⟨t,rs,ht,rfl,aL,ho,nT,wm,hb⟩:=hrel;by_cases ac:t<tr.length
  ·obtain⟨hi,hj⟩:=Iu.out t ac;obtain⟨e1,e2,e3⟩:=HE.out t ac;have q1:=wm.out (t*3) (by rw[Iv.out];omega);have q2:=wm.out (t*3+1) (by rw[Iv.out];omega);have q3:=wm.out (t*3+2) (by rw[Iv.out];omega);rw[Nat.zero_add] at q1 q2 q3;rw[e1] at q1;rw[e2] at q2;rw[e3] at q3;have ye:=Gb.out.with (tr.take t);have bw:=qd (zxV c0 tr t ac);generalize tr.getD t zks=T at*;obtain⟨i,j,x⟩:=T;have kl:i<n:=hi;have fC:j<n:=hj;have q1':wr.cell? ⟨ge,t*3,none⟩=some (.int .i64 (i:Int)):=q1;have q2':wr.cell? ⟨ge,t*3+1,none⟩=some (.int .i64 (j:Int)):=q2;have q3':wr.cell? ⟨ge,t*3+2,none⟩=some (.int .i64 x):=q3;obtain⟨gr,cr,⟨r0,fm,nH⟩,ie,qP,ao,p1,p2,p3⟩:=ho.setMat aL.out i (by rw[ye.1];exact kl);rw[ye.2 i kl] at p1 p2;obtain⟨p4,p5⟩:=p2 j fC;obtain⟨rs2,uI,aH,fc,ar,aP⟩:=p3 j x;have Pw:gr≠ge:=by rw[<-nH];exact nT.out r0 fm
   have ae:=hb.grown aP (qt hB hb.size) (by intro q hq;cases hq;exact ie);have Px:Hid (zaa rs2=ziI c0 (tr.take (t+1))):=qd (by rw[aH];exact bw.out.symm);have yf:Hid (∀r∈rs2,r.1≠ge):=qd (fun r hr e=>by obtain⟨s,hs,e2⟩:=uI r hr;exact nT.out s hs (e2.trans e));have Py:=qd (wm.out.grown aP (fun e=>Pw (Option.some.inj e).symm));have Pz:=qd ar;have Cc:=qd ae;generalize ((ziI c0 (tr.take t)).getD i []).getD j 0=y at*;have t1:((t*3:Nat):Int)+2<((tr.length*3:Nat):Int):=by omega
   have w1:IntKind.i64.wrap (((t*3:Nat):Int)+1)=((t*3+1:Nat):Int):=by rw[IntWalk.i64_in _ ⟨by omega,by omega⟩];omega
   have w2:IntKind.i64.wrap (((t*3:Nat):Int)+2)=((t*3+2:Nat):Int):=by rw[IntWalk.i64_in _ ⟨by omega,by omega⟩];omega
   have b1:t*3<tr.length*3:=by omega
   have b2:t*3+1<tr.length*3:=by omega
   have b3:t*3+2<tr.length*3:=by omega
   generalize Cd:t*3=K at*;have Mp:=qd Cd;clear Cd q1 q2 q3 e1 e2 e3 hi hj p2 p3 aH ar aP ae hb ho aL nT wm uI fc ye fm nH;go_wp2_with fail
   go_region
   go_wp2_with fail;go_roundw
   case rel=>exact⟨t+1,rs2,by omega,by have:=Mp.out;simp only[Value.int.injEq,true_and];omega,Px,Pz.out,yf,Py,Below.drew Cc.out⟩
   case measure=>have:=Mp.out;simp[intOf];omega
  ·obtain rfl:t=tr.length:=by omega
   have bF:=aL.out;rw[List.take_length] at bF;have dW:=qd bF;clear aL bF;go_wp2_with fail;go_ret;exact⟨rs,rfl,dW.out,ho,hb⟩
end
end Go.Proofs.YtlgcmaoimpgedaaGreatDoor

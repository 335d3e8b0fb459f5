/- Orx Stb Stw Sti Smp -/
import Derived.Shelf.SlSortCmp.InsertionK
import Derived.Test.YtlgcmaoimpgedaaGreatDoorT30
set_option maxHeartbeats 1000000
set_option maxRecDepth 100000
set_option linter.unusedSimpArgs false
namespace Go.Proofs.YtlgcmaoimpgedaaGreatDoor
open Go.Value renaming slice->qS
section
open Go.RowKit Game
theorem zxs{A:Mat}(a b:Vec)(w:List Nat):act A w (fun k=>a k+b k)=fun k=>act A w a k+act A w b k:=by
 have h:=zrg A 1 1 a b w;simp only[Int.one_mul] at h;exact h
theorem zII{c:LL}{t x:LI}(hD:zbY c t)(ht:∀j,j<c.length->0<=t.getD j 0/\t.getD j 0<=22)(hx:zbv c t x)
 (hI:∀w:List Nat,(∀i∈w,i<c.length)->∀j,j<c.length→-30<=act (ent c) w (toV (zax c.length)) j/\act (ent c) w (toV (zax c.length)) j<=30):
 ∀j,j<c.length→-750<=x.getD j 0/\x.getD j 0<=750:=by
 obtain⟨hl,w,hw,e⟩:=hx;intro j hj;have hA:=zbS hD.hC
 have h1:=zuK (r:=toV (zax c.length)) (d:=fun k=>toV t k+toV (zax c.length) k) (K:=24) hA (by decide) (zjd c.length) (fun i hi=>by
  have:=ht i hi;have e1:=zgv c.length i hi;show 0<t.getD i 0+toV (zax c.length) i/\t.getD i 0+toV (zax c.length) i<24*toV (zax c.length) i;rw[e1];omega) hw hj (hI w hw j hj)
 rw[zxs] at h1;have h2:=hI w hw j hj;have e2:x.getD j 0=act (ent c) w (toV t) j:=congrFun e j;rw[e2];have h3:-(24*30)<=act (ent c) w (toV t) j+act (ent c) w (toV (zax c.length)) j/\act (ent c) w (toV t) j+act (ent c) w (toV (zax c.length)) j<=24*30:=h1;omega
end
section
open Go.Sort (SWO)
namespace Stb
variable {α:Type}
def swp(d:Nat->α)(i j:Nat):Nat->α:=fun k=>if k=j then d i else if k=i then d j else d k
def swR(d:Nat->α)(a b n:Nat):Nat->α:=fun k=>if a<=k/\k<a+n then d (b+(k-a)) else if b<=k/\k<b+n then d (a+(k-b)) else d k
theorem zpw(d:Nat->α)(a b:Nat):swR d a b 0=d:=by
 funext k;unfold swR;rw[if_neg (by omega),if_neg (by omega)]
theorem zpx{d:Nat->α}{a b n:Nat}(h:a+(n+1)<=b):swp (swR d a b n) (a+n) (b+n)=swR d a b (n+1):=by
 funext k;unfold swp swR;by_cases h1:k=b+n
 ·subst h1;rw[if_pos rfl,if_neg (by omega),if_neg (by omega),if_neg (by omega),if_pos (by omega)];congr 1;omega
 ·rw[if_neg h1];by_cases h2:k=a+n
  ·subst h2;rw[if_pos rfl,if_neg (by omega),if_neg (by omega),if_pos (by omega)];congr 1;omega
  ·rw[if_neg h2];by_cases h3:a<=k/\k<a+n
   ·rw[if_pos h3,if_pos (by omega)]
   ·rw[if_neg h3,if_neg (by omega:¬(a<=k/\k<a+(n+1)))];by_cases h4:b<=k/\k<b+n
    ·rw[if_pos h4,if_pos (by omega)]
    ·rw[if_neg h4,if_neg (by omega)]
def rot(d:Nat->α)(a m b:Nat):Nat->α:=fun k=>if a<=k/\k<a+(b-m) then d (m+(k-a)) else if a+(b-m)<=k/\k<b then d (a+(k-(a+(b-m)))) else d k
theorem zve{d:Nat->α}{m i j:Nat}(hi:i<=m)(h:j<i):rot (swR d (m-i) m j) (m-(i-j)) m (m+j)=rot d (m-i) m (m+j):=by
 funext k;unfold rot swR;by_cases h1:k<m-i
 ·rw[if_neg (by omega),if_neg (by omega),if_neg (by omega),if_neg (by omega),if_neg (by omega),if_neg (by omega)]
 ·by_cases h2:k<m-i+j
  ·rw[if_neg (by omega),if_neg (by omega),if_pos (by omega),if_pos (by omega)]
  ·by_cases h3:k<m-(i-j)+j
   ·rw[if_pos (by omega),if_neg (by omega),if_pos (by omega),if_neg (by omega:¬(m-i<=k/\k<m-i+(m+j-m))),if_pos (by omega)];congr 1;omega
   ·by_cases h4:k<m+j
    ·rw[if_neg (by omega),if_pos (by omega),if_neg (by omega),if_neg (by omega),if_neg (by omega:¬(m-i<=k/\k<m-i+(m+j-m))),if_pos (by omega)];congr 1;omega
    ·rw[if_neg (by omega),if_neg (by omega),if_neg (by omega),if_neg (by omega),if_neg (by omega),if_neg (by omega)]
theorem zvf{d:Nat->α}{m i j:Nat}(hi:i<=m)(h:i<j):rot (swR d (m-i) (m+j-i) i) (m-i) m (m+(j-i))=rot d (m-i) m (m+j):=by
 funext k;unfold rot swR;by_cases h1:k<m-i
 ·rw[if_neg (by omega),if_neg (by omega),if_neg (by omega),if_neg (by omega),if_neg (by omega),if_neg (by omega)]
 ·by_cases h2:k<m-i+(j-i)
  ·rw[if_pos (by omega),if_neg (by omega),if_neg (by omega),if_pos (by omega)]
  ·by_cases h3:k<m-i+j
   ·by_cases h5:k<m+(j-i)
    ·rw[if_neg (by omega),if_pos (by omega),if_pos (by omega),if_pos (by omega)];congr 1;omega
    ·omega
   ·by_cases h4:k<m+j
    ·rw[if_neg (by omega),if_neg (by omega),if_neg (by omega),if_pos (by omega),if_neg (by omega:¬(m-i<=k/\k<m-i+(m+j-m))),if_pos (by omega)];congr 1;omega
    ·rw[if_neg (by omega),if_neg (by omega),if_neg (by omega),if_neg (by omega),if_neg (by omega),if_neg (by omega)]
theorem zvg{d:Nat->α}{m i:Nat}(hi:i<=m):swR d (m-i) m i=rot d (m-i) m (m+i):=by
 funext k;unfold rot swR;by_cases h1:m-i<=k/\k<m-i+i
 ·rw[if_pos h1,if_pos (by omega)]
 ·rw[if_neg h1,if_neg (by omega:¬(m-i<=k/\k<m-i+(m+i-m)))];by_cases h2:m<=k/\k<m+i
  ·rw[if_pos h2,if_pos (by omega)];congr 1;omega
  ·rw[if_neg h2,if_neg (by omega)]
def lst(N:Nat)(d:Nat->α):List α:=(List.range N).map d
theorem zpy{N i j:Nat}(d:Nat->α)(hi:i<N)(hj:j<N):(lst N (swp d i j)).Perm (lst N d):=by
 by_cases e:i=j
 ·subst e
  have:swp d i i=d:=by
   funext k;unfold swp;by_cases h:k=i
   ·rw[if_pos h,h]
   ·rw[if_neg h,if_neg h]
  rw[this]
 ·have hs:lst N (swp d i j)=((List.range N).map fun k=>if k=j then i else if k=i then j else k).map d:=by
   unfold lst;rw[List.map_map];apply List.map_congr_left;intro k _;show swp d i j k=d (if k=j then i else if k=i then j else k);unfold swp
   split
   ·rfl
   ·split <;> rfl
  rw[hs];refine List.Perm.map d ?_;refine(List.perm_ext_iff_of_nodup ?_ List.nodup_range).2 fun x=>?_
  ·refine List.pairwise_map.2 (List.nodup_range.imp fun {p q} NV=>?_);intro he;apply NV
   split at he <;> split at he <;> (try split at he) <;> (try split at he) <;> omega
  ·simp only[List.mem_map,List.mem_range];constructor
   ·rintro ⟨k,hk,rfl⟩
    split
    ·exact hi
    ·split
     ·exact hj
     ·exact hk
   ·intro hx;by_cases h1:x=i
    ·exact⟨j,hj,by rw[if_pos rfl,h1]⟩
    ·by_cases h2:x=j
     ·exact⟨i,hi,by rw[if_neg e,if_pos rfl,h2]⟩
     ·exact⟨x,hx,by rw[if_neg h2,if_neg h1]⟩
structure Res(N a b:Nat)(d d':Nat->α):Prop where
 keep:∀k,k<a∨b<=k->d' k=d k
 into:∀k,a<=k->k<b->∃k',a<=k'/\k'<b/\d' k=d k'
 perm:(lst N d').Perm (lst N d)
theorem Res.refl{N a b:Nat}(d:Nat->α):Res N a b d d:=⟨fun _ _=>rfl,fun k h1 h2=>⟨k,h1,h2,rfl⟩,List.Perm.refl _⟩
theorem Res.trans{N a b:Nat}{d d1 d2:Nat->α}(h:Res N a b d d1)(h':Res N a b d1 d2):Res N a b d d2:=
 ⟨fun k hk=>(h'.keep k hk).trans (h.keep k hk),fun k h1 h2=>by
  obtain⟨k',e1,e2,e3⟩:=h'.into k h1 h2;obtain⟨k2,f1,f2,f3⟩:=h.into k' e1 e2;exact⟨k2,f1,f2,e3.trans f3⟩,h'.perm.trans h.perm⟩
theorem Res.wide{N a b a' b':Nat}{d d':Nat->α}(h:Res N a b d d')(ha:a'<=a)(hb:b<=b'):Res N a' b' d d':=
 ⟨fun k hk=>h.keep k (by omega),fun k h1 h2=>by
  by_cases bR:a<=k/\k<b
  ·obtain⟨k',e1,e2,e3⟩:=h.into k bR.1 bR.2;exact⟨k',by omega,by omega,e3⟩
  ·exact⟨k,h1,h2,h.keep k (by omega)⟩,h.perm⟩
theorem Res.swp{N a b i j:Nat}(d:Nat->α)(hb:b<=N)(hi:a<=i/\i<b)(hj:a<=j/\j<b):Res N a b d (swp d i j):=
 ⟨fun k hk=>by unfold Stb.swp;rw[if_neg (by omega),if_neg (by omega)],fun k h1 h2=>by
  unfold Stb.swp;by_cases e1:k=j
  ·rw[if_pos e1];exact⟨i,hi.1,hi.2,rfl⟩
  ·rw[if_neg e1];by_cases e2:k=i
   ·rw[if_pos e2];exact⟨j,hj.1,hj.2,rfl⟩
   ·rw[if_neg e2];exact⟨k,h1,h2,rfl⟩,zpy d (by omega) (by omega)⟩
theorem Res.swR{N a b n:Nat}{d:Nat->α}{x y:Nat}(hb:b<=N)(hx:a<=x)(kP:x+n<=y)(hy:y+n<=b):Res N a b d (swR d x y n):=by
 induction n with
 |zero=>rw[zpw];exact Res.refl d
 |succ n ih=>
  rw[<-zpx (by omega)];exact(ih (by omega) (by omega)).trans (Res.swp _ hb (by omega) (by omega))
def Srt(lt:α->α->Bool)(d:Nat->α)(a b:Nat):Prop:=∀i j,a<=i->i<j->j<b->lt (d j) (d i)=false
section
variable {lt:α->α->Bool}
theorem Srt.le(hO:SWO lt){d:Nat->α}{a b i j:Nat}(h:Srt lt d a b)(hi:a<=i)(iP:i<=j)(hj:j<b):lt (d j) (d i)=false:=by
 by_cases e:i=j
 ·subst e;exact hO.irrefl _
 ·exact h i j hi (by omega) hj
theorem zth(hO:SWO lt){x y:α}(h:lt x y=true):lt y x=false:=by
 cases h2:lt y x with
 |false=>rfl
 |true=>
  have:=hO.trans _ _ _ h h2;rw[hO.irrefl] at this;exact absurd this (by decide)
theorem zGH(hO:SWO lt){x y z:α}(h:lt x y=true)(h2:lt z y=false):lt x z=true:=by
 cases h3:lt x z with
 |true=>rfl
 |false=>
  have:=hO.ntrans _ _ _ h3 h2;rw[h] at this;exact absurd this (by decide)
theorem zGI(hO:SWO lt){x y z:α}(h:lt y x=false)(h2:lt y z=true):lt x z=true:=by
 cases h3:lt x z with
 |true=>rfl
 |false=>
  have:=hO.ntrans _ _ _ h h3;rw[h2] at this;exact absurd this (by decide)
theorem Srt.join{d:Nat->α}{a m b:Nat}(h1:Srt lt d a m)(h2:Srt lt d m b)(h:∀i j,a<=i->i<m->m<=j->j<b->lt (d j) (d i)=false):Srt lt d a b:=fun i j hi iP hj=>by
 by_cases e1:j<m
 ·exact h1 i j hi iP e1
 ·by_cases e2:m<=i
  ·exact h2 i j e2 iP hj
  ·exact h i j hi (by omega) (by omega) hj
structure zhj(lt:α->α->Bool)(d:Nat->α)(a m b s e:Nat):Prop where
 s1:a<=s/\s<=m
 s2:m<=e/\e<=b
 lo:a<s->e<b->lt (d e) (d (s-1))=false
 hi:s<m->m<e->lt (d (e-1)) (d s)=true
theorem zhj.cross(hO:SWO lt){d:Nat->α}{a m b s e:Nat}(h:zhj lt d a m b s e)(hl:Srt lt d a m)(hr:Srt lt d m b):
 ∀x y,(a<=x/\x<s∨m<=x/\x<e)->(s<=y/\y<m∨e<=y/\y<b)->lt (d y) (d x)=false:=by
 intro x y hx hy;obtain⟨⟨s1,s2⟩,⟨s3,s4⟩,lo,hi⟩:=h
 rcases hx with hx|hx <;> rcases hy with hy|hy
 ·exact hl.le hO hx.1 (by omega) hy.2
 ·have h1:=lo (by omega) (by omega);have h2:=hr.le hO (i:=e) (j:=y) (by omega) hy.1 hy.2;have h3:=hl.le hO (i:=x) (j:=s-1) hx.1 (by omega) (by omega);exact hO.ntrans _ _ _ (hO.ntrans _ _ _ h2 h1) h3
 ·have h1:=hi (by omega) (by omega);have h2:=hr.le hO (i:=x) (j:=e-1) (by omega) (by omega) (by omega);have h3:=hl.le hO (i:=s) (j:=y) (by omega) hy.1 hy.2;exact zth hO (zGH hO (zGI hO h2 h1) h3)
 ·exact hr.le hO (by omega) (by omega) hy.2
theorem zhj.rot{d:Nat->α}{a m b s e mid:Nat}(h:zhj lt d a m b s e)(fO:mid=s+(e-m))(hl:Srt lt d a m)(hr:Srt lt d m b):
 Srt lt (Stb.rot d s m e) a s/\Srt lt (Stb.rot d s m e) s mid/\Srt lt (Stb.rot d s m e) mid e/\Srt lt (Stb.rot d s m e) e b:=by
 obtain⟨⟨s1,s2⟩,⟨s3,s4⟩,-,-⟩:=h;subst fO;refine⟨fun i j h1 h2 h3=>?_,fun i j h1 h2 h3=>?_,fun i j h1 h2 h3=>?_,fun i j h1 h2 h3=>?_⟩
 ·unfold Stb.rot;rw[if_neg (by omega),if_neg (by omega),if_neg (by omega),if_neg (by omega)];exact hl i j h1 h2 (by omega)
 ·unfold Stb.rot;rw[if_pos (by omega),if_pos (by omega)];exact hr _ _ (by omega) (by omega) (by omega)
 ·unfold Stb.rot;rw[if_neg (by omega),if_pos (by omega),if_neg (by omega),if_pos (by omega)];exact hl _ _ (by omega) (by omega) (by omega)
 ·unfold Stb.rot;rw[if_neg (by omega),if_neg (by omega),if_neg (by omega),if_neg (by omega)];exact hr i j (by omega) h2 h3
theorem zhj.merge(hO:SWO lt){N:Nat}{d d2 d3:Nat->α}{a m b s e mid:Nat}(h:zhj lt d a m b s e)(fO:mid=s+(e-m))(hl:Srt lt d a m)(hr:Srt lt d m b)
 (r2:Res N a mid (Stb.rot d s m e) d2) (q2:Srt lt d2 a mid) (r3:Res N mid b d2 d3) (q3:Srt lt d3 mid b):Srt lt d3 a b:=by
 have hc:=h.cross hO hl hr;obtain⟨⟨s1,s2⟩,⟨s3,s4⟩,-,-⟩:=h;refine Srt.join (m:=mid) (fun i j h1 h2 h3=>?_) q3 fun i j h1 h2 h3 h4=>?_
 ·rw[r3.keep i (by omega),r3.keep j (by omega)];exact q2 i j h1 h2 h3
 ·rw[r3.keep i (by omega)];obtain⟨i',e1,e2,e3⟩:=r2.into i h1 h2;obtain⟨j',f1,f2,f3⟩:=r3.into j h3 h4;rw[e3,f3,r2.keep j' (by omega)]
  have hi:∃x,(a<=x/\x<s∨m<=x/\x<e)/\Stb.rot d s m e i'=d x:=by
   unfold Stb.rot;by_cases g:i'<s
   ·exact⟨i',.inl ⟨e1,g⟩,by rw[if_neg (by omega),if_neg (by omega)]⟩
   ·exact⟨m+(i'-s),.inr (by omega),by rw[if_pos (by omega)]⟩
  have hj:∃y,(s<=y/\y<m∨e<=y/\y<b)/\Stb.rot d s m e j'=d y:=by
   unfold Stb.rot;by_cases g:j'<e
   ·exact⟨s+(j'-(s+(e-m))),.inl (by omega),by rw[if_neg (by omega),if_pos (by omega)]⟩
   ·exact⟨j',.inr ⟨by omega,f2⟩,by rw[if_neg (by omega),if_neg (by omega)]⟩
  obtain⟨x,hx,ex⟩:=hi;obtain⟨y,hy,ey⟩:=hj;rw[ex,ey];exact hc x y hx hy
end
end Stb
end
section
open Go.RowKit Game Stb
structure zaH where
 g:Nat
 o:Nat
 n:Nat
 c:Nat
 xs:LI
 ct:Int
def zaH.v1(x:zaH):Value:=(qS (some ⟨x.g,x.o,none⟩) x.n x.c)
def zaH.v2(x:zaH):Value:= .int .i64 x.ct
def zaH.wt(x:zaH):Wt:=(x.xs,x.ct)
def Rd(w:World)(G:Nat)(x:zaH):Prop:=x.g≠G/\x.g<w.heap.size/\x.xs.length=x.n/\x.n<=x.c/\x.n<=1048576/\zag w x.g x.o x.xs
theorem Rd.grown{w w':World}{G:Nat}{x:zaH}(h:Rd w G x)(hg:w.grownBy w' (some G)):Rd w' G x:=
 ⟨h.1,qL h.2.1 hg.size,h.2.2.1,h.2.2.2.1,h.2.2.2.2.1,h.2.2.2.2.2.grown hg (fun e=>h.1 (Option.some.inj e))⟩
def fl(N:Nat)(d:Nat->zaH):List Value:=(List.range (N*2)).map fun t=>if t % 2=0 then(d (t / 2)).v1 else(d (t / 2)).v2
theorem zeu(N:Nat)(d:Nat->zaH):(fl N d).length=N*2:=by simp[fl]
theorem zJI{N:Nat}{d:Nat->zaH}{k:Nat}(_hk:k<N)(h:k*2<(fl N d).length):(fl N d)[k*2]=(d k).v1:=by
 simp only[fl,List.getElem_map,List.getElem_range];rw[if_pos (by omega),show k*2 / 2=k by omega]
theorem zJJ{N:Nat}{d:Nat->zaH}{k:Nat}(_hk:k<N)(h:k*2+1<(fl N d).length):(fl N d)[k*2+1]=(d k).v2:=by
 simp only[fl,List.getElem_map,List.getElem_range];rw[if_neg (by omega),show(k*2+1) / 2=k by omega]
theorem zJK{N:Nat}(d:Nat->zaH)(i j:Nat):
 ((((fl N d).set (i*2) (d j).v1).set (i*2+1) (d j).v2).set (j*2) (d i).v1).set (j*2+1) (d i).v2=fl N (swp d i j):=by
 apply List.ext_getElem (by simp[fl]);intro t h1 h2;have ht:t<N*2:=by rw[zeu] at h2;exact h2
 simp only[List.getElem_set,fl,List.getElem_map,List.getElem_range];unfold swp;by_cases e1:j*2+1=t
 ·subst e1;rw[if_pos rfl,if_neg (by omega),if_pos (by omega)]
 ·rw[if_neg e1];by_cases e2:j*2=t
  ·subst e2;rw[if_pos rfl,if_pos (by omega),if_pos (by omega)]
  ·rw[if_neg e2];by_cases e3:i*2+1=t
   ·subst e3;rw[if_pos rfl,if_neg (by omega),if_neg (by omega),if_pos (by omega)]
   ·rw[if_neg e3];by_cases e4:i*2=t
    ·subst e4;rw[if_pos rfl,if_pos (by omega),if_neg (by omega),if_pos (by omega)]
    ·rw[if_neg e4];have BA:¬t / 2=j:=by omega
     have vw:¬t / 2=i:=by omega
     simp only[if_neg BA,if_neg vw]
structure SSt(w W:World)(B G cap N:Nat)(d:Nat->zaH):Prop where
 own:zaE W B 36 2 G cap N (fl N d)
 rd:∀k,k<N->Rd W G (d k)
 grown:w.grownBy W (some G)
section
variable {w W W':World} {B G cap N:Nat} {d d':Nat->zaH}
theorem SSt.step(h:SSt w W B G cap N d)(hb:Below W.heap.size W W'):SSt w W' B G cap N d:=by
 have hg:W.grownBy W' (some G):=⟨hb.os,hb.tape,hb.output,hb.size,fun k hk _=>hb.block k hk⟩;exact⟨h.own.below hb h.own.lt,fun k hk=>(h.rd k hk).grown hg,World.grownBy.trans' h.grown hg⟩
theorem SSt.drew(h:SSt w W B G cap N d):SSt w W.drew B G cap N d:=h.step (Below.drew (Below.refl _ _))
theorem SSt.cells(h:SSt w W B G cap N d){k:Nat}(hk:k<N):W.cell? ⟨G,k*2,none⟩=some (d k).v1/\W.cell? ⟨G,k*2+1,none⟩=some (d k).v2:=
 ⟨by rw[h.own.cell (k*2) (by rw[zeu];omega),zJI hk],by rw[h.own.cell (k*2+1) (by rw[zeu];omega),zJJ hk]⟩
def swW(W:World)(G i j:Nat)(x y:zaH):World:=(((W.setCell ⟨G,i*2,none⟩ y.v1).setCell ⟨G,i*2+1,none⟩ y.v2).setCell ⟨G,j*2,none⟩ x.v1).setCell ⟨G,j*2+1,none⟩ x.v2
theorem SSt.swap(h:SSt w W B G cap N d){i j:Nat}(hi:i<N)(hj:j<N):SSt w (swW W G i j (d i) (d j)) B G cap N (swp d i j):=by
 have o1:=h.own.set (i*2) (d j).v1;have o2:=o1.1.set (i*2+1) (d j).v2;have o3:=o2.1.set (j*2) (d i).v1;have o4:=o3.1.set (j*2+1) (d i).v2;have hg:W.grownBy (swW W G i j (d i) (d j)) (some G):=World.grownBy.trans' (World.grownBy.trans' (World.grownBy.trans' o1.2 o2.2) o3.2) o4.2;refine⟨?_,fun k hk=>?_,World.grownBy.trans' h.grown hg⟩
 ·have:=o4.1;rw[zJK d i j] at this;exact this
 ·unfold swp
  split
  ·exact(h.rd i hi).grown hg
  ·split
   ·exact(h.rd j hj).grown hg
   ·exact(h.rd k hk).grown hg
theorem SSt.swapF(h:SSt w W B G cap N d){i j:Nat}(_hi:i<N)(hj:j<N)(ao:i≠j)(y:zaH):
 (∀t,W.frozen? ⟨G,t,none⟩=false)/\(∀t,((W.setCell ⟨G,i*2,none⟩ y.v1).setCell ⟨G,i*2+1,none⟩ y.v2).frozen? ⟨G,t,none⟩=false)/\
 ((W.setCell ⟨G,i*2,none⟩ y.v1).setCell ⟨G,i*2+1,none⟩ y.v2).cell? ⟨G,j*2,none⟩=some (d j).v1/\((W.setCell ⟨G,i*2,none⟩ y.v1).setCell ⟨G,i*2+1,none⟩ y.v2).cell? ⟨G,j*2+1,none⟩=some (d j).v2:=by
 have o1:=h.own.set (i*2) y.v1;have o2:=o1.1.set (i*2+1) y.v2;refine⟨fun t=>h.own.frozen t,fun t=>o2.1.frozen t,?_,?_⟩
 ·rw[o2.1.cell (j*2) (by simp[zeu];omega),List.getElem_set,if_neg (by omega),List.getElem_set,if_neg (by omega),zJI hj]
 ·rw[o2.1.cell (j*2+1) (by simp[zeu];omega),List.getElem_set,if_neg (by omega),List.getElem_set,if_neg (by omega),zJJ hj]
end
theorem zjv(B G cap N a b n:Nat)(f:Value)(d:Nat->zaH)(w:World)(hN:N<=1048576)(eC:a+n<=b)(hb:b+n<=N)(S:SSt w w B G cap N d):
 Calls Tryz.prog 238 #[(qS (some ⟨G,0,none⟩) N cap),.int .i64 a,.int .i64 b,.int .i64 n,f] w fun e w'=>e= .returned (.tuple #[])/\SSt w w' B G cap N (swR d a b n):=by
 have S0:=qd S;clear S
 go_enter Tryz.func238,Tryz.ntmps238
 go_wp2;go_loopw [10] (fun iv wr=>∃i:Nat,i<=n/\iv= .int .i64 i/\Hid (SSt w wr B G cap N (swR d a b i))) (fun iv _=>n-(intOf iv).toNat)
 case atStart=>exact⟨0,qz _,rfl,by rw[zpw];exact S0.out⟩
 case round=>
  clear S0;obtain⟨i,hi,rfl,S⟩:=hrel;by_cases ac:i<n
  ·have hp:a+i<N:=by omega
   have hq:b+i<N:=by omega
   obtain⟨c1,c2⟩:=S.out.cells hp;obtain⟨c3,c4⟩:=S.out.cells hq;obtain⟨f1,f2,k3,k4⟩:=S.out.swapF hp hq (by omega) (swR d a b i (b+i));have HS:=qd (S.out.swap hp hq).drew;rw[zpx (by omega)] at HS;have v1:∀x:zaH,x.v1=(qS (some ⟨x.g,x.o,none⟩) x.n x.c):=fun _=>rfl
   have v2:∀x:zaH,x.v2= .int .i64 x.ct:=fun _=>rfl
   unfold swW at HS;simp only[v1,v2] at c1 c2 c3 c4 f2 k3 k4 HS;generalize swR d a b i (a+i)=x at*;generalize swR d a b i (b+i)=y at*;obtain⟨xg,xo,xn,xc,xx,xt⟩:=x;obtain⟨yg,yo,yn,yc,yx,yt⟩:=y;have ew1:IntKind.i64.wrap ((a:Int)+(i:Int))=(a:Int)+(i:Int):=IntWalk.i64_in _ ⟨by omega,by omega⟩;have ew2:IntKind.i64.wrap ((b:Int)+(i:Int))=(b:Int)+(i:Int):=IntWalk.i64_in _ ⟨by omega,by omega⟩;have et1:((a:Int)+(i:Int)).toNat=a+i:=by omega
   have et2:((b:Int)+(i:Int)).toNat=b+i:=by omega
   have eb1:(0:Int)<=(a:Int)+(i:Int)/\(a:Int)+(i:Int)<(N:Int):=by omega
   have eb2:(0:Int)<=(b:Int)+(i:Int)/\(b:Int)+(i:Int)<(N:Int):=by omega
   obtain⟨eb1,eb1'⟩:=eb1;obtain⟨eb2,eb2'⟩:=eb2;have g1:=f1 ((a+i)*2);have g2:=f1 ((a+i)*2+1);have g3:=f2 ((b+i)*2);have g4:=f2 ((b+i)*2+1);clear S f1 f2 v1 v2;go_wp2_with fail
   go_region
   go_wp2_with fail;go_roundw
   case rel=>exact⟨i+1,by omega,by go_num,HS.out⟩
   case measure=>simp[intOf];omega
  ·obtain rfl:i=n:=by omega
   go_wp2_with fail
   go_end0
   exact⟨rfl,S.out⟩
theorem SSt.here{w W:World}{B G cap N:Nat}{d:Nat->zaH}(h:SSt w W B G cap N d):SSt W W B G cap N d:=⟨h.own,h.rd,World.grownBy.refl _ _⟩
theorem SSt.from{w W W':World}{B G cap N:Nat}{d d':Nat->zaH}(h:SSt w W B G cap N d)(h':SSt W W' B G cap N d'):SSt w W' B G cap N d':=⟨h'.own,h'.rd,World.grownBy.trans' h.grown h'.grown⟩
theorem zkb(B G cap N a m b:Nat)(f:Value)(d:Nat->zaH)(w:World)(hN:N<=1048576)(jc:a<m)(kt:m<b)(hb:b<=N)(S:SSt w w B G cap N d):
 Calls Tryz.prog 217 #[(qS (some ⟨G,0,none⟩) N cap),.int .i64 a,.int .i64 m,.int .i64 b,f] w fun e w'=>e= .returned (.tuple #[])/\SSt w w' B G cap N (rot d a m b):=by
 have S0:=qd S;clear S
 go_enter Tryz.func217,Tryz.ntmps217
 have em:(m:Int)-(a:Int)=((m-a:Nat):Int):=by omega
 have eb:(b:Int)-(m:Int)=((b-m:Nat):Int):=by omega
 have ew1:IntKind.i64.wrap ((m:Int)-(a:Int))=((m-a:Nat):Int):=by rw[IntWalk.i64_in _ ⟨by omega,by omega⟩,em]
 have ew2:IntKind.i64.wrap ((b:Int)-(m:Int))=((b-m:Nat):Int):=by rw[IntWalk.i64_in _ ⟨by omega,by omega⟩,eb]
 clear em eb;go_wp2_with fail;go_loopg [10,11] (m-a+(b-m)) (fun gk iv jv wr=>∃(i j:Nat) (d':Nat->zaH),0<i/\0<j/\i<=m-a/\j<=b-m/\i+j<=gk/\iv= .int .i64 i/\jv= .int .i64 j/\Hid (rot d' (m-i) m (m+j)=rot d a m b)/\Hid (SSt w wr B G cap N d'))
 case atStart=>exact⟨m-a,b-m,d,by omega,by omega,qr _,qr _,qr _,rfl,rfl,by rw[show m-(m-a)=a by omega,show m+(b-m)=b by omega];exact qd rfl,S0⟩
 case round=>
  clear S0 ew1 ew2;obtain⟨i,j,d',Kw,Kx,hi,hj,hg,rfl,rfl,oF,S⟩:=hrel;have ew1:IntKind.i64.wrap ((m:Int)-(i:Int))=((m-i:Nat):Int):=by rw[IntWalk.i64_in _ ⟨by omega,by omega⟩];omega
  by_cases iP:i=j
  ·subst iP;have aa:=zjv B G cap N (m-i) m i f d' wr hN (by omega) (by omega) S.out.here;rw[zvg (by omega),oF.out] at aa;have ab:=qd aa;clear aa;go_wp2_with fail;refine ab.out.mono ?_;rintro e w1 ⟨rfl,S1⟩;have HS:=qd (S.out.from S1);clear ab S S1;go_wp2_with fail
   go_end0
   exact⟨rfl,HS.out⟩
  ·have Ky:¬(i:Int)=(j:Int):=by omega
   by_cases ac:j<i
   ·have fA:(j:Int)<(i:Int):=by omega
    have ew3:IntKind.i64.wrap ((i:Int)-(j:Int))=((i-j:Nat):Int):=by rw[IntWalk.i64_in _ ⟨by omega,by omega⟩];omega
    have aa:=zjv B G cap N (m-i) m j f d' wr hN (by omega) (by omega) S.out.here;have hr:=zve (d:=d') (m:=m) (by omega:i<=m) ac;rw[oF.out] at hr;have Hr:=qd hr;have ab:=qd aa;clear aa hr;go_wp2_with fail;refine ab.out.mono ?_;rintro e w1 ⟨rfl,S1⟩;have HS:=qd (S.out.from S1);clear ab S S1;go_wp2_with fail
    go_roundg (i-j+j)
    case measure=>omega
    case rel=>exact⟨i-j,j,_,by omega,Kx,by omega,hj,qr _,rfl,rfl,Hr,HS⟩
   ·have fA:¬(j:Int)<(i:Int):=by omega
    have ew2:IntKind.i64.wrap ((m:Int)+(j:Int))=(m:Int)+(j:Int):=IntWalk.i64_in _ ⟨by omega,by omega⟩;have ew3:IntKind.i64.wrap ((j:Int)-(i:Int))=((j-i:Nat):Int):=by rw[IntWalk.i64_in _ ⟨by omega,by omega⟩];omega
    have ew4:IntKind.i64.wrap ((m:Int)+(j:Int)-(i:Int))=((m+j-i:Nat):Int):=by rw[IntWalk.i64_in _ ⟨by omega,by omega⟩];omega
    have aa:=zjv B G cap N (m-i) (m+j-i) i f d' wr hN (by omega) (by omega) S.out.here;have hr:=zvf (d:=d') (m:=m) (by omega:i<=m) (by omega:i<j);rw[oF.out] at hr;have Hr:=qd hr;have ab:=qd aa;clear aa hr;go_wp2_with fail;refine ab.out.mono ?_;rintro e w1 ⟨rfl,S1⟩;have HS:=qd (S.out.from S1);clear ab S S1;go_wp2_with fail
    go_roundg (i+(j-i))
    case measure=>omega
    case rel=>exact⟨i,j-i,_,Kw,by omega,hi,by omega,qr _,rfl,rfl,Hr,HS⟩
end
section
open Go.RowKit Game Stb
open Go.Sort (grow SWO)
theorem zvh(w:World)(a b:Obj)(q:Nat):((w.alloc a).alloc b).drewN q=grow (w.drewN q) #[a,b]:=by
 have e1:((w.alloc a).alloc b).drewN q=((w.drewN q).alloc a).alloc b:=rfl;rw[e1,Sort.alloc_eq_grow,Sort.alloc_eq_grow,Sort.grow_grow];rfl
def cfW(x y:zaH):Int:=zbc x.xs y.xs
theorem zIJ(x y:zaH)(G:Nat)(w:World)(hx:Rd w G x)(hy:Rd w G y):
 Calls Tryz.prog 82 #[.agg #[x.v1,x.v2],.agg #[y.v1,y.v2]] w fun e w'=>e= .returned (.int .i64 (cfW x y))/\∃q os',w'=grow (w.drewN q) os':=by
 obtain⟨xg,xo,xn,xc,xs,xt⟩:=x;obtain⟨yg,yo,yn,yc,ys,yt⟩:=y;obtain⟨-,kE,fY,-,uk,fh⟩:=hx;obtain⟨-,NW,lV,-,Ry,gS⟩:=hy;show Calls _ _ #[.agg #[(qS (some ⟨xg,xo,none⟩) xn xc),.int .i64 xt],.agg #[(qS (some ⟨yg,yo,none⟩) yn yc),.int .i64 yt]] _ _;have ec:cfW ⟨xg,xo,xn,xc,xs,xt⟩ ⟨yg,yo,yn,yc,ys,yt⟩=zbc xs ys:=rfl;rw[ec];dsimp only at kE fY uk fh NW lV Ry gS;have ad:Below w.heap.size w ((w.alloc (.cells #[(qS (some ⟨xg,xo,none⟩) xn xc),.int .i64 xt] 36)).alloc (.cells #[(qS (some ⟨yg,yo,none⟩) yn yc),.int .i64 yt] 36)):=zgu;have aa:=zfY xg xo xn xc yg yo yn yc xs ys _ fY lV (by omega) (fh.below ad kE) (gS.below ad NW);have ab:=qd aa;generalize zbc xs ys=z at*;clear aa ad fh gS ec
 go_enter Tryz.func82,Tryz.ntmps82
 go_wp2_with fail;refine ab.out.mono ?_;rintro e w1 ⟨rfl,q,rfl⟩;go_wp2_with fail;go_ret;exact⟨rfl,q,_,zvh _ _ _ _⟩
section
variable {α:Type} {lt:α->α->Bool}
structure Ins(lt:α->α->Bool)(d:Nat->α)(a j i:Nat):Prop where
 rest:∀p q,a<=p->p<q->q<=i->p≠j->q≠j->lt (d q) (d p)=false
 up:∀q,j<q->q<=i->lt (d q) (d j)=false
theorem Ins.start{d:Nat->α}{a i:Nat}(h:Srt lt d a i):Ins lt d a i i:=⟨fun p q h1 h2 h3 _ h5=>h p q h1 h2 (by omega),fun q h1 h2=>by omega⟩
theorem Ins.stop(hO:SWO lt){d:Nat->α}{a j i:Nat}(h:Ins lt d a j i)(hs:j<=a∨lt (d j) (d (j-1))=false):Srt lt d a (i+1):=fun p q h1 h2 h3=>by
 by_cases e1:p=j
 ·subst e1;exact h.up q h2 (by omega)
 ·by_cases e2:q=j
  ·subst e2;have tR:lt (d q) (d (q-1))=false:=by rcases hs with hs|hs;omega;exact hs
   by_cases e3:p=q-1
   ·rw[e3];exact tR
   ·exact hO.ntrans _ _ _ tR (h.rest p (q-1) h1 (by omega) (by omega) e1 (by omega))
  ·exact h.rest p q h1 h2 (by omega) e1 e2
theorem zKI(d:Nat->α){i j:Nat}:swp d i j j=d i:=by unfold swp;rw[if_pos rfl]
theorem zyC(d:Nat->α){i j:Nat}(h:i≠j):swp d i j i=d j:=by unfold swp;rw[if_neg h,if_pos rfl]
theorem zqJ(d:Nat->α){i j k:Nat}(h1:k≠j)(h2:k≠i):swp d i j k=d k:=by unfold swp;rw[if_neg h1,if_neg h2]
theorem Ins.go(hO:SWO lt){d:Nat->α}{a j i:Nat}(h:Ins lt d a (j+1) i)(_ha:a<=j)(hj:j+1<=i)(hl:lt (d (j+1)) (d j)=true):Ins lt (swp d (j+1) j) a j i:=by
 refine⟨fun p q h1 h2 h3 h4 h5=>?_,fun q h1 h2=>?_⟩
 ·by_cases e1:p=j+1
  ·subst e1;rw[zyC d (by omega),zqJ d (by omega) (by omega)];exact h.rest j q (by omega) (by omega) h3 (by omega) (by omega)
  ·by_cases e2:q=j+1
   ·subst e2;rw[zyC d (by omega),zqJ d (by omega) (by omega)];exact h.rest p j h1 (by omega) (by omega) (by omega) (by omega)
   ·rw[zqJ d (by omega) (by omega),zqJ d (by omega) (by omega)];exact h.rest p q h1 h2 h3 (by omega) (by omega)
 ·rw[zKI];by_cases e1:q=j+1
  ·subst e1;rw[zyC d (by omega)];exact zth hO hl
  ·rw[zqJ d (by omega) (by omega)];exact h.up q (by omega) h2
theorem Srt.sub{d:Nat->α}{a b a' b':Nat}(h:Srt lt d a b)(h1:a<=a')(h2:b'<=b):Srt lt d a' b':=fun i j e1 e2 e3=>h i j (by omega) e2 (by omega)
end
def ltW:zaH->zaH->Bool:=ltOf cfW
theorem zrs:SWO ltW:=⟨fun x=>zhJ.irrefl x.xs,fun x y z h1 h2=>zhJ.trans x.xs y.xs z.xs h1 h2,fun x y z h1 h2=>zhJ.ntrans x.xs y.xs z.xs h1 h2⟩
theorem zoT{w:World}(n:Nat)(os:Array Obj):Below w.heap.size w (grow (w.drewN n) os):=
 ⟨rfl,rfl,rfl,by rw[Go.Sort.size_grow];exact Nat.le_add_right _ _,fun k hk=>Go.Sort.heap_grow_old _ _ (by exact hk)⟩
theorem SSt.cls{w W:World}{B G cap N:Nat}{d:Nat->zaH}(h:SSt w W B G cap N d)(n:Nat)(os:Array Obj):SSt w (grow (W.drewN n) os) B G cap N d:=h.step (zoT n os)
theorem SSt.cellsC{w W:World}{B G cap N:Nat}{d:Nat->zaH}(h:SSt w W B G cap N d){k:Nat}(hk:k<N)(n:Nat)(os:Array Obj):
 (grow (W.drewN n) os).cell? ⟨G,k*2,none⟩=some (d k).v1/\(grow (W.drewN n) os).cell? ⟨G,k*2+1,none⟩=some (d k).v2:=(h.cls n os).cells hk
theorem SSt.cmpC{w W:World}{B G cap N:Nat}{d:Nat->zaH}(h:SSt w W B G cap N d){i j:Nat}(hi:i<N)(hj:j<N)(n:Nat)(os:Array Obj):
 Calls Tryz.prog 82 #[.agg #[(d i).v1,(d i).v2],.agg #[(d j).v1,(d j).v2]] (grow (W.drewN n) os) fun e w'=>e= .returned (.int .i64 (cfW (d i) (d j)))/\∃q os',w'=grow ((grow (W.drewN n) os).drewN q) os':=
 zIJ (d i) (d j) G _ ((h.cls n os).rd i hi) ((h.cls n os).rd j hj)
theorem znz(B G cap N a b:Nat)(d:Nat->zaH)(w:World)(hN:N<=1048576)(eC:a<=b)(hb:b<=N)(S:SSt w w B G cap N d):
 Calls Tryz.prog 173 #[(qS (some ⟨G,0,none⟩) N cap),.int .i64 a,.int .i64 b,.func (.func 82) #[] #[]] w fun e w'=>e= .returned (.tuple #[])/\∃d',SSt w w' B G cap N d'/\Srt ltW d' a b/\Res N a b d d':=by
 have S0:=qd S;clear S
 go_enter Tryz.func173,Tryz.ntmps173
 have ea:IntKind.i64.wrap ((a:Int)+1)=((a+1:Nat):Int):=by rw[IntWalk.i64_in _ ⟨by omega,by omega⟩];omega
 go_wp2_with fail;go_loopg [8] (b-a) (fun g1 vi wr=>∃(i:Nat) (d':Nat->zaH),vi= .int .i64 i/\a<i/\i<=b+1/\b+1-i<=g1+1/\Hid (SSt w wr B G cap N d')/\Hid (Srt ltW d' a i)/\Hid (Res N a b d d'))
 case atStart=>exact⟨a+1,d,by go_num,by omega,by omega,by omega,S0,qd (fun i j h1 h2 h3=>by omega),qd (Res.refl d)⟩
 case round=>
  clear S0 ea;obtain⟨i,d',rfl,xL,Rz,bm,S,is,dT⟩:=hrel;by_cases ac:i<b
  ·have fA:(i:Int)<(b:Int):=by omega
   go_wp2_with fail;go_loopg [9] i (fun g2 vj wr2=>∃(j:Nat) (d2:Nat->zaH),vj= .int .i64 j/\a<=j/\j<=i/\j<=g2/\Hid (SSt w wr2 B G cap N d2)/\Hid (Ins ltW d2 a j i)/\Hid (Res N a b d d2))
   case atStart=>exact⟨i,d',rfl,by omega,qr _,qr _,S,qd (Ins.start is.out),dT⟩
   case round=>
    clear S is dT d';obtain⟨j,d2,rfl,RA,vF,aP,S,iC,dT⟩:=hrel;by_cases Gu:a<j
    ·have zP:(a:Int)<(j:Int):=by omega
     obtain⟨jp,rfl⟩:∃jp,j=jp+1:=⟨j-1,by omega⟩;have hp:jp+1<N:=by omega
     have hq:jp<N:=by omega
     have c1:=fun n os=>(S.out.cellsC hp n os).1
     have c2:=fun n os=>(S.out.cellsC hp n os).2
     have c3:=fun n os=>(S.out.cellsC hq n os).1
     have c4:=fun n os=>(S.out.cellsC hq n os).2
     have Ub:=S.out.cmpC hp hq;have CLS:=qd S.out.cls;have LT:=qd (show ltW (d2 (jp+1)) (d2 jp)=decide (cfW (d2 (jp+1)) (d2 jp)<0) from rfl);have v1:∀x:zaH,x.v1=(qS (some ⟨x.g,x.o,none⟩) x.n x.c):=fun _=>rfl
     have v2:∀x:zaH,x.v2= .int .i64 x.ct:=fun _=>rfl
     simp only[v1,v2] at c1 c2 c3 c4 Ub;generalize cfW (d2 (jp+1)) (d2 jp)=z at*;obtain⟨x,hx⟩:∃x,d2 (jp+1)=x:=⟨_,rfl⟩;obtain⟨y,hy⟩:∃y,d2 jp=y:=⟨_,rfl⟩;rw[hx] at c1 c2;rw[hy] at c3 c4;rw[hx,hy] at Ub;have HX:=qd hx;have HY:=qd hy;clear hx hy;have RB:IntKind.i64.wrap (jp:Int)=(jp:Int):=IntWalk.i64_in _ ⟨by omega,by omega⟩;have jz:(jp:Int)+1<(N:Int):=by omega
     have jz1:(jp:Int)<(N:Int):=by omega
     have sQ:(a:Int)<(jp:Int)+1:=by omega
     have p0:(0:Int)<=(jp:Int)+1:=by omega
     have e0:((jp:Int)+1).toNat=jp+1:=by omega
     clear v1 v2;have mixed:Tryz.prog.follows .mixedOrders=true:=by kernel_rfl
     by_cases fB:z<0
     ·go_wp2_with fail
      go_quiet_grown (exact Calls.grown_of (Ub _ _))
      go_wp2_with fail;clear c1 c2 c3 c4 Ub;have S2:=CLS.out nq osq;generalize grow (_:World) osq=wq at S2 ⊢;obtain⟨f1,f2,k3,k4⟩:=S2.swapF hp hq (by omega) (d2 jp);obtain⟨c1,c2⟩:=S2.cells hp;obtain⟨c3,c4⟩:=S2.cells hq;have HS:=qd (S2.swap hp hq).drew;have HI:=qd (Ins.go zrs (show Ins ltW d2 a (jp+1) i from iC.out) (by omega) vF (by rw[LT.out];exact decide_eq_true fB));have HR:=qd ((show Res N a b d d2 from dT.out).trans (Res.swp d2 hb (i:=jp+1) (j:=jp) ⟨by omega,by omega⟩ ⟨by omega,by omega⟩));unfold swW at HS;have v1:∀x:zaH,x.v1=(qS (some ⟨x.g,x.o,none⟩) x.n x.c):=fun _=>rfl
      have v2:∀x:zaH,x.v2= .int .i64 x.ct:=fun _=>rfl
      rw[HX.out,HY.out] at HS;rw[HX.out] at c1 c2;rw[HY.out] at c3 c4 f2 k3 k4;simp only[v1,v2] at c1 c2 c3 c4 f2 k3 k4 HS;clear v1 v2 S2 CLS LT HX HY iC dT;have g1:=f1 ((jp+1)*2);have g2:=f1 ((jp+1)*2+1);have g3:=f2 (jp*2);have g4:=f2 (jp*2+1);clear f1 f2
      go_region
      go_wp2_with fail
      go_roundg jp
      case measure=>omega
      case rel=>exact⟨jp,_,by go_num,by omega,by omega,qr _,HS,HI,HR⟩
     ·have sR:ltW (d2 (jp+1)) (d2 jp)=false:=by rw[LT.out];exact decide_eq_false fB
      have HI:=qd (Ins.stop zrs (show Ins ltW d2 a (jp+1) i from iC.out) (.inr sR));clear sR LT HX HY iC;go_wp2_with fail
      go_quiet_grown (exact Calls.grown_of (Ub _ _))
      have HS:=qd (CLS.out nq osq);clear c1 c2 c3 c4 Ub CLS;go_wp2_with fail
      go_roundg (b-(i+1))
      case measure=>omega
      case rel=>exact⟨i+1,d2,by go_num,by omega,by omega,by omega,HS,HI,dT⟩
    ·have mixed:Tryz.prog.follows .mixedOrders=true:=by kernel_rfl
     have zP:decide ((j:Int)>(a:Int))=false:=decide_eq_false (by omega);have sQ:¬(a:Int)<(j:Int):=by omega
     have HS:=qd S.out.drew;have HI:=qd (Ins.stop zrs (show Ins ltW d2 a j i from iC.out) (.inl (by omega)));clear S iC;go_wp2_with fail
     go_big_region_o
     all_goals go_wp2_with fail
     go_roundg (b-(i+1))
     case measure=>omega
     case rel=>exact⟨i+1,d2,by go_num,by omega,by omega,by omega,HS,HI,dT⟩
  ·have fA:¬(i:Int)<(b:Int):=by omega
   go_wp2_with fail
   go_end0
   exact⟨rfl,d',S.out,Srt.sub (show Srt ltW d' a i from is.out) (qr _) (by omega),dT.out⟩
end
section
open Game
def zbO(l:List Wt)(v:LI):Int:=(l.map fun x=>if x.1=v then x.2 else 0).sum
theorem zaR(x:Wt)(l:List Wt)(v:LI):zbO (x::l) v=(if x.1=v then x.2 else 0)+zbO l v:=by simp[zbO]
theorem zlJ(l m:List Wt)(v:LI):zbO (l++m) v=zbO l v+zbO m v:=by simp[zbO]
theorem zev{l:List Wt}{v:LI}(h:∀y∈l,y.1≠v):zbO l v=0:=by
 induction l with
 |nil=>rfl
 |cons x l ih=>
  rw[zaR,if_neg (h x (by simp)),ih fun y hy=>h y (by simp[hy])];rfl
theorem zBb{l m:List Wt}(h:l.Perm m)(v:LI):zbO l v=zbO m v:=by
 induction h with
 |nil=>rfl
 |cons x _ ih=>rw[zaR,zaR,ih]
 |swap x y l=>rw[zaR,zaR,zaR,zaR];omega
 |trans _ _ h1 h2=>exact h1.trans h2
def Desc(l:List Wt):Prop:=l.Pairwise fun x y=>zbc x.1 y.1<0
theorem zdx{u v:LI}(h:zbc u v<0):v≠u:=by
 rintro rfl;unfold zbc at h;rw[zlZ] at h;omega
theorem zpz(u v:LI):zbc u v<0∨u=v∨zbc v u<0:=by
 unfold zbc;have:=zcB u v
 rcases Int.lt_trichotomy (zaM v u) 0 with h|h|h
 ·exact .inl h
 ·exact .inr (.inl (zeh h).symm)
 ·exact .inr (.inr (by omega))
theorem zhk{u v x:LI}(h1:zbc u v<0)(h2:zbc v x<0):zbc u x<0:=by
 unfold zbc at*;exact zeK _ _ _ h2 h1
theorem zvi:∀{a b:List Wt},Desc a->Desc b->(∀x∈a,x.2≠0)->(∀x∈b,x.2≠0)->(∀v,zbO a v=zbO b v)->a=b
 |[],[],_,_,_,_,_=>rfl
 |[],y::ys,_,hb,_,nb,hc=>by
  have h:=hc y.1;rw[zaR,if_pos rfl,zev fun z hz=>zdx ((List.pairwise_cons.1 hb).1 z hz)] at h;exact absurd (show y.2=0 by simp[zbO] at h;omega) (nb y (by simp))
 |x::xs,[],ha,_,na,_,hc=>by
  have h:=hc x.1;rw[zaR,if_pos rfl,zev fun z hz=>zdx ((List.pairwise_cons.1 ha).1 z hz)] at h;exact absurd (show x.2=0 by simp[zbO] at h;omega) (na x (by simp))
 |x::xs,y::ys,ha,hb,na,nb,hc=>by
  have pD:=(List.pairwise_cons.1 ha).1;have ad:=(List.pairwise_cons.1 hb).1
  rcases zpz x.1 y.1 with h|h|h
  ·have e:=hc x.1
   rw[zaR,if_pos rfl,zev fun z hz=>zdx (pD z hz),zev (l:=y::ys) fun z hz=>by
    rcases List.mem_cons.1 hz with rfl|hz
    ·exact zdx h
    ·exact zdx (zhk h (ad z hz))] at e
   exact absurd (by omega) (na x (by simp))
  ·have e:=hc x.1;rw[zaR,if_pos rfl,zev fun z hz=>zdx (pD z hz),zaR,if_pos h.symm,h,zev fun z hz=>zdx (ad z hz)] at e;have exy:x=y:=Prod.ext h (by omega);subst exy
   have ht:=zvi (List.pairwise_cons.1 ha).2 (List.pairwise_cons.1 hb).2 (fun z hz=>na z (by simp[hz])) (fun z hz=>nb z (by simp[hz])) fun v=>by
    have:=hc v;rw[zaR,zaR] at this;omega
   rw[ht]
  ·have e:=hc y.1
   rw[zaR (x:=y),if_pos rfl,zev (l:=ys) fun z hz=>zdx (ad z hz),zev (l:=x::xs) fun z hz=>by
    rcases List.mem_cons.1 hz with rfl|hz
    ·exact zdx h
    ·exact zdx (zhk h (pD z hz))] at e
   exact absurd (by omega) (nb y (by simp))
def zLk:List Wt->LI->Int->List Wt
 |[],v,n=>if n=0 then[] else[(v,n)]
 |x::xs,v,n=>if x.1=v then(if x.2+n=0 then xs else(x.1,x.2+n)::xs) else if zbc v x.1<0 then(if n=0 then x::xs else(v,n)::x::xs) else x::zLk xs v n
theorem zIK(v:LI)(n:Int)(u:LI):∀l:List Wt,zbO (zLk l v n) u=zbO l u+if v=u then n else 0
 |[]=>by
  unfold zLk
  split
  ·rename_i h;simp[zbO,h]
  ·simp[zbO]
 |x::xs=>by
  unfold zLk
  split
  ·rename_i h
   split
   ·rename_i h2
    rw[zaR,h]
    split <;> omega
   ·rw[zaR,zaR,h]
    split <;> omega
  ·split
   ·split
    ·rename_i h;simp[h]
    ·rw[zaR];show(if v=u then n else 0)+_=_;omega
   ·rw[zaR,zaR,zIK v n u xs];omega
theorem zlK(v:LI):∀l:List Wt,zbO (l.filter fun x=>!(x.2==0)) v=zbO l v
 |[]=>rfl
 |x::l=>by
  rw[List.filter_cons,zaR]
  split
  ·rw[zaR,zlK v l]
  ·rename_i h
   have h0:x.2=0:=by simpa using h
   rw[zlK v l,h0]
   split <;> omega
end
end Go.Proofs.YtlgcmaoimpgedaaGreatDoor

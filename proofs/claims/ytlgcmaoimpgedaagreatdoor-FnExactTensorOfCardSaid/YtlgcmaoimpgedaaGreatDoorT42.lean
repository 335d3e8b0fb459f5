/- Stu Suti Stn Suh Su1 Su2 Su3 -/
import Derived.Test.YtlgcmaoimpgedaaGreatDoorT40
import Derived.Lib.QuietBelow
import Derived.Deep.CutRange
set_option maxHeartbeats 4000000
set_option maxRecDepth 100000
set_option linter.unusedSimpArgs false
namespace Go.Proofs.YtlgcmaoimpgedaaGreatDoor
open Go.Value renaming slice->qS
section
open Go.RowKit Game Stb
open Go.Sort (grow SWO)
theorem zIM{N:Nat}(d:Nat->RowRef)(i j:Nat):(((lst N d).map zah).set i (zah (d j))).set j (zah (d i))=(lst N (swp d i j)).map zah:=by
 apply List.ext_getElem (by simp[lst]);intro t h1 h2;simp only[List.getElem_set,lst,List.getElem_map,List.getElem_range];unfold swp;by_cases e1:j=t
 ·subst e1;rw[if_pos rfl,if_pos rfl]
 ·rw[if_neg e1];by_cases e2:i=t
  ·subst e2;rw[if_pos rfl,if_neg (fun e=>e1 e.symm),if_pos rfl]
  ·rw[if_neg e2,if_neg (fun e=>e1 e.symm),if_neg (fun e=>e2 e.symm)]
structure TE where
 ok:LI->Prop
 cf:RowRef->RowRef->Int
 bc:Nat
 bv:Nat
def zrv(E:TE)(w:World)(G:Nat):Prop:=
 ∀(x y:RowRef) (W:World),w.grownBy W (some G)->E.ok x.2.2->E.ok y.2.2->Own W 0 x.1 x.2.1 x.2.2->Own W 0 y.1 y.2.1 y.2.2->
  Calls Tryz.prog 124 #[zah x,zah y,.pointer (some ⟨E.bc,0,none⟩),.pointer (some ⟨E.bv,0,none⟩)] W fun e w'=>e= .returned (.int .i64 (E.cf x y))/\Below W.heap.size W w'
theorem zrv.grown{E:TE}{w w':World}{G:Nat}(h:zrv E w G)(hg:w.grownBy w' (some G)):zrv E w' G:=fun x y W h1=>h x y W (World.grownBy.trans' hg h1)
structure TSt(E:TE)(w W:World)(B G cap N:Nat)(d:Nat->RowRef):Prop where
 own:zaI W B 25 G cap ((lst N d).map zah)
 inn:zcS W B (lst N d)
 grown:w.grownBy W (some G)
 ok:∀r∈lst N d,E.ok r.2.2
 cmp:zrv E w G
section
variable {E:TE} {w W W':World} {B G cap N:Nat} {d d':Nat->RowRef}
theorem zoh{N:Nat}{d:Nat->RowRef}{k:Nat}(hk:k<N):d k∈lst N d:=List.mem_map.2 ⟨k,List.mem_range.2 hk,rfl⟩
theorem TSt.rows(h:TSt E w W B G cap N d):zab W B G cap (lst N d):=⟨h.own,h.inn⟩
theorem TSt.row(h:TSt E w W B G cap N d){k:Nat}(hk:k<N):Own W B (d k).1 (d k).2.1 (d k).2.2:=h.inn.1 _ (zoh hk)
theorem zBg{W:World}{B:Nat}(h:zcS W B (lst N d)){i j:Nat}(hi:i<N)(hj:j<N):zcS W B (lst N (swp d i j)):=by
 have hp:=zpy d hi hj;exact⟨fun r hr=>h.1 r (hp.mem_iff.1 hr),(hp.map _).nodup_iff.2 h.2⟩
theorem TSt.step(h:TSt E w W B G cap N d)(hb:Below W.heap.size W W'):TSt E w W' B G cap N d:=by
 have hg:W.grownBy W' (some G):=⟨hb.os,hb.tape,hb.output,hb.size,fun k hk _=>hb.block k hk⟩;exact⟨h.own.below hb h.own.lt,h.inn.below hb,World.grownBy.trans' h.grown hg,h.ok,h.cmp⟩
theorem TSt.drew(h:TSt E w W B G cap N d):TSt E w W.drew B G cap N d:=h.step (Below.drew (Below.refl _ _))
theorem TSt.cells(h:TSt E w W B G cap N d){k:Nat}(hk:k<N):W.cell? ⟨G,k,none⟩=some (zah (d k)):=by
 rw[h.own.cell k (by simpa [lst] using hk)];simp[lst]
def swT(W:World)(G i j:Nat)(x y:RowRef):World:=(W.setCell ⟨G,i,none⟩ (zah y)).setCell ⟨G,j,none⟩ (zah x)
theorem TSt.swap(h:TSt E w W B G cap N d){i j:Nat}(hi:i<N)(hj:j<N):TSt E w (swT W G i j (d i) (d j)) B G cap N (swp d i j):=by
 have o1:=h.own.set i (zah (d j));have o2:=o1.1.set j (zah (d i));have hg:W.grownBy (swT W G i j (d i) (d j)) (some G):=World.grownBy.trans' o1.2 o2.2;refine⟨?_,?_,World.grownBy.trans' h.grown hg,fun r hr=>h.ok r ((zpy d hi hj).mem_iff.1 hr),h.cmp⟩
 ·have:=o2.1;rw[zIM d i j] at this;exact this
 ·have vw:=zBg h.inn hi hj;exact⟨fun r hr=>(vw.1 r hr).grown hg (fun e=>(h.own.ne (vw.1 r hr).toV (by decide)) (Option.some.inj e).symm),vw.2⟩
theorem TSt.swapF(h:TSt E w W B G cap N d){i j:Nat}(_hi:i<N)(hj:j<N)(ao:i≠j)(y:RowRef):
 (∀t,W.frozen? ⟨G,t,none⟩=false)/\(∀t,(W.setCell ⟨G,i,none⟩ (zah y)).frozen? ⟨G,t,none⟩=false)/\
 (W.setCell ⟨G,i,none⟩ (zah y)).cell? ⟨G,j,none⟩=some (zah (d j)):=by
 have o1:=h.own.set i (zah y);refine⟨fun t=>h.own.frozen t,fun t=>o1.1.frozen t,?_⟩;rw[o1.1.cell j (by simpa [lst] using hj),List.getElem_set,if_neg (by omega)];simp[lst]
end
theorem zis(E:TE)(B G cap N a b n:Nat)(f:Value)(d:Nat->RowRef)(w:World)(hN:N<=1048576)(eC:a+n<=b)(hb:b+n<=N)(S:TSt E w w B G cap N d):
 Calls Tryz.prog 269 #[(qS (some ⟨G,0,none⟩) N cap),.int .i64 a,.int .i64 b,.int .i64 n,f] w fun e w'=>e= .returned (.tuple #[])/\TSt E w w' B G cap N (swR d a b n):=by
 have S0:=qd S;clear S
 go_enter Tryz.func269,Tryz.ntmps269
 go_wp2;go_loopw [10] (fun iv wr=>∃i:Nat,i<=n/\iv= .int .i64 i/\Hid (TSt E w wr B G cap N (swR d a b i))) (fun iv _=>n-(intOf iv).toNat)
 case atStart=>exact⟨0,qz _,rfl,by rw[zpw];exact S0.out⟩
 case round=>
  clear S0;obtain⟨i,hi,rfl,S⟩:=hrel;by_cases ac:i<n
  ·have hp:a+i<N:=by omega
   have hq:b+i<N:=by omega
   have c1:=S.out.cells hp;have c3:=S.out.cells hq;obtain⟨f1,f2,k3⟩:=S.out.swapF hp hq (by omega) (swR d a b i (b+i));have HS:=qd (S.out.swap hp hq).drew;rw[zpx (by omega)] at HS;unfold swT at HS;simp only[zah] at c1 c3 f2 k3 HS;generalize swR d a b i (a+i)=x at*;generalize swR d a b i (b+i)=y at*;obtain⟨xg,xc,xx⟩:=x;obtain⟨yg,yc,yx⟩:=y;have ew1:IntKind.i64.wrap ((a:Int)+(i:Int))=(a:Int)+(i:Int):=IntWalk.i64_in _ ⟨by omega,by omega⟩;have ew2:IntKind.i64.wrap ((b:Int)+(i:Int))=(b:Int)+(i:Int):=IntWalk.i64_in _ ⟨by omega,by omega⟩;have et1:((a:Int)+(i:Int)).toNat=a+i:=by omega
   have et2:((b:Int)+(i:Int)).toNat=b+i:=by omega
   have eb1:(0:Int)<=(a:Int)+(i:Int)/\(a:Int)+(i:Int)<(N:Int):=by omega
   have eb2:(0:Int)<=(b:Int)+(i:Int)/\(b:Int)+(i:Int)<(N:Int):=by omega
   obtain⟨eb1,eb1'⟩:=eb1;obtain⟨eb2,eb2'⟩:=eb2;have g1:=f1 (a+i);have g3:=f2 (b+i);clear S f1 f2;go_wp2_with fail
   go_region
   go_wp2_with fail;go_roundw
   case rel=>exact⟨i+1,by omega,by go_num,HS.out⟩
   case measure=>simp[intOf];omega
  ·obtain rfl:i=n:=by omega
   go_wp2_with fail
   go_end0
   exact⟨rfl,S.out⟩
theorem TSt.here{E:TE}{w W:World}{B G cap N:Nat}{d:Nat->RowRef}(h:TSt E w W B G cap N d):TSt E W W B G cap N d:=⟨h.own,h.inn,World.grownBy.refl _ _,h.ok,h.cmp.grown h.grown⟩
theorem TSt.from{E:TE}{w W W':World}{B G cap N:Nat}{d d':Nat->RowRef}(h:TSt E w W B G cap N d)(h':TSt E W W' B G cap N d'):TSt E w W' B G cap N d':=⟨h'.own,h'.inn,World.grownBy.trans' h.grown h'.grown,h'.ok,h.cmp⟩
theorem ziM(E:TE)(B G cap N a m b:Nat)(f:Value)(d:Nat->RowRef)(w:World)(hN:N<=1048576)(jc:a<m)(kt:m<b)(hb:b<=N)(S:TSt E w w B G cap N d):
 Calls Tryz.prog 237 #[(qS (some ⟨G,0,none⟩) N cap),.int .i64 a,.int .i64 m,.int .i64 b,f] w fun e w'=>e= .returned (.tuple #[])/\TSt E w w' B G cap N (rot d a m b):=by
 have S0:=qd S;clear S
 go_enter Tryz.func237,Tryz.ntmps237
 have em:(m:Int)-(a:Int)=((m-a:Nat):Int):=by omega
 have eb:(b:Int)-(m:Int)=((b-m:Nat):Int):=by omega
 have ew1:IntKind.i64.wrap ((m:Int)-(a:Int))=((m-a:Nat):Int):=by rw[IntWalk.i64_in _ ⟨by omega,by omega⟩,em]
 have ew2:IntKind.i64.wrap ((b:Int)-(m:Int))=((b-m:Nat):Int):=by rw[IntWalk.i64_in _ ⟨by omega,by omega⟩,eb]
 clear em eb;go_wp2_with fail;go_loopg [10,11] (m-a+(b-m)) (fun gk iv jv wr=>∃(i j:Nat) (d':Nat->RowRef),0<i/\0<j/\i<=m-a/\j<=b-m/\i+j<=gk/\iv= .int .i64 i/\jv= .int .i64 j/\Hid (rot d' (m-i) m (m+j)=rot d a m b)/\Hid (TSt E w wr B G cap N d'))
 case atStart=>exact⟨m-a,b-m,d,by omega,by omega,qr _,qr _,qr _,rfl,rfl,by rw[show m-(m-a)=a by omega,show m+(b-m)=b by omega];exact qd rfl,S0⟩
 case round=>
  clear S0 ew1 ew2;obtain⟨i,j,d',Kw,Kx,hi,hj,hg,rfl,rfl,oF,S⟩:=hrel;have ew1:IntKind.i64.wrap ((m:Int)-(i:Int))=((m-i:Nat):Int):=by rw[IntWalk.i64_in _ ⟨by omega,by omega⟩];omega
  by_cases iP:i=j
  ·subst iP;have aa:=zis E B G cap N (m-i) m i f d' wr hN (by omega) (by omega) S.out.here;rw[zvg (by omega),oF.out] at aa;have ab:=qd aa;clear aa;go_wp2_with fail;refine ab.out.mono ?_;rintro e w1 ⟨rfl,S1⟩;have HS:=qd (S.out.from S1);clear ab S S1;go_wp2_with fail
   go_end0
   exact⟨rfl,HS.out⟩
  ·have Ky:¬(i:Int)=(j:Int):=by omega
   by_cases ac:j<i
   ·have fA:(j:Int)<(i:Int):=by omega
    have ew3:IntKind.i64.wrap ((i:Int)-(j:Int))=((i-j:Nat):Int):=by rw[IntWalk.i64_in _ ⟨by omega,by omega⟩];omega
    have aa:=zis E B G cap N (m-i) m j f d' wr hN (by omega) (by omega) S.out.here;have hr:=zve (d:=d') (m:=m) (by omega:i<=m) ac;rw[oF.out] at hr;have Hr:=qd hr;have ab:=qd aa;clear aa hr;go_wp2_with fail;refine ab.out.mono ?_;rintro e w1 ⟨rfl,S1⟩;have HS:=qd (S.out.from S1);clear ab S S1;go_wp2_with fail
    go_roundg (i-j+j)
    case measure=>omega
    case rel=>exact⟨i-j,j,_,by omega,Kx,by omega,hj,qr _,rfl,rfl,Hr,HS⟩
   ·have fA:¬(j:Int)<(i:Int):=by omega
    have ew2:IntKind.i64.wrap ((m:Int)+(j:Int))=(m:Int)+(j:Int):=IntWalk.i64_in _ ⟨by omega,by omega⟩;have ew3:IntKind.i64.wrap ((j:Int)-(i:Int))=((j-i:Nat):Int):=by rw[IntWalk.i64_in _ ⟨by omega,by omega⟩];omega
    have ew4:IntKind.i64.wrap ((m:Int)+(j:Int)-(i:Int))=((m+j-i:Nat):Int):=by rw[IntWalk.i64_in _ ⟨by omega,by omega⟩];omega
    have aa:=zis E B G cap N (m-i) (m+j-i) i f d' wr hN (by omega) (by omega) S.out.here;have hr:=zvf (d:=d') (m:=m) (by omega:i<=m) (by omega:i<j);rw[oF.out] at hr;have Hr:=qd hr;have ab:=qd aa;clear aa hr;go_wp2_with fail;refine ab.out.mono ?_;rintro e w1 ⟨rfl,S1⟩;have HS:=qd (S.out.from S1);clear ab S S1;go_wp2_with fail
    go_roundg (i+(j-i))
    case measure=>omega
    case rel=>exact⟨i,j-i,_,Kw,by omega,hi,by omega,qr _,rfl,rfl,Hr,HS⟩
end
section
open Go.RowKit Game Stb
open Go.Sort (grow SWO)
section
variable {E:TE} {w W:World} {B G cap N:Nat} {d:Nat->RowRef}
theorem TSt.cls(h:TSt E w W B G cap N d)(n:Nat)(os:Array Obj):TSt E w (grow (redrawn W n) os) B G cap N d:=h.step (below_regrown W n os)
theorem TSt.cellsC(h:TSt E w W B G cap N d){k:Nat}(hk:k<N)(n:Nat)(os:Array Obj):(grow (redrawn W n) os).cell? ⟨G,k,none⟩=some (zah (d k)):=(h.cls n os).cells hk
theorem TSt.cmpC(h:TSt E w W B G cap N d){i j:Nat}(hi:i<N)(hj:j<N)(n:Nat)(os:Array Obj):
 Calls Tryz.prog 124 #[zah (d i),zah (d j),.pointer (some ⟨E.bc,0,none⟩),.pointer (some ⟨E.bv,0,none⟩)] (grow (redrawn W n) os) fun e w'=>e= .returned (.int .i64 (E.cf (d i) (d j)))/\Below (grow (redrawn W n) os).heap.size (grow (redrawn W n) os) w':=by
 have hc:=h.cls n os;exact hc.cmp (d i) (d j) _ hc.grown (hc.ok _ (zoh hi)) (hc.ok _ (zoh hj)) ((hc.row hi).mono (qz _)) ((hc.row hj).mono (qz _))
end
theorem zmk(E:TE)(B G cap N a b:Nat)(d:Nat->RowRef)(w:World)(ig:SWO (ltOf E.cf))(hN:N<=1048576)(eC:a<=b)(hb:b<=N)(S:TSt E w w B G cap N d):
 Calls Tryz.prog 201 #[(qS (some ⟨G,0,none⟩) N cap),.int .i64 a,.int .i64 b,.func (.func 124) #[] #[.pointer (some ⟨E.bc,0,none⟩),.pointer (some ⟨E.bv,0,none⟩)]] w fun e w'=>e= .returned (.tuple #[])/\∃d',TSt E w w' B G cap N d'/\Srt (ltOf E.cf) d' a b/\Res N a b d d':=by
 have S0:=qd S;clear S
 go_enter Tryz.func201,Tryz.ntmps201
 have ea:IntKind.i64.wrap ((a:Int)+1)=((a+1:Nat):Int):=by rw[IntWalk.i64_in _ ⟨by omega,by omega⟩];omega
 go_wp2_with fail;go_loopg [8] (b-a) (fun g1 vi wr=>∃(i:Nat) (d':Nat->RowRef),vi= .int .i64 i/\a<i/\i<=b+1/\b+1-i<=g1+1/\Hid (TSt E w wr B G cap N d')/\Hid (Srt (ltOf E.cf) d' a i)/\Hid (Res N a b d d'))
 case atStart=>exact⟨a+1,d,by go_num,by omega,by omega,by omega,S0,qd (fun i j h1 h2 h3=>by omega),qd (Res.refl d)⟩
 case round=>
  clear S0 ea;obtain⟨i,d',rfl,xL,Rz,bm,S,is,dT⟩:=hrel;by_cases ac:i<b
  ·have fA:(i:Int)<(b:Int):=by omega
   go_wp2_with fail;go_loopg [9] i (fun g2 vj wr2=>∃(j:Nat) (d2:Nat->RowRef),vj= .int .i64 j/\a<=j/\j<=i/\j<=g2/\Hid (TSt E w wr2 B G cap N d2)/\Hid (Ins (ltOf E.cf) d2 a j i)/\Hid (Res N a b d d2))
   case atStart=>exact⟨i,d',rfl,by omega,qr _,qr _,S,qd (Ins.start is.out),dT⟩
   case round=>
    clear S is dT d';obtain⟨j,d2,rfl,RA,vF,aP,S,iC,dT⟩:=hrel;by_cases Gu:a<j
    ·have zP:(a:Int)<(j:Int):=by omega
     obtain⟨jp,rfl⟩:∃jp,j=jp+1:=⟨j-1,by omega⟩;have hp:jp+1<N:=by omega
     have hq:jp<N:=by omega
     have c1:=S.out.cellsC hp;have c3:=S.out.cellsC hq;have Ub:=S.out.cmpC hp hq;have CLS:=qd S.out.cls;have LT:=qd (show(ltOf E.cf) (d2 (jp+1)) (d2 jp)=decide (E.cf (d2 (jp+1)) (d2 jp)<0) from rfl);simp only[zah] at c1 c3 Ub;generalize E.cf (d2 (jp+1)) (d2 jp)=z at*;obtain⟨x,hx⟩:∃x,d2 (jp+1)=x:=⟨_,rfl⟩;obtain⟨y,hy⟩:∃y,d2 jp=y:=⟨_,rfl⟩;rw[hx] at c1;rw[hy] at c3;rw[hx,hy] at Ub;have HX:=qd hx;have HY:=qd hy;clear hx hy;have RB:IntKind.i64.wrap (jp:Int)=(jp:Int):=IntWalk.i64_in _ ⟨by omega,by omega⟩;have jz:(jp:Int)+1<(N:Int):=by omega
     have jz1:(jp:Int)<(N:Int):=by omega
     have sQ:(a:Int)<(jp:Int)+1:=by omega
     have p0:(0:Int)<=(jp:Int)+1:=by omega
     have e0:((jp:Int)+1).toNat=jp+1:=by omega
     have mixed:Tryz.prog.follows .mixedOrders=true:=by kernel_rfl
     by_cases fB:z<0
     ·go_wp2_with fail;refine wp_region_quiet_below (by assumption) (by kernel_rfl) ?_
      repeat (quiet_step (exact Calls.regrown_of (Ub _ _)))
      refine wpQuiet_nil ?_;intro _ ic;obtain⟨⟨nq,osq⟩,gz⟩:=ic;subst gz;go_wp2_with fail;clear c1 c3 Ub;have S2:=CLS.out nq osq;generalize grow (_:World) osq=wq at S2 ⊢;obtain⟨f1,f2,k3⟩:=S2.swapF hp hq (by omega) (d2 jp);have c1:=S2.cells hp;have c3:=S2.cells hq;have HS:=qd (S2.swap hp hq).drew;have HI:=qd (Ins.go ig (show Ins (ltOf E.cf) d2 a (jp+1) i from iC.out) (by omega) vF (by rw[LT.out];exact decide_eq_true fB));have HR:=qd ((show Res N a b d d2 from dT.out).trans (Res.swp d2 hb (i:=jp+1) (j:=jp) ⟨by omega,by omega⟩ ⟨by omega,by omega⟩));unfold swT at HS;rw[HX.out,HY.out] at HS;rw[HX.out] at c1;rw[HY.out] at c3 f2 k3;simp only[zah] at c1 c3 f2 k3 HS;clear S2 CLS LT HX HY iC dT;have g1:=f1 (jp+1);have g3:=f2 jp;clear f1 f2
      go_region
      go_wp2_with fail
      go_roundg jp
      case measure=>omega
      case rel=>exact⟨jp,_,by go_num,by omega,by omega,qr _,HS,HI,HR⟩
     ·have sR:(ltOf E.cf) (d2 (jp+1)) (d2 jp)=false:=by rw[LT.out];exact decide_eq_false fB
      have HI:=qd (Ins.stop ig (show Ins (ltOf E.cf) d2 a (jp+1) i from iC.out) (.inr sR));clear sR LT HX HY iC;go_wp2_with fail;refine wp_region_quiet_below (by assumption) (by kernel_rfl) ?_
      repeat (quiet_step (exact Calls.regrown_of (Ub _ _)))
      refine wpQuiet_nil ?_;intro _ ic;obtain⟨⟨nq,osq⟩,gz⟩:=ic;subst gz;have HS:=qd (CLS.out nq osq);clear c1 c3 Ub CLS;go_wp2_with fail
      go_roundg (b-(i+1))
      case measure=>omega
      case rel=>exact⟨i+1,d2,by go_num,by omega,by omega,by omega,HS,HI,dT⟩
    ·have mixed:Tryz.prog.follows .mixedOrders=true:=by kernel_rfl
     have zP:decide ((j:Int)>(a:Int))=false:=decide_eq_false (by omega);have sQ:¬(a:Int)<(j:Int):=by omega
     have HS:=qd S.out.drew;have HI:=qd (Ins.stop ig (show Ins (ltOf E.cf) d2 a j i from iC.out) (.inl (by omega)));clear S iC;go_wp2_with fail
     go_big_region_o
     all_goals go_wp2_with fail
     go_roundg (b-(i+1))
     case measure=>omega
     case rel=>exact⟨i+1,d2,by go_num,by omega,by omega,by omega,HS,HI,dT⟩
  ·have fA:¬(i:Int)<(b:Int):=by omega
   go_wp2_with fail
   go_end0
   exact⟨rfl,d',S.out,Srt.sub (show Srt (ltOf E.cf) d' a i from is.out) (qr _) (by omega),dT.out⟩
end
section
open Go.Sort (SWO)
namespace Stb
variable {α:Type}
theorem zcF(d:Nat->α){s m e:Nat}(h1:s<=m)(h2:m<=e)(h:s=m∨m=e):rot d s m e=d:=by
 funext k;unfold rot
 split
 ·rename_i h3
  congr 1;omega
 ·split
  ·congr 1;omega
  ·rfl
theorem zGJ(d:Nat->α){a k:Nat}(_h:a<=k):swp (rot d a (a+1) (k+1)) k (k+1)=rot d a (a+1) (k+2):=by
 funext x;unfold swp rot;by_cases h1:x=k+1
 ·subst h1;rw[if_pos rfl,if_neg (by omega),if_pos (by omega),if_neg (by omega),if_pos (by omega)];congr 1;omega
 ·rw[if_neg h1];by_cases h2:x=k
  ·subst h2;rw[if_pos rfl,if_neg (by omega),if_neg (by omega),if_pos (by omega)];congr 1;omega
  ·rw[if_neg h2];by_cases h3:a<=x/\x<k
   ·rw[if_pos (by omega),if_pos (by omega)]
   ·rw[if_neg (by omega),if_neg (by omega),if_neg (by omega),if_neg (by omega)]
theorem zGK(d:Nat->α){m k:Nat}(_h:k+1<=m):swp (rot d (k+1) m (m+1)) (k+1) k=rot d k m (m+1):=by
 funext x;unfold swp rot;by_cases h1:x=k
 ·subst h1;rw[if_pos rfl,if_pos (by omega),if_pos (by omega)];congr 1;omega
 ·rw[if_neg h1];by_cases h2:x=k+1
  ·subst h2;rw[if_pos rfl,if_neg (by omega),if_neg (by omega),if_neg (by omega),if_pos (by omega)];congr 1;omega
  ·rw[if_neg h2];by_cases h3:k+2<=x/\x<m+1
   ·rw[if_neg (by omega),if_pos (by omega),if_neg (by omega),if_pos (by omega)];congr 1;omega
   ·rw[if_neg (by omega),if_neg (by omega),if_neg (by omega),if_neg (by omega)]
theorem Res.rotF{N:Nat}:∀(F i j:Nat) {m:Nat} (d:Nat->α),i+j<=F->i<=m->m+j<=N->Res N (m-i) (m+j) d (rot d (m-i) m (m+j))
 |0,i,j,m,d,h,_,_=>by
  rw[zcF d (by omega) (by omega) (.inl (by omega))];exact Res.refl d
 |F+1,i,j,m,d,h,hi,hN=>by
  by_cases e1:i=0∨j=0
  ·rw[zcF d (by omega) (by omega) (by omega)];exact Res.refl d
  ·by_cases e2:i=j
   ·subst e2;rw[<-zvg hi];exact Res.swR (by omega) (qr _) (by omega) (qr _)
   ·by_cases e3:j<i
    ·rw[<-zve hi e3];have r1:Res N (m-i) (m+j) d (Stb.swR d (m-i) m j):=Res.swR (by omega) (qr _) (by omega) (qr _);have r2:=Res.rotF (N:=N) F (i-j) j (m:=m) (Stb.swR d (m-i) m j) (by omega) (by omega) hN;exact r1.trans (r2.wide (by omega) (qr _))
    ·rw[<-zvf hi (by omega)];have r1:Res N (m-i) (m+j) d (Stb.swR d (m-i) (m+j-i) i):=Res.swR (by omega) (qr _) (by omega) (by omega);have r2:=Res.rotF (N:=N) F i (j-i) (m:=m) (Stb.swR d (m-i) (m+j-i) i) (by omega) hi (by omega);exact r1.trans (r2.wide (qr _) (by omega))
theorem Res.rot{N s m e:Nat}(d:Nat->α)(h1:s<=m)(h2:m<=e)(h3:e<=N):Res N s e d (rot d s m e):=by
 have:=Res.rotF (N:=N) (m-s+(e-m)) (m-s) (e-m) (m:=m) d (qr _) (by omega) (by omega)
 rwa [show m-(m-s)=s by omega,show m+(e-m)=e by omega] at this
section
variable {lt:α->α->Bool}
theorem zvr(hO:SWO lt){N:Nat}{d:Nat->α}{a b i:Nat}(hr:Srt lt d (a+1) b)(h1:a+1<=i)(h2:i<=b)(h3:b<=N)(pE:i=a+1∨lt (d (i-1)) (d a)=true)(Kz:i=b∨lt (d i) (d a)=false):
 Srt lt (Stb.rot d a (a+1) i) a b/\Res N a b d (Stb.rot d a (a+1) i):=by
 refine⟨fun p q e1 e2 e3=>?_,(Res.rot d (by omega) h1 (by omega)).wide (qr _) h2⟩;have vl:∀x,a<=x->x<i-1->Stb.rot d a (a+1) i x=d (x+1):=fun x f1 f2=>by unfold Stb.rot;rw[if_pos (by omega)];congr 1;omega
 have vm:Stb.rot d a (a+1) i (i-1)=d a:=by unfold Stb.rot;rw[if_neg (by omega),if_pos (by omega)];congr 1;omega
 have vr:∀x,i<=x->Stb.rot d a (a+1) i x=d x:=fun x f1=>by unfold Stb.rot;rw[if_neg (by omega),if_neg (by omega)]
 by_cases c1:p<i-1
 ·rw[vl p e1 c1];by_cases c2:q<i-1
  ·rw[vl q (by omega) c2];exact hr _ _ (by omega) (by omega) (by omega)
  ·by_cases c3:q=i-1
   ·rw[c3,vm];have hl:lt (d (i-1)) (d a)=true:=by rcases pE with h|h;omega;exact h
    exact zth hO (zGI hO (hr.le hO (i:=p+1) (j:=i-1) (by omega) (by omega) (by omega)) hl)
   ·rw[vr q (by omega)];exact hr _ _ (by omega) (by omega) (by omega)
 ·by_cases c2:p=i-1
  ·rw[c2,vm,vr q (by omega)];have hl:lt (d i) (d a)=false:=by rcases Kz with h|h;omega;exact h
   exact hO.ntrans _ _ _ (hr.le hO (i:=i) (j:=q) (by omega) (by omega) (by omega)) hl
  ·rw[vr p (by omega),vr q (by omega)];exact hr _ _ (by omega) (by omega) (by omega)
theorem zsn(hO:SWO lt){N:Nat}{d:Nat->α}{a m i:Nat}(hr:Srt lt d a m)(h1:a<=i)(h2:i<=m)(h3:m+1<=N)(pE:i=a∨lt (d m) (d (i-1))=false)(Kz:i=m∨lt (d m) (d i)=true):
 Srt lt (Stb.rot d i m (m+1)) a (m+1)/\Res N a (m+1) d (Stb.rot d i m (m+1)):=by
 refine⟨fun p q e1 e2 e3=>?_,(Res.rot d h2 (by omega) h3).wide h1 (qr _)⟩;have vl:∀x,x<i->Stb.rot d i m (m+1) x=d x:=fun x f1=>by unfold Stb.rot;rw[if_neg (by omega),if_neg (by omega)]
 have vm:Stb.rot d i m (m+1) i=d m:=by unfold Stb.rot;rw[if_pos (by omega)];congr 1;omega
 have vr:∀x,i<x->x<m+1->Stb.rot d i m (m+1) x=d (x-1):=fun x f1 f2=>by unfold Stb.rot;rw[if_neg (by omega),if_pos (by omega)];congr 1;omega
 by_cases c1:p<i
 ·rw[vl p c1];by_cases c2:q<i
  ·rw[vl q c2];exact hr _ _ e1 e2 (by omega)
  ·by_cases c3:q=i
   ·rw[c3,vm];have hl:lt (d m) (d (i-1))=false:=by rcases pE with h|h;omega;exact h
    exact hO.ntrans _ _ _ hl (hr.le hO (i:=p) (j:=i-1) e1 (by omega) (by omega))
   ·rw[vr q (by omega) e3];exact hr _ _ e1 (by omega) (by omega)
 ·by_cases c2:p=i
  ·rw[c2,vm,vr q (by omega) e3];have hl:lt (d m) (d i)=true:=by rcases Kz with h|h;omega;exact h
   exact zth hO (zGH hO hl (hr.le hO (i:=i) (j:=q-1) h1 (by omega) (by omega)))
  ·rw[vr p (by omega) (by omega),vr q (by omega) e3];exact hr _ _ (by omega) (by omega) (by omega)
structure Sea(lt:α->α->Bool)(d:Nat->α)(p s0 r0 s r:Nat):Prop where
 lo:s=s0∨lt (d (p-(s-1))) (d (s-1))=false
 hi:r=r0∨lt (d (p-r)) (d r)=true
def zfq(a m b:Nat):Nat:=if(a+b) / 2<m then(a+b) / 2+m-b else a
def zfQ(a m b:Nat):Nat:=if(a+b) / 2<m then(a+b) / 2 else m
theorem zpC{a m b:Nat}(h1:a<m)(h2:m<b):a<=zfq a m b/\zfq a m b<=zfQ a m b/\zfQ a m b<=m/\zfQ a m b<=(a+b) / 2/\(a+b) / 2+m-b<=zfq a m b/\(a+b) / 2+m<=b+zfq a m b:=by
 unfold zfq zfQ
 split <;> omega
theorem Sea.split{d:Nat->α}{a m b s:Nat}(h1:a<m)(h2:m<b)(hs:zfq a m b<=s)(hr:s<=zfQ a m b)(h:Sea lt d ((a+b) / 2+m-1) (zfq a m b) (zfQ a m b) s s):
 zhj lt d a m b s ((a+b) / 2+m-s):=by
 have hf:=zpC h1 h2;obtain⟨lo,hi⟩:=h;refine⟨by omega,by omega,fun e1 e2=>?_,fun e1 e2=>?_⟩
 ·rcases lo with lo|lo
  ·unfold zfq at lo;split at lo <;> omega
  ·rwa [show(a+b) / 2+m-1-(s-1)=(a+b) / 2+m-s by omega] at lo
 ·rcases hi with hi|hi
  ·unfold zfQ at hi;split at hi <;> omega
  ·rwa [show(a+b) / 2+m-1-s=(a+b) / 2+m-s-1 by omega] at hi
end
end Stb
end
section
open Go.RowKit Game Stb
open Go.Sort (grow SWO)
section
variable {E:TE} {w W:World} {B G cap N:Nat} {d:Nat->RowRef}
theorem TSt.two(h:TSt E w W B G cap N d){i j:Nat}(hi:i<N)(hj:j<N):∃x y:RowRef,Hid (d i=x)/\Hid (d j=y)/\
 (∀n os,(grow (redrawn W n) os).cell? ⟨G,i,none⟩=some (qS (some ⟨x.1,0,none⟩) x.2.2.length x.2.1))/\
 (∀n os,(grow (redrawn W n) os).cell? ⟨G,j,none⟩=some (qS (some ⟨y.1,0,none⟩) y.2.2.length y.2.1))/\
 (∀n os,Calls Tryz.prog 124 #[(qS (some ⟨x.1,0,none⟩) x.2.2.length x.2.1),(qS (some ⟨y.1,0,none⟩) y.2.2.length y.2.1),.pointer (some ⟨E.bc,0,none⟩),.pointer (some ⟨E.bv,0,none⟩)] (grow (redrawn W n) os) fun e w'=>e= .returned (.int .i64 (E.cf (d i) (d j)))/\Below (grow (redrawn W n) os).heap.size (grow (redrawn W n) os) w'):=
 ⟨d i,d j,rfl,rfl,h.cellsC hi,h.cellsC hj,h.cmpC hi hj⟩
theorem TSt.exch(h:TSt E w W B G cap N d){i j:Nat}(hi:i<N)(hj:j<N)(ao:i≠j):∃x y:RowRef,
 W.cell? ⟨G,i,none⟩=some (qS (some ⟨x.1,0,none⟩) x.2.2.length x.2.1)/\W.cell? ⟨G,j,none⟩=some (qS (some ⟨y.1,0,none⟩) y.2.2.length y.2.1)/\
 W.frozen? ⟨G,i,none⟩=false/\(W.setCell ⟨G,i,none⟩ (qS (some ⟨y.1,0,none⟩) y.2.2.length y.2.1)).frozen? ⟨G,j,none⟩=false/\
 (W.setCell ⟨G,i,none⟩ (qS (some ⟨y.1,0,none⟩) y.2.2.length y.2.1)).cell? ⟨G,j,none⟩=some (qS (some ⟨y.1,0,none⟩) y.2.2.length y.2.1)/\
 Hid (TSt E w ((W.setCell ⟨G,i,none⟩ (qS (some ⟨y.1,0,none⟩) y.2.2.length y.2.1)).setCell ⟨G,j,none⟩ (qS (some ⟨x.1,0,none⟩) x.2.2.length x.2.1)).drew B G cap N (swp d i j)):=by
 obtain⟨f1,f2,k3⟩:=h.swapF hi hj ao (d j);exact⟨d i,d j,h.cells hi,h.cells hj,f1 _,f2 _,k3,(h.swap hi hj).drew⟩
end
end
section
open Go.RowKit Game Stb
open Go.Sort (grow SWO)
theorem zGb(E:TE)(B G cap N:Nat)(ig:SWO (ltOf E.cf))(hN:N<=1048576)(a m b:Nat)(d:Nat->RowRef)(w:World)(jc:a<m)(kt:m<b)(hb:b<=N)(S:TSt E w w B G cap N d)(hl:Srt (ltOf E.cf) d a m)(hr:Srt (ltOf E.cf) d m b)(e1:m=a+1):
 Calls Tryz.prog 216 #[(qS (some ⟨G,0,none⟩) N cap),.int .i64 a,.int .i64 m,.int .i64 b,.func (.func 124) #[] #[.pointer (some ⟨E.bc,0,none⟩),.pointer (some ⟨E.bv,0,none⟩)]] w fun e w'=>e= .returned (.tuple #[])/\∃d',TSt E w w' B G cap N d'/\Srt (ltOf E.cf) d' a b/\Res N a b d d':=by
 have S0:=qd S;have HL:=qd hl;have HR:=qd hr;have mixed:Tryz.prog.follows .mixedOrders=true:=by kernel_rfl
 clear S hl hr
 go_enter Tryz.func216,Tryz.ntmps216
 have E1:=qd e1;have t1':(m:Int)-(a:Int)=1:=by omega
 clear e1;go_wp2_with fail;go_loopg [10,11] (b-m) (fun gk iv jv wr=>∃i j:Nat,m<=i/\i<=j/\j<=b/\j-i<=gk/\iv= .int .i64 i/\jv= .int .i64 j/\Hid (i=m∨(ltOf E.cf) (d (i-1)) (d a)=true)/\Hid (j=b∨(ltOf E.cf) (d j) (d a)=false)/\Hid (TSt E w wr B G cap N d))
 case atStart=>exact⟨m,b,qr _,by omega,qr _,qr _,rfl,rfl,qd (.inl rfl),qd (.inl rfl),S0⟩
 case round=>
  clear S0 t1';obtain⟨i,j,hi,iP,hj,hg,rfl,rfl,ms,oG,S⟩:=hrel;by_cases ac:i<j
  ·have fA:(i:Int)<(j:Int):=by omega
   obtain⟨h,hh⟩:∃h,h=(i+j) / 2:=⟨_,rfl⟩;have eh:((i:Int)+(j:Int)) / 2=(h:Int):=by omega
   have bh1:i<=h:=by omega
   have bh2:h<j:=by omega
   clear hh;have b1:(h:Int)<(N:Int):=by omega
   have b2:(a:Int)<(N:Int):=by omega
   obtain⟨x,y,-,-,c1,c3,Ub⟩:=S.out.two (i:=h) (j:=a) (by omega) (by omega);have CLS:=qd S.out.cls;have LT:=qd (show(ltOf E.cf) (d (h)) (d (a))=decide (E.cf (d (h)) (d (a))<0) from rfl);generalize E.cf (d (h)) (d (a))=z at*;by_cases fB:z<0
   ·have HN:=qd (show(ltOf E.cf) (d h) (d a)=true from by rw[LT.out];exact decide_eq_true fB);clear LT;have fI:(!decide (z<0))=false:=by simp[fB]
    go_wp2_with fail;refine wp_region_quiet_below (by assumption) (by kernel_rfl) ?_
    repeat (quiet_step (exact Calls.regrown_of (Ub _ _)))
    refine wpQuiet_nil ?_;intro _ ic;obtain⟨⟨nq,osq⟩,gz⟩:=ic;subst gz;have HS:=qd (CLS.out nq osq);clear c1 c3 Ub CLS S;go_wp2_with fail
    go_roundg (j-(h+1))
    case measure=>omega
    case rel=>exact⟨h+1,j,by omega,by omega,hj,qr _,by go_num,rfl,qd (.inr (by rw[Nat.add_sub_cancel];exact HN.out)),oG,HS⟩
   ·have HN:=qd (show(ltOf E.cf) (d h) (d a)=false from by rw[LT.out];exact decide_eq_false fB);clear LT;have fI:(!decide (z<0))=true:=by simp[fB]
    go_wp2_with fail;refine wp_region_quiet_below (by assumption) (by kernel_rfl) ?_
    repeat (quiet_step (exact Calls.regrown_of (Ub _ _)))
    refine wpQuiet_nil ?_;intro _ ic;obtain⟨⟨nq,osq⟩,gz⟩:=ic;subst gz;have HS:=qd (CLS.out nq osq);clear c1 c3 Ub CLS S;go_wp2_with fail
    go_roundg (h-i)
    case measure=>omega
    case rel=>exact⟨i,h,hi,bh1,by omega,qr _,rfl,rfl,ms,qd (.inr HN.out),HS⟩
  ·obtain rfl:i=j:=by omega
   have HF:=qd (zvr ig (N:=N) (d:=d) (a:=a) (b:=b) (i:=i) (by rw[<-E1.out];exact HR.out) (by rw[<-E1.out];exact hi) hj hb (by rw[<-E1.out];exact ms.out) oG.out);have H0:=qd (zcF d (s:=a) (m:=a+1) (e:=a+1) (by omega) (qr _) (.inr rfl));obtain⟨q,hq⟩:∃q,q+1=i:=⟨i-1,by omega⟩;have Hq:=qd hq;have eq1:(i:Int)-1=(q:Int):=by omega
   have GH:a<=q:=by omega
   have CS:q<i:=by omega
   clear ms oG HL HR hq;go_wp2_with fail;go_loopw [13] (fun kv wr=>∃k:Nat,a<=k/\k<=q/\kv= .int .i64 k/\Hid (TSt E w wr B G cap N (rot d a (a+1) (k+1)))) (fun kv _=>q-(intOf kv).toNat)
   case atStart=>exact⟨a,qr _,GH,rfl,by rw[H0.out];exact S⟩
   case round=>
    clear S H0;obtain⟨k,pe,ma,rfl,S⟩:=hrel;by_cases xq:k<q
    ·have Bm:(k:Int)<(q:Int):=by omega
     have wk:IntKind.i64.wrap ((k:Int)+1)=(k:Int)+1:=IntWalk.i64_in _ ⟨by omega,by omega⟩;have b1:(0:Int)<=(k:Int)+1:=by omega
     have b2:(k:Int)+1<(N:Int):=by omega
     have b3:(k:Int)<(N:Int):=by omega
     have b4:((k:Int)+1).toNat=k+1:=by omega
     obtain⟨x,y,c1,c3,g1,g3,k3,HS⟩:=S.out.exch (i:=k) (j:=k+1) (by omega) (by omega) (by omega);rw[zGJ d pe] at HS;clear S;go_wp2_with fail
     go_region
     go_wp2_with fail;go_roundw
     case rel=>exact⟨k+1,by omega,by omega,by go_num,HS⟩
     case measure=>simp[intOf];omega
    ·obtain rfl:k=q:=by omega
     go_wp2_with fail
     (try simp only[Exit.inBlock,Exit.then])
     refine bodyPost_ret (results_none rfl _ _ _) rfl ?_;rw[Hq.out] at S;exact⟨rfl,_,S.out,HF.out.1,HF.out.2⟩
end
section
open Go.RowKit Game Stb
open Go.Sort (grow SWO)
theorem zGc(E:TE)(B G cap N:Nat)(ig:SWO (ltOf E.cf))(hN:N<=1048576)(a m b:Nat)(d:Nat->RowRef)(w:World)(jc:a<m)(kt:m<b)(hb:b<=N)(S:TSt E w w B G cap N d)(hl:Srt (ltOf E.cf) d a m)(hr:Srt (ltOf E.cf) d m b)(e1:¬m=a+1)(e2:b=m+1):
 Calls Tryz.prog 216 #[(qS (some ⟨G,0,none⟩) N cap),.int .i64 a,.int .i64 m,.int .i64 b,.func (.func 124) #[] #[.pointer (some ⟨E.bc,0,none⟩),.pointer (some ⟨E.bv,0,none⟩)]] w fun e w'=>e= .returned (.tuple #[])/\∃d',TSt E w w' B G cap N d'/\Srt (ltOf E.cf) d' a b/\Res N a b d d':=by
 have S0:=qd S;have HL:=qd hl;have HR:=qd hr;have mixed:Tryz.prog.follows .mixedOrders=true:=by kernel_rfl
 clear S hl hr
 go_enter Tryz.func216,Tryz.ntmps216
 have t1':¬(m:Int)-(a:Int)=1:=by omega
 have E2:=qd e2;have DY:m+1<=N:=by omega
 have t2':(b:Int)-(m:Int)=1:=by omega
 clear e2;go_wp2_with fail;generalize ((m:Int)-(a:Int)==1)=bb1;generalize ((b:Int)-(m:Int)==1)=bb2;go_loopg [14,15] (m-a) (fun gk iv jv wr=>∃i j:Nat,a<=i/\i<=j/\j<=m/\j-i<=gk/\iv= .int .i64 i/\jv= .int .i64 j/\Hid (i=a∨(ltOf E.cf) (d m) (d (i-1))=false)/\Hid (j=m∨(ltOf E.cf) (d m) (d j)=true)/\Hid (TSt E w wr B G cap N d))
 case atStart=>exact⟨a,m,qr _,by omega,qr _,qr _,rfl,rfl,qd (.inl rfl),qd (.inl rfl),S0⟩
 case round=>
  clear S0 t1' t2';obtain⟨i,j,hi,iP,hj,hg,rfl,rfl,ms,oG,S⟩:=hrel;by_cases ac:i<j
  ·have fA:(i:Int)<(j:Int):=by omega
   obtain⟨h,hh⟩:∃h,h=(i+j) / 2:=⟨_,rfl⟩;have eh:((i:Int)+(j:Int)) / 2=(h:Int):=by omega
   have bh1:i<=h:=by omega
   have bh2:h<j:=by omega
   clear hh;have b1:(h:Int)<(N:Int):=by omega
   have b2:(m:Int)<(N:Int):=by omega
   obtain⟨x,y,-,-,c1,c3,Ub⟩:=S.out.two (i:=m) (j:=h) (by omega) (by omega);have CLS:=qd S.out.cls;have LT:=qd (show(ltOf E.cf) (d (m)) (d (h))=decide (E.cf (d (m)) (d (h))<0) from rfl);generalize E.cf (d (m)) (d (h))=z at*;by_cases fB:z<0
   ·have HN:=qd (show(ltOf E.cf) (d m) (d h)=true from by rw[LT.out];exact decide_eq_true fB);clear LT;have fI:(!decide (z<0))=false:=by simp[fB]
    go_wp2_with fail;refine wp_region_quiet_below (by assumption) (by kernel_rfl) ?_
    repeat (quiet_step (exact Calls.regrown_of (Ub _ _)))
    refine wpQuiet_nil ?_;intro _ ic;obtain⟨⟨nq,osq⟩,gz⟩:=ic;subst gz;have HS:=qd (CLS.out nq osq);clear c1 c3 Ub CLS S;go_wp2_with fail
    go_roundg (h-i)
    case measure=>omega
    case rel=>exact⟨i,h,hi,bh1,by omega,qr _,rfl,rfl,ms,qd (.inr HN.out),HS⟩
   ·have HN:=qd (show(ltOf E.cf) (d m) (d h)=false from by rw[LT.out];exact decide_eq_false fB);clear LT;have fI:(!decide (z<0))=true:=by simp[fB]
    go_wp2_with fail;refine wp_region_quiet_below (by assumption) (by kernel_rfl) ?_
    repeat (quiet_step (exact Calls.regrown_of (Ub _ _)))
    refine wpQuiet_nil ?_;intro _ ic;obtain⟨⟨nq,osq⟩,gz⟩:=ic;subst gz;have HS:=qd (CLS.out nq osq);clear c1 c3 Ub CLS S;go_wp2_with fail
    go_roundg (j-(h+1))
    case measure=>omega
    case rel=>exact⟨h+1,j,by omega,by omega,hj,qr _,by go_num,rfl,qd (.inr (by rw[Nat.add_sub_cancel];exact HN.out)),oG,HS⟩
  ·obtain rfl:i=j:=by omega
   have HF:=qd (zsn ig (N:=N) (d:=d) (a:=a) (m:=m) (i:=i) HL.out hi hj (by omega) ms.out oG.out);have H0:=qd (zcF d (s:=m) (m:=m) (e:=m+1) (qr _) (by omega) (.inl rfl));clear ms oG HL HR;go_wp2_with fail;go_loopg [17] (m-i) (fun gk kv wr=>∃k:Nat,i<=k/\k<=m/\k-i<=gk/\kv= .int .i64 k/\Hid (TSt E w wr B G cap N (rot d k m (m+1))))
   case atStart=>exact⟨m,hj,qr _,qr _,rfl,by rw[H0.out];exact S⟩
   case round=>
    clear S H0;obtain⟨k,pe,ma,aP,rfl,S⟩:=hrel;by_cases xq:i<k
    ·obtain⟨kp,rfl⟩:∃kp,k=kp+1:=⟨k-1,by omega⟩;have Bm:(i:Int)<(kp:Int)+1:=by omega
     have wk:IntKind.i64.wrap (kp:Int)=(kp:Int):=IntWalk.i64_in _ ⟨by omega,by omega⟩;have b1:(0:Int)<=(kp:Int)+1:=by omega
     have b2:(kp:Int)+1<(N:Int):=by omega
     have b3:(kp:Int)<(N:Int):=by omega
     have b4:((kp:Int)+1).toNat=kp+1:=by omega
     obtain⟨x,y,c1,c3,g1,g3,k3,HS⟩:=S.out.exch (i:=kp+1) (j:=kp) (by omega) (by omega) (by omega);rw[zGK d ma] at HS;clear S;go_wp2_with fail
     go_region
     go_wp2_with fail
     go_roundg (kp-i)
     case rel=>exact⟨kp,by omega,by omega,qr _,by go_num,HS⟩
     case measure=>omega
    ·obtain rfl:k=i:=by omega
     go_wp2_with fail
     (try simp only[Exit.inBlock,Exit.then])
     refine bodyPost_ret (results_none rfl _ _ _) rfl ?_;exact⟨rfl,_,S.out,by rw[E2.out];exact HF.out.1,by rw[E2.out];exact HF.out.2⟩
end
section
open Go.RowKit Game Stb
open Go.Sort (grow SWO)
theorem zGd(E:TE)(B G cap N:Nat)(ig:SWO (ltOf E.cf))(hN:N<=1048576)(F:Nat)(IH:Hid (∀(a m b:Nat) (d:Nat->RowRef) (w:World),b-a<=F->a<m->m<b->b<=N->TSt E w w B G cap N d->Srt (ltOf E.cf) d a m->Srt (ltOf E.cf) d m b->
 Calls Tryz.prog 216 #[(qS (some ⟨G,0,none⟩) N cap),.int .i64 a,.int .i64 m,.int .i64 b,.func (.func 124) #[] #[.pointer (some ⟨E.bc,0,none⟩),.pointer (some ⟨E.bv,0,none⟩)]] w fun e w'=>e= .returned (.tuple #[])/\∃d',TSt E w w' B G cap N d'/\Srt (ltOf E.cf) d' a b/\Res N a b d d')) (a m b:Nat) (d:Nat->RowRef) (w:World) (hF:b-a<=F+1) (jc:a<m) (kt:m<b) (hb:b<=N) (S:TSt E w w B G cap N d) (hl:Srt (ltOf E.cf) d a m) (hr:Srt (ltOf E.cf) d m b) (e1:¬m=a+1) (e2:¬b=m+1):
 Calls Tryz.prog 216 #[(qS (some ⟨G,0,none⟩) N cap),.int .i64 a,.int .i64 m,.int .i64 b,.func (.func 124) #[] #[.pointer (some ⟨E.bc,0,none⟩),.pointer (some ⟨E.bv,0,none⟩)]] w fun e w'=>e= .returned (.tuple #[])/\∃d',TSt E w w' B G cap N d'/\Srt (ltOf E.cf) d' a b/\Res N a b d d':=by
 have S0:=qd S;have HL:=qd hl;have HR:=qd hr;have mixed:Tryz.prog.follows .mixedOrders=true:=by kernel_rfl
 clear S hl hr
 go_enter Tryz.func216,Tryz.ntmps216
 have t1':¬(m:Int)-(a:Int)=1:=by omega
 have t2':¬(b:Int)-(m:Int)=1:=by omega
 obtain⟨mid,fO⟩:∃mid,(a+b) / 2=mid:=⟨_,rfl⟩;have em:((a:Int)+(b:Int)) / 2=(mid:Int):=by omega
 obtain⟨nn,rb⟩:∃nn,mid+m=nn:=⟨_,rfl⟩;have en:(mid:Int)+(m:Int)=(nn:Int):=by omega
 obtain⟨fs1,fs2,fs3,fs4,fs5,fs6⟩:=zpC jc kt;have d1:zfq a m b=if mid<m then nn-b else a:=by unfold zfq;rw[fO,rb]
 have d2:zfQ a m b=if mid<m then mid else m:=by unfold zfQ;rw[fO]
 have qj:=qd (fun s (h1:zfq a m b<=s) (h2:s<=zfQ a m b) (h3:Sea (ltOf E.cf) d (nn-1) (zfq a m b) (zfQ a m b) s s)=>(Sea.split jc kt h1 h2 (by rw[fO,rb];exact h3):zhj (ltOf E.cf) d a m b s ((a+b) / 2+m-s)));rw[fO,rb] at qj;rw[fO] at fs4 fs5 fs6;generalize zfq a m b=s0 at*;generalize zfQ a m b=r0 at*;have DZ:a<mid:=by omega
 have Ea:mid<b:=by omega
 have RD:mid+m=nn:=rb;clear fO rb
 go_upto_if 140 with fail
 generalize ((m:Int)-(a:Int)==1)=bb1;generalize ((b:Int)-(m:Int)==1)=bb2
 go_cut [20,21] from 138 to 146 (fun sv rv wx=>sv= .int .i64 s0/\rv= .int .i64 r0/\Hid (TSt E w wx B G cap N d))
 case first=>
  clear IH HL HR qj;by_cases hm:mid<m
  ·rw[if_pos hm] at d1 d2;have vt:(mid:Int)<(m:Int):=by omega
   have x1:(nn:Int)-(b:Int)=(s0:Int):=by omega
   have D1:=qd d1;have D2:=qd d2;clear d1 d2;go_wp2_with fail
   go_meet
   exact⟨rfl,by rw[D2.out],S0⟩
  ·rw[if_neg hm] at d1 d2;have vt:¬(mid:Int)<(m:Int):=by omega
   have D1:=qd d1;have D2:=qd d2;clear d1 d2;go_wp2_with fail
   go_meet
   exact⟨by rw[D1.out],by rw[D2.out],S0⟩
 case rest=>
  clear S0 d1 d2;obtain⟨rfl,rfl,S⟩:=hcut;obtain⟨p,hp⟩:∃p,nn-1=p:=⟨_,rfl⟩;have ep:(nn:Int)-1=(p:Int):=by omega
  rw[hp] at qj;have ls:p+1=nn:=by omega
  clear hp;go_wp2_with fail;generalize ((m:Int)-(a:Int)==1)=bb1;generalize ((b:Int)-(m:Int)==1)=bb2;go_loopg [20,21] (r0-s0) (fun gk iv jv wr=>∃i j:Nat,s0<=i/\i<=j/\j<=r0/\j-i<=gk/\iv= .int .i64 i/\jv= .int .i64 j/\Hid (Sea (ltOf E.cf) d p s0 r0 i j)/\Hid (TSt E w wr B G cap N d))
  case atStart=>exact⟨s0,r0,qr _,fs2,qr _,qr _,rfl,rfl,⟨.inl rfl,.inl rfl⟩,S⟩
  case round=>
   clear S ep em en t1' t2' e1 e2;obtain⟨i,j,hi,iP,hj,hg,rfl,rfl,vG,S⟩:=hrel;by_cases ac:i<j
   ·clear IH HL HR qj;have fA:(i:Int)<(j:Int):=by omega
    obtain⟨c,hh⟩:∃c,c=(i+j) / 2:=⟨_,rfl⟩;have eh:((i:Int)+(j:Int)) / 2=(c:Int):=by omega
    have bh1:i<=c:=by omega
    have bh2:c<j:=by omega
    clear hh;obtain⟨v,hv⟩:∃v,p-c=v:=⟨_,rfl⟩;have wv:IntKind.i64.wrap ((p:Int)-(c:Int))=(v:Int):=by rw[IntWalk.i64_in _ ⟨by omega,by omega⟩];omega
    have bv:v<N:=by omega
    have b1:(c:Int)<(N:Int):=by omega
    have b2:(v:Int)<(N:Int):=by omega
    obtain⟨x,y,-,-,c1,c3,Ub⟩:=S.out.two (i:=v) (j:=c) (by omega) (by omega);have CLS:=qd S.out.cls;have LT:=qd (show(ltOf E.cf) (d (v)) (d (c))=decide (E.cf (d (v)) (d (c))<0) from rfl);generalize E.cf (d (v)) (d (c))=z at*;by_cases fB:z<0
    ·have HN:=qd (show(ltOf E.cf) (d (v)) (d c)=true from by rw[LT.out];exact decide_eq_true fB);clear LT;have fI:(!decide (z<0))=false:=by simp[fB]
     go_wp2_with fail;refine wp_region_quiet_below (by assumption) (by kernel_rfl) ?_
     repeat (quiet_step (exact Calls.regrown_of (Ub _ _)))
     refine wpQuiet_nil ?_;intro _ ic;obtain⟨⟨nq,osq⟩,gz⟩:=ic;subst gz;have HS:=qd (CLS.out nq osq);clear c1 c3 Ub CLS S;go_wp2_with fail
     go_roundg (c-i)
     case measure=>omega
     case rel=>exact⟨i,c,hi,bh1,by omega,qr _,rfl,rfl,⟨vG.out.lo,.inr (by rw[hv];exact HN.out)⟩,HS⟩
    ·have HN:=qd (show(ltOf E.cf) (d v) (d c)=false from by rw[LT.out];exact decide_eq_false fB);clear LT;have fI:(!decide (z<0))=true:=by simp[fB]
     go_wp2_with fail;refine wp_region_quiet_below (by assumption) (by kernel_rfl) ?_
     repeat (quiet_step (exact Calls.regrown_of (Ub _ _)))
     refine wpQuiet_nil ?_;intro _ ic;obtain⟨⟨nq,osq⟩,gz⟩:=ic;subst gz;have HS:=qd (CLS.out nq osq);clear c1 c3 Ub CLS S;go_wp2_with fail
     go_roundg (j-(c+1))
     case measure=>omega
     case rel=>exact⟨c+1,j,by omega,by omega,hj,qr _,by go_num,rfl,⟨.inr (by rw[Nat.add_sub_cancel,hv];exact HN.out),vG.out.hi⟩,HS⟩
   ·obtain rfl:i=j:=by omega
    have jm:=qj.out i hi hj vG.out;obtain⟨q1,q2,q3,q4⟩:=jm.rot (mid:=mid) (by omega) HL.out HR.out;have sS:=jm.s2;obtain⟨e,he⟩:∃e,nn-i=e:=⟨_,rfl⟩;rw[he] at jm q1 q2 q3 q4 sS;have mR:=Res.rot (N:=N) d (s:=i) (m:=m) (e:=e) (by omega) sS.1 (by omega);have HM:=qd (fun d2 d3 r2 q2 r3 q3=>zhj.merge ig (N:=N) (d2:=d2) (d3:=d3) jm (mid:=mid) (by omega) HL.out HR.out r2 q2 r3 q3);have KA:=sS.1;have KB:=sS.2;have ee:(nn:Int)-(i:Int)=(e:Int):=by omega
    have RE:e+i=nn:=by omega
    have Q1:=qd q1;have Q2:=qd q2;have Q3:=qd q3;have Q4:=qd q4;have lI:=qd mR;clear jm q1 q2 q3 q4 mR vG qj HL HR he sS;by_cases hA:i<m
    ·by_cases hB:i<mid
     ·by_cases hC:a<i
      ·by_cases hD:e<b
       ·have z0:(i:Int)<(m:Int):=by omega
        have z1:(m:Int)<(e:Int):=by omega
        have z2:(a:Int)<(i:Int):=by omega
        have z3:(i:Int)<(mid:Int):=by omega
        have z4:(mid:Int)<(e:Int):=by omega
        have z5:(e:Int)<(b:Int):=by omega
        have aa:=ziM E B G cap N i m e (.func (.func 124) #[] #[.pointer (some ⟨E.bc,0,none⟩),.pointer (some ⟨E.bv,0,none⟩)]) d wr hN (by omega) (by omega) (by omega) S.out.here;have ab:=qd aa;clear aa;go_wp2_with fail;refine ab.out.mono ?_;rintro e' w1 ⟨rfl,S1⟩;have S1:=qd (S.out.from S1);clear ab S;generalize dZ:rot d i m e=d1 at*;clear dZ;have aa:=IH.out a i mid d1 _ (by omega) (by omega) (by omega) (by omega) S1.out.here Q1.out Q2.out;have ab:=qd aa;clear aa Q1 Q2;go_wp2_with fail;refine ab.out.mono ?_;rintro e' w2 ⟨rfl,d2,S2,t2,r2⟩;have S2:=qd (S1.out.from S2);have T2:=qd t2;have R2:=qd r2;clear ab S1 t2 r2;have Q3:Hid (Srt (ltOf E.cf) d2 mid e):=fun x y u1 u2 u3=>by rw[R2.out.keep x (by omega),R2.out.keep y (by omega)];exact Q3.out x y u1 u2 u3
        have Q4:Hid (Srt (ltOf E.cf) d2 e b):=fun x y u1 u2 u3=>by rw[R2.out.keep x (by omega),R2.out.keep y (by omega)];exact Q4.out x y u1 u2 u3
        have aa:=IH.out mid e b d2 _ (by omega) (by omega) (by omega) hb S2.out.here Q3.out Q4.out;have ab:=qd aa;clear aa Q3 Q4;go_wp2_with fail;refine ab.out.mono ?_;rintro e' w3 ⟨rfl,d3,S3,t3,r3⟩;have S3:=qd (S2.out.from S3);have T3:=qd t3;have R3:=qd r3;clear ab S2 t3 r3;go_wp2_with fail
        go_end0
        exact⟨rfl,d3,S3.out,HM.out d2 d3 R2.out T2.out R3.out T3.out,((lI.out.wide (by omega) (by omega)).trans (R2.out.wide (qr _) (by omega))).trans (R3.out.wide (by omega) (qr _))⟩
       ·have z0:(i:Int)<(m:Int):=by omega
        have z1:(m:Int)<(e:Int):=by omega
        have z2:(a:Int)<(i:Int):=by omega
        have z3:(i:Int)<(mid:Int):=by omega
        have z4:(mid:Int)<(e:Int):=by omega
        have z5:¬(e:Int)<(b:Int):=by omega
        have aa:=ziM E B G cap N i m e (.func (.func 124) #[] #[.pointer (some ⟨E.bc,0,none⟩),.pointer (some ⟨E.bv,0,none⟩)]) d wr hN (by omega) (by omega) (by omega) S.out.here;have ab:=qd aa;clear aa;go_wp2_with fail;refine ab.out.mono ?_;rintro e' w1 ⟨rfl,S1⟩;have S1:=qd (S.out.from S1);clear ab S;generalize dZ:rot d i m e=d1 at*;clear dZ;have aa:=IH.out a i mid d1 _ (by omega) (by omega) (by omega) (by omega) S1.out.here Q1.out Q2.out;have ab:=qd aa;clear aa Q1 Q2;go_wp2_with fail;refine ab.out.mono ?_;rintro e' w2 ⟨rfl,d2,S2,t2,r2⟩;have S2:=qd (S1.out.from S2);have T2:=qd t2;have R2:=qd r2;clear ab S1 t2 r2;have Q3:Hid (Srt (ltOf E.cf) d2 mid e):=fun x y u1 u2 u3=>by rw[R2.out.keep x (by omega),R2.out.keep y (by omega)];exact Q3.out x y u1 u2 u3
        have Q4:Hid (Srt (ltOf E.cf) d2 e b):=fun x y u1 u2 u3=>by rw[R2.out.keep x (by omega),R2.out.keep y (by omega)];exact Q4.out x y u1 u2 u3
        have e0:e=b:=by omega
        have T3:Hid (Srt (ltOf E.cf) d2 mid b):=by rw[<-e0];exact Q3
        clear e0;have R3:=qd (Res.refl (N:=N) (a:=mid) (b:=b) d2);have S3:=S2;clear S2 Q3 Q4;obtain⟨d3,cJ⟩:∃d3,d3=d2:=⟨_,rfl⟩;rw[<-cJ] at S3;have T3:Hid (Srt (ltOf E.cf) d3 mid b):=by rw[cJ];exact T3
        have R3:Hid (Res N mid b d2 d3):=by rw[cJ];exact R3
        clear cJ;go_wp2_with fail
        go_end0
        exact⟨rfl,d3,S3.out,HM.out d2 d3 R2.out T2.out R3.out T3.out,((lI.out.wide (by omega) (by omega)).trans (R2.out.wide (qr _) (by omega))).trans (R3.out.wide (by omega) (qr _))⟩
      ·by_cases hD:e<b
       ·have z0:(i:Int)<(m:Int):=by omega
        have z1:(m:Int)<(e:Int):=by omega
        have z2:¬(a:Int)<(i:Int):=by omega
        have z3:(i:Int)<(mid:Int):=by omega
        have z4:(mid:Int)<(e:Int):=by omega
        have z5:(e:Int)<(b:Int):=by omega
        have aa:=ziM E B G cap N i m e (.func (.func 124) #[] #[.pointer (some ⟨E.bc,0,none⟩),.pointer (some ⟨E.bv,0,none⟩)]) d wr hN (by omega) (by omega) (by omega) S.out.here;have ab:=qd aa;clear aa;go_wp2_with fail;refine ab.out.mono ?_;rintro e' w1 ⟨rfl,S1⟩;have S1:=qd (S.out.from S1);clear ab S;generalize dZ:rot d i m e=d1 at*;clear dZ;have e0:i=a:=by omega
        have T2:Hid (Srt (ltOf E.cf) d1 a mid):=by rw[<-e0];exact Q2
        clear e0;have R2:=qd (Res.refl (N:=N) (a:=a) (b:=mid) d1);have S2:=S1;clear S1 Q1 Q2;obtain⟨d2,bV⟩:∃d2,d2=d1:=⟨_,rfl⟩;rw[<-bV] at S2;have T2:Hid (Srt (ltOf E.cf) d2 a mid):=by rw[bV];exact T2
        have R2:Hid (Res N a mid d1 d2):=by rw[bV];exact R2
        clear bV;have Q3:Hid (Srt (ltOf E.cf) d2 mid e):=fun x y u1 u2 u3=>by rw[R2.out.keep x (by omega),R2.out.keep y (by omega)];exact Q3.out x y u1 u2 u3
        have Q4:Hid (Srt (ltOf E.cf) d2 e b):=fun x y u1 u2 u3=>by rw[R2.out.keep x (by omega),R2.out.keep y (by omega)];exact Q4.out x y u1 u2 u3
        have aa:=IH.out mid e b d2 _ (by omega) (by omega) (by omega) hb S2.out.here Q3.out Q4.out;have ab:=qd aa;clear aa Q3 Q4;go_wp2_with fail;refine ab.out.mono ?_;rintro e' w3 ⟨rfl,d3,S3,t3,r3⟩;have S3:=qd (S2.out.from S3);have T3:=qd t3;have R3:=qd r3;clear ab S2 t3 r3;go_wp2_with fail
        go_end0
        exact⟨rfl,d3,S3.out,HM.out d2 d3 R2.out T2.out R3.out T3.out,((lI.out.wide (by omega) (by omega)).trans (R2.out.wide (qr _) (by omega))).trans (R3.out.wide (by omega) (qr _))⟩
       ·have z0:(i:Int)<(m:Int):=by omega
        have z1:(m:Int)<(e:Int):=by omega
        have z2:¬(a:Int)<(i:Int):=by omega
        have z3:(i:Int)<(mid:Int):=by omega
        have z4:(mid:Int)<(e:Int):=by omega
        have z5:¬(e:Int)<(b:Int):=by omega
        have aa:=ziM E B G cap N i m e (.func (.func 124) #[] #[.pointer (some ⟨E.bc,0,none⟩),.pointer (some ⟨E.bv,0,none⟩)]) d wr hN (by omega) (by omega) (by omega) S.out.here;have ab:=qd aa;clear aa;go_wp2_with fail;refine ab.out.mono ?_;rintro e' w1 ⟨rfl,S1⟩;have S1:=qd (S.out.from S1);clear ab S;generalize dZ:rot d i m e=d1 at*;clear dZ;have e0:i=a:=by omega
        have T2:Hid (Srt (ltOf E.cf) d1 a mid):=by rw[<-e0];exact Q2
        clear e0;have R2:=qd (Res.refl (N:=N) (a:=a) (b:=mid) d1);have S2:=S1;clear S1 Q1 Q2;obtain⟨d2,bV⟩:∃d2,d2=d1:=⟨_,rfl⟩;rw[<-bV] at S2;have T2:Hid (Srt (ltOf E.cf) d2 a mid):=by rw[bV];exact T2
        have R2:Hid (Res N a mid d1 d2):=by rw[bV];exact R2
        clear bV;have Q3:Hid (Srt (ltOf E.cf) d2 mid e):=fun x y u1 u2 u3=>by rw[R2.out.keep x (by omega),R2.out.keep y (by omega)];exact Q3.out x y u1 u2 u3
        have Q4:Hid (Srt (ltOf E.cf) d2 e b):=fun x y u1 u2 u3=>by rw[R2.out.keep x (by omega),R2.out.keep y (by omega)];exact Q4.out x y u1 u2 u3
        have e0:e=b:=by omega
        have T3:Hid (Srt (ltOf E.cf) d2 mid b):=by rw[<-e0];exact Q3
        clear e0;have R3:=qd (Res.refl (N:=N) (a:=mid) (b:=b) d2);have S3:=S2;clear S2 Q3 Q4;obtain⟨d3,cJ⟩:∃d3,d3=d2:=⟨_,rfl⟩;rw[<-cJ] at S3;have T3:Hid (Srt (ltOf E.cf) d3 mid b):=by rw[cJ];exact T3
        have R3:Hid (Res N mid b d2 d3):=by rw[cJ];exact R3
        clear cJ;go_wp2_with fail
        go_end0
        exact⟨rfl,d3,S3.out,HM.out d2 d3 R2.out T2.out R3.out T3.out,((lI.out.wide (by omega) (by omega)).trans (R2.out.wide (qr _) (by omega))).trans (R3.out.wide (by omega) (qr _))⟩
     ·by_cases hC:a<i
      ·by_cases hD:e<b
       ·have z0:(i:Int)<(m:Int):=by omega
        have z1:¬(m:Int)<(e:Int):=by omega
        have z2:(a:Int)<(i:Int):=by omega
        have z3:¬(i:Int)<(mid:Int):=by omega
        have z4:(mid:Int)<(e:Int):=by omega
        have z5:(e:Int)<(b:Int):=by omega
        have S1:Hid (TSt E w wr B G cap N (rot d i m e)):=by rw[zcF d (by omega) (by omega) (by omega)];exact S
        clear S;generalize dZ:rot d i m e=d1 at*;clear dZ;have e0:i=mid:=by omega
        have T2:Hid (Srt (ltOf E.cf) d1 a mid):=by rw[<-e0];exact Q1
        clear e0;have R2:=qd (Res.refl (N:=N) (a:=a) (b:=mid) d1);have S2:=S1;clear S1 Q1 Q2;obtain⟨d2,bV⟩:∃d2,d2=d1:=⟨_,rfl⟩;rw[<-bV] at S2;have T2:Hid (Srt (ltOf E.cf) d2 a mid):=by rw[bV];exact T2
        have R2:Hid (Res N a mid d1 d2):=by rw[bV];exact R2
        clear bV;have Q3:Hid (Srt (ltOf E.cf) d2 mid e):=fun x y u1 u2 u3=>by rw[R2.out.keep x (by omega),R2.out.keep y (by omega)];exact Q3.out x y u1 u2 u3
        have Q4:Hid (Srt (ltOf E.cf) d2 e b):=fun x y u1 u2 u3=>by rw[R2.out.keep x (by omega),R2.out.keep y (by omega)];exact Q4.out x y u1 u2 u3
        have aa:=IH.out mid e b d2 _ (by omega) (by omega) (by omega) hb S2.out.here Q3.out Q4.out;have ab:=qd aa;clear aa Q3 Q4;go_wp2_with fail;refine ab.out.mono ?_;rintro e' w3 ⟨rfl,d3,S3,t3,r3⟩;have S3:=qd (S2.out.from S3);have T3:=qd t3;have R3:=qd r3;clear ab S2 t3 r3;go_wp2_with fail
        go_end0
        exact⟨rfl,d3,S3.out,HM.out d2 d3 R2.out T2.out R3.out T3.out,((lI.out.wide (by omega) (by omega)).trans (R2.out.wide (qr _) (by omega))).trans (R3.out.wide (by omega) (qr _))⟩
       ·have z0:(i:Int)<(m:Int):=by omega
        have z1:¬(m:Int)<(e:Int):=by omega
        have z2:(a:Int)<(i:Int):=by omega
        have z3:¬(i:Int)<(mid:Int):=by omega
        have z4:(mid:Int)<(e:Int):=by omega
        have z5:¬(e:Int)<(b:Int):=by omega
        have S1:Hid (TSt E w wr B G cap N (rot d i m e)):=by rw[zcF d (by omega) (by omega) (by omega)];exact S
        clear S;generalize dZ:rot d i m e=d1 at*;clear dZ;have e0:i=mid:=by omega
        have T2:Hid (Srt (ltOf E.cf) d1 a mid):=by rw[<-e0];exact Q1
        clear e0;have R2:=qd (Res.refl (N:=N) (a:=a) (b:=mid) d1);have S2:=S1;clear S1 Q1 Q2;obtain⟨d2,bV⟩:∃d2,d2=d1:=⟨_,rfl⟩;rw[<-bV] at S2;have T2:Hid (Srt (ltOf E.cf) d2 a mid):=by rw[bV];exact T2
        have R2:Hid (Res N a mid d1 d2):=by rw[bV];exact R2
        clear bV;have Q3:Hid (Srt (ltOf E.cf) d2 mid e):=fun x y u1 u2 u3=>by rw[R2.out.keep x (by omega),R2.out.keep y (by omega)];exact Q3.out x y u1 u2 u3
        have Q4:Hid (Srt (ltOf E.cf) d2 e b):=fun x y u1 u2 u3=>by rw[R2.out.keep x (by omega),R2.out.keep y (by omega)];exact Q4.out x y u1 u2 u3
        have e0:e=b:=by omega
        have T3:Hid (Srt (ltOf E.cf) d2 mid b):=by rw[<-e0];exact Q3
        clear e0;have R3:=qd (Res.refl (N:=N) (a:=mid) (b:=b) d2);have S3:=S2;clear S2 Q3 Q4;obtain⟨d3,cJ⟩:∃d3,d3=d2:=⟨_,rfl⟩;rw[<-cJ] at S3;have T3:Hid (Srt (ltOf E.cf) d3 mid b):=by rw[cJ];exact T3
        have R3:Hid (Res N mid b d2 d3):=by rw[cJ];exact R3
        clear cJ;go_wp2_with fail
        go_end0
        exact⟨rfl,d3,S3.out,HM.out d2 d3 R2.out T2.out R3.out T3.out,((lI.out.wide (by omega) (by omega)).trans (R2.out.wide (qr _) (by omega))).trans (R3.out.wide (by omega) (qr _))⟩
      ·omega
    ·by_cases hB:i<mid
     ·by_cases hC:a<i
      ·by_cases hD:e<b
       ·have z0:¬(i:Int)<(m:Int):=by omega
        have z1:(m:Int)<(e:Int):=by omega
        have z2:(a:Int)<(i:Int):=by omega
        have z3:(i:Int)<(mid:Int):=by omega
        have z4:¬(mid:Int)<(e:Int):=by omega
        have z5:(e:Int)<(b:Int):=by omega
        have S1:Hid (TSt E w wr B G cap N (rot d i m e)):=by rw[zcF d (by omega) (by omega) (by omega)];exact S
        clear S;generalize dZ:rot d i m e=d1 at*;clear dZ;have aa:=IH.out a i mid d1 _ (by omega) (by omega) (by omega) (by omega) S1.out.here Q1.out Q2.out;have ab:=qd aa;clear aa Q1 Q2;go_wp2_with fail;refine ab.out.mono ?_;rintro e' w2 ⟨rfl,d2,S2,t2,r2⟩;have S2:=qd (S1.out.from S2);have T2:=qd t2;have R2:=qd r2;clear ab S1 t2 r2;have Q3:Hid (Srt (ltOf E.cf) d2 mid e):=fun x y u1 u2 u3=>by rw[R2.out.keep x (by omega),R2.out.keep y (by omega)];exact Q3.out x y u1 u2 u3
        have Q4:Hid (Srt (ltOf E.cf) d2 e b):=fun x y u1 u2 u3=>by rw[R2.out.keep x (by omega),R2.out.keep y (by omega)];exact Q4.out x y u1 u2 u3
        have e0:e=mid:=by omega
        have T3:Hid (Srt (ltOf E.cf) d2 mid b):=by rw[<-e0];exact Q4
        clear e0;have R3:=qd (Res.refl (N:=N) (a:=mid) (b:=b) d2);have S3:=S2;clear S2 Q3 Q4;obtain⟨d3,cJ⟩:∃d3,d3=d2:=⟨_,rfl⟩;rw[<-cJ] at S3;have T3:Hid (Srt (ltOf E.cf) d3 mid b):=by rw[cJ];exact T3
        have R3:Hid (Res N mid b d2 d3):=by rw[cJ];exact R3
        clear cJ;go_wp2_with fail
        go_end0
        exact⟨rfl,d3,S3.out,HM.out d2 d3 R2.out T2.out R3.out T3.out,((lI.out.wide (by omega) (by omega)).trans (R2.out.wide (qr _) (by omega))).trans (R3.out.wide (by omega) (qr _))⟩
       ·omega
      ·by_cases hD:e<b
       ·have z0:¬(i:Int)<(m:Int):=by omega
        have z1:(m:Int)<(e:Int):=by omega
        have z2:¬(a:Int)<(i:Int):=by omega
        have z3:(i:Int)<(mid:Int):=by omega
        have z4:¬(mid:Int)<(e:Int):=by omega
        have z5:(e:Int)<(b:Int):=by omega
        have S1:Hid (TSt E w wr B G cap N (rot d i m e)):=by rw[zcF d (by omega) (by omega) (by omega)];exact S
        clear S;generalize dZ:rot d i m e=d1 at*;clear dZ;have e0:i=a:=by omega
        have T2:Hid (Srt (ltOf E.cf) d1 a mid):=by rw[<-e0];exact Q2
        clear e0;have R2:=qd (Res.refl (N:=N) (a:=a) (b:=mid) d1);have S2:=S1;clear S1 Q1 Q2;obtain⟨d2,bV⟩:∃d2,d2=d1:=⟨_,rfl⟩;rw[<-bV] at S2;have T2:Hid (Srt (ltOf E.cf) d2 a mid):=by rw[bV];exact T2
        have R2:Hid (Res N a mid d1 d2):=by rw[bV];exact R2
        clear bV;have Q3:Hid (Srt (ltOf E.cf) d2 mid e):=fun x y u1 u2 u3=>by rw[R2.out.keep x (by omega),R2.out.keep y (by omega)];exact Q3.out x y u1 u2 u3
        have Q4:Hid (Srt (ltOf E.cf) d2 e b):=fun x y u1 u2 u3=>by rw[R2.out.keep x (by omega),R2.out.keep y (by omega)];exact Q4.out x y u1 u2 u3
        have e0:e=mid:=by omega
        have T3:Hid (Srt (ltOf E.cf) d2 mid b):=by rw[<-e0];exact Q4
        clear e0;have R3:=qd (Res.refl (N:=N) (a:=mid) (b:=b) d2);have S3:=S2;clear S2 Q3 Q4;obtain⟨d3,cJ⟩:∃d3,d3=d2:=⟨_,rfl⟩;rw[<-cJ] at S3;have T3:Hid (Srt (ltOf E.cf) d3 mid b):=by rw[cJ];exact T3
        have R3:Hid (Res N mid b d2 d3):=by rw[cJ];exact R3
        clear cJ;go_wp2_with fail
        go_end0
        exact⟨rfl,d3,S3.out,HM.out d2 d3 R2.out T2.out R3.out T3.out,((lI.out.wide (by omega) (by omega)).trans (R2.out.wide (qr _) (by omega))).trans (R3.out.wide (by omega) (qr _))⟩
       ·omega
     ·by_cases hC:a<i
      ·by_cases hD:e<b
       ·have z0:¬(i:Int)<(m:Int):=by omega
        have z1:¬(m:Int)<(e:Int):=by omega
        have z2:(a:Int)<(i:Int):=by omega
        have z3:¬(i:Int)<(mid:Int):=by omega
        have z4:¬(mid:Int)<(e:Int):=by omega
        have z5:(e:Int)<(b:Int):=by omega
        have S1:Hid (TSt E w wr B G cap N (rot d i m e)):=by rw[zcF d (by omega) (by omega) (by omega)];exact S
        clear S;generalize dZ:rot d i m e=d1 at*;clear dZ;have e0:i=mid:=by omega
        have T2:Hid (Srt (ltOf E.cf) d1 a mid):=by rw[<-e0];exact Q1
        clear e0;have R2:=qd (Res.refl (N:=N) (a:=a) (b:=mid) d1);have S2:=S1;clear S1 Q1 Q2;obtain⟨d2,bV⟩:∃d2,d2=d1:=⟨_,rfl⟩;rw[<-bV] at S2;have T2:Hid (Srt (ltOf E.cf) d2 a mid):=by rw[bV];exact T2
        have R2:Hid (Res N a mid d1 d2):=by rw[bV];exact R2
        clear bV;have Q3:Hid (Srt (ltOf E.cf) d2 mid e):=fun x y u1 u2 u3=>by rw[R2.out.keep x (by omega),R2.out.keep y (by omega)];exact Q3.out x y u1 u2 u3
        have Q4:Hid (Srt (ltOf E.cf) d2 e b):=fun x y u1 u2 u3=>by rw[R2.out.keep x (by omega),R2.out.keep y (by omega)];exact Q4.out x y u1 u2 u3
        have e0:e=mid:=by omega
        have T3:Hid (Srt (ltOf E.cf) d2 mid b):=by rw[<-e0];exact Q4
        clear e0;have R3:=qd (Res.refl (N:=N) (a:=mid) (b:=b) d2);have S3:=S2;clear S2 Q3 Q4;obtain⟨d3,cJ⟩:∃d3,d3=d2:=⟨_,rfl⟩;rw[<-cJ] at S3;have T3:Hid (Srt (ltOf E.cf) d3 mid b):=by rw[cJ];exact T3
        have R3:Hid (Res N mid b d2 d3):=by rw[cJ];exact R3
        clear cJ;go_wp2_with fail
        go_end0
        exact⟨rfl,d3,S3.out,HM.out d2 d3 R2.out T2.out R3.out T3.out,((lI.out.wide (by omega) (by omega)).trans (R2.out.wide (qr _) (by omega))).trans (R3.out.wide (by omega) (qr _))⟩
       ·omega
      ·omega
end
end Go.Proofs.YtlgcmaoimpgedaaGreatDoor

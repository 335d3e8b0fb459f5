/- Suj Stp Sua Mcl Syl Gcd SyI -/
import Derived.Test.YtlgcmaoimpgedaaGreatDoorT42
import Derived.Test.YtlgcmaoimpgedaaGreatDoorT33
set_option maxHeartbeats 8000000
set_option maxRecDepth 100000
set_option linter.unusedSimpArgs false
namespace Go.Proofs.YtlgcmaoimpgedaaGreatDoor
open Go.Value renaming slice->qS
section
open Go.RowKit Game Stb
open Go.Sort (grow SWO)
theorem zjw(E:TE)(B G cap N:Nat)(ig:SWO (ltOf E.cf))(hN:N<=1048576):∀(F a m b:Nat) (d:Nat->RowRef) (w:World),b-a<=F->a<m->m<b->b<=N->TSt E w w B G cap N d->Srt (ltOf E.cf) d a m->Srt (ltOf E.cf) d m b->
 Calls Tryz.prog 216 #[(qS (some ⟨G,0,none⟩) N cap),.int .i64 a,.int .i64 m,.int .i64 b,.func (.func 124) #[] #[.pointer (some ⟨E.bc,0,none⟩),.pointer (some ⟨E.bv,0,none⟩)]] w fun e w'=>e= .returned (.tuple #[])/\∃d',TSt E w w' B G cap N d'/\Srt (ltOf E.cf) d' a b/\Res N a b d d'
 |0,a,m,b,d,w,h,h1,h2,_,_,_,_=>by omega
 |F+1,a,m,b,d,w,hF,jc,kt,hb,S,hl,hr=>by
  by_cases e1:m=a+1
  ·exact zGb E B G cap N ig hN a m b d w jc kt hb S hl hr e1
  ·by_cases e2:b=m+1
   ·exact zGc E B G cap N ig hN a m b d w jc kt hb S hl hr e1 e2
   ·exact zGd E B G cap N ig hN F (zjw E B G cap N ig hN F) a m b d w hF jc kt hb S hl hr e1 e2
end
section
namespace Stb
variable {α:Type} {lt:α->α->Bool}
theorem Srt.kept{N a b x y:Nat}{d d':Nat->α}(h:Srt lt d x y)(r:Res N a b d d')(hd:y<=a∨b<=x):Srt lt d' x y:=fun i j h1 h2 h3=>by
 rw[r.keep i (by omega),r.keep j (by omega)];exact h i j h1 h2 h3
def Blk(lt:α->α->Bool)(N bs:Nat)(d:Nat->α):Prop:=∀u,Srt lt d (u*bs) (min (u*bs+bs) N)
theorem Blk.all{N bs:Nat}{d:Nat->α}(h:Blk lt N bs d)(hb:N<=bs):Srt lt d 0 N:=by
 have:=h 0
 rwa [Nat.zero_mul,Nat.zero_add,Nat.min_eq_right hb] at this
def Fst(lt:α->α->Bool)(bs t:Nat)(d:Nat->α):Prop:=∀u,u<t->Srt lt d (u*bs) (u*bs+bs)
theorem zvs{u t bs:Nat}(h:u<t):u*bs+bs<=t*bs:=by
 have:=Nat.mul_le_mul_right bs (show u+1<=t from h)
 rwa [Nat.add_mul,Nat.one_mul] at this
theorem Fst.next{N bs t:Nat}{d d':Nat->α}(h:Fst lt bs t d)(r:Res N (t*bs) (t*bs+bs) d d')(hs:Srt lt d' (t*bs) (t*bs+bs)):Fst lt bs (t+1) d':=fun u hu=>by
 by_cases e:u=t
 ·subst e;exact hs
 ·exact(h u (by omega)).kept r (.inl (zvs (by omega)))
theorem Fst.last{N bs t:Nat}{d d':Nat->α}(h:Fst lt bs t d)(hN:N<t*bs+bs)(r:Res N (t*bs) N d d')(hs:Srt lt d' (t*bs) N):Blk lt N bs d':=fun u=>by
 by_cases e:u<t
 ·exact fun i j h1 h2 h3=>((h u e).kept r (.inl (zvs e))) i j h1 h2 (by omega)
 ·by_cases e2:u=t
  ·subst e2;rw[Nat.min_eq_right (by omega)];exact hs
  ·intro i j h1 h2 h3;have:=zvs (bs:=bs) (show t<u by omega);omega
structure Prs(lt:α->α->Bool)(N bs t:Nat)(d:Nat->α):Prop where
 lo:Fst lt (2*bs) t d
 hi:∀u,2*t<=u->Srt lt d (u*bs) (min (u*bs+bs) N)
theorem zlQ(t bs:Nat):2*t*bs=t*(2*bs):=by rw[Nat.mul_comm 2 t,Nat.mul_assoc]
theorem zGe(t bs:Nat):(2*t+1)*bs=t*(2*bs)+bs:=by rw[Nat.add_mul,Nat.one_mul,zlQ]
theorem Prs.start{N bs:Nat}{d:Nat->α}(h:Blk lt N bs d):Prs lt N bs 0 d:=⟨fun _ h=>absurd h (Nat.not_lt_zero _),fun u _=>h u⟩
theorem Prs.left{N bs t:Nat}{d:Nat->α}(h:Prs lt N bs t d)(hN:t*(2*bs)+bs<=N):Srt lt d (t*(2*bs)) (t*(2*bs)+bs):=by
 have:=h.hi (2*t) (qr _)
 rwa [zlQ,Nat.min_eq_left hN] at this
theorem Prs.right{N bs t:Nat}{d:Nat->α}(h:Prs lt N bs t d):Srt lt d (t*(2*bs)+bs) (min (t*(2*bs)+2*bs) N):=by
 have:=h.hi (2*t+1) (by omega)
 rwa [zGe,show t*(2*bs)+bs+bs=t*(2*bs)+2*bs by omega] at this
theorem Prs.next{N bs t:Nat}{d d':Nat->α}(h:Prs lt N bs t d)(r:Res N (t*(2*bs)) (t*(2*bs)+2*bs) d d')(hs:Srt lt d' (t*(2*bs)) (t*(2*bs)+2*bs)):Prs lt N bs (t+1) d':=
 ⟨h.lo.next r hs,fun u hu=>(h.hi u (by omega)).kept r (.inr (by
  have h1:=Nat.mul_le_mul_right bs (show 2*(t+1)<=u by omega);rw[zlQ,Nat.add_mul,Nat.one_mul] at h1;exact h1))⟩
theorem Prs.last{N bs t:Nat}{d d':Nat->α}(h:Prs lt N bs t d)(hN:N<t*(2*bs)+2*bs)(r:Res N (t*(2*bs)) N d d')(hs:Srt lt d' (t*(2*bs)) N):Blk lt N (2*bs) d':=h.lo.last hN r hs
theorem Prs.short{N bs t:Nat}{d:Nat->α}(h:Prs lt N bs t d)(hN:N<=t*(2*bs)+bs):Srt lt d (t*(2*bs)) N:=by
 have:=h.hi (2*t) (qr _)
 rwa [zlQ,Nat.min_eq_right hN] at this
end Stb
end
section
open Go.RowKit Game Stb
open Go.Sort (SWO)
theorem zyE(E:TE)(B G cap N:Nat)(d:Nat->RowRef)(w:World)(ig:SWO (ltOf E.cf))(hN:N<=1048576)(S:TSt E w w B G cap N d):
 Calls Tryz.prog 167 #[(qS (some ⟨G,0,none⟩) N cap),.int .i64 N,.func (.func 124) #[] #[.pointer (some ⟨E.bc,0,none⟩),.pointer (some ⟨E.bv,0,none⟩)]] w fun e w'=>e= .returned (.tuple #[])/\∃d',TSt E w w' B G cap N d'/\Srt (ltOf E.cf) d' 0 N/\Res N 0 N d d':=by
 have S0:=qd S;clear S
 go_enter Tryz.func167,Tryz.ntmps167
 go_wp2_with fail;go_loopg [7,8] N (fun gk av bv wr=>∃(t a b:Nat) (d':Nat->RowRef),a<=N/\b<=a+20/\a+20<=b/\N-a<=gk/\av= .int .i64 a/\bv= .int .i64 b/\Hid (t*20=a)/\Hid (TSt E w wr B G cap N d')/\Hid (Fst (ltOf E.cf) 20 t d')/\Hid (Res N 0 N d d'))
 case atStart=>exact⟨0,0,20,d,qz _,by omega,by omega,by omega,rfl,rfl,qd (by omega),S0,qd (fun u h=>absurd h (Nat.not_lt_zero _)),qd (Res.refl d)⟩
 case round=>
  clear S0;obtain⟨t,a,b,d1,zQ,ad,ae,hg,rfl,rfl,Ha,S,HF,HR⟩:=hrel;by_cases ja:b<=N
  ·have hz:(b:Int)<=(N:Int):=by omega
   have aa:=zmk E B G cap N a b d1 wr ig hN (by omega) ja S.out.here;have ab:=qd aa;clear aa;go_wp2_with fail;refine ab.out.mono ?_;rintro e w1 ⟨rfl,d2,S2,t2,r2⟩;have S2:=qd (S.out.from S2);have eb:b=a+20:=by omega
   have F2:Hid (Fst (ltOf E.cf) 20 (t+1) d2):=Fst.next HF.out (by rw[Ha.out,<-eb];exact r2) (by rw[Ha.out,<-eb];exact t2);have R2:=qd (HR.out.trans (r2.wide (qz _) ja));have Hb:Hid ((t+1)*20=b):=by have:=Ha.out;show _=_;omega
   clear ab S t2 r2 eb HF HR Ha;go_wp2_with fail
   go_roundg (N-b)
   case measure=>omega
   case rel=>exact⟨t+1,b,b+20,d2,ja,qr _,qr _,qr _,rfl,by go_num,Hb,S2,F2,R2⟩
  ·have hz:¬(b:Int)<=(N:Int):=by omega
   have aa:=zmk E B G cap N a N d1 wr ig hN zQ (qr _) S.out.here;have ab:=qd aa;clear aa;go_wp2_with fail;refine ab.out.mono ?_;rintro e w1 ⟨rfl,d2,S2,t2,r2⟩;have S2:=qd (S.out.from S2);have K2:Hid (Blk (ltOf E.cf) N 20 d2):=Fst.last HF.out (by rw[Ha.out];omega) (by rw[Ha.out];exact r2) (by rw[Ha.out];exact t2);have R2:=qd (HR.out.trans (r2.wide (qz _) (qr _)));clear ab S t2 r2 HF HR Ha;go_wp2_with fail;go_loopg [6,7,8,9] N (fun gk bsv _ _ _ wr=>∃(bs:Nat) (d':Nat->RowRef),0<bs/\bs<=2*N+20/\N-bs<=gk/\bsv= .int .i64 bs/\Hid (TSt E w wr B G cap N d')/\Hid (Blk (ltOf E.cf) N bs d')/\Hid (Res N 0 N d d'))
   case atStart=>exact⟨20,d2,by omega,by omega,by omega,rfl,S2,K2,R2⟩
   case round=>
    clear S2 K2 R2 hz ja ad ae zQ;obtain⟨bs,d3,kn,KC,aP,rfl,S,HK,HR⟩:=hrel;by_cases ac:bs<N
    ·have fA:(bs:Int)<(N:Int):=by omega
     obtain⟨D,hD⟩:∃D,2*bs=D:=⟨_,rfl⟩;have HD:=qd hD;have eD:2*(bs:Int)=(D:Int):=by omega
     have eD2:(bs:Int)*2=(D:Int):=by omega
     have RF:bs<D:=by omega
     have Eb:D<=2*N:=by omega
     have RG:D<=bs+bs:=by omega
     have RH:bs+bs<=D:=by omega
     clear hD;go_wp2_with fail;go_loopg [7,8] N (fun g2 av bv wr2=>∃(t a b:Nat) (d':Nat->RowRef),a<=N/\b<=a+D/\a+D<=b/\N-a<=g2/\av= .int .i64 a/\bv= .int .i64 b/\Hid (t*(2*bs)=a)/\Hid (TSt E w wr2 B G cap N d')/\Hid (Prs (ltOf E.cf) N bs t d')/\Hid (Res N 0 N d d'))
     case atStart=>exact⟨0,0,D,d3,qz _,by omega,by omega,by omega,rfl,rfl,qd (Nat.zero_mul _),S,qd (Prs.start HK.out),HR⟩
     case round=>
      clear S HK HR;obtain⟨t,a,b,d4,zQ,ad,ae,aK,rfl,rfl,Ha,S,HP,HR⟩:=hrel;obtain⟨mm,nu⟩:∃mm,a+bs=mm:=⟨_,rfl⟩;have em:(a:Int)+(bs:Int)=(mm:Int):=by omega
      have eb:b=a+2*bs:=by have:=HD.out;omega
      have Hm:=qd nu;have Hb:=qd eb;have jc:a<mm:=by omega
      have zR:mm<b:=by omega
      have KD:mm<=a+bs:=by omega
      have KE:a+bs<=mm:=by omega
      clear nu eb;by_cases ja:b<=N
      ·have hz:(b:Int)<=(N:Int):=by omega
       have aa:=zjw E B G cap N ig hN (b-a) a mm b d4 _ (qr _) jc zR ja S.out.here
        (by have:=HP.out.left (by rw[Ha.out,Hm.out];omega);rwa [Ha.out,Hm.out] at this)
        (by have:=HP.out.right;rwa [Ha.out,Hm.out,<-Hb.out,Nat.min_eq_left ja] at this)
       have ab:=qd aa;clear aa;go_wp2_with fail;refine ab.out.mono ?_;rintro e w1 ⟨rfl,d5,S5,t5,r5⟩;have S5:=qd (S.out.from S5);have P5:Hid (Prs (ltOf E.cf) N bs (t+1) d5):=HP.out.next (by rw[Ha.out,<-Hb.out];exact r5) (by rw[Ha.out,<-Hb.out];exact t5);have R5:=qd (HR.out.trans (r5.wide (qz _) ja));have KF:Hid ((t+1)*(2*bs)=b):=by show _=_;rw[Nat.add_mul,Nat.one_mul,Ha.out,Hb.out]
       clear ab S t5 r5 HP HR Ha Hm Hb;go_wp2_with fail
       go_roundg (N-b)
       case measure=>omega
       case rel=>exact⟨t+1,b,b+D,d5,ja,qr _,qr _,qr _,rfl,by go_num,KF,S5,P5,R5⟩
      ·have hz:¬(b:Int)<=(N:Int):=by omega
       by_cases DY:mm<N
       ·have vt:(mm:Int)<(N:Int):=by omega
        have aa:=zjw E B G cap N ig hN (N-a) a mm N d4 _ (qr _) jc DY (qr _) S.out.here
         (by have:=HP.out.left (by rw[Ha.out,Hm.out];omega);rwa [Ha.out,Hm.out] at this)
         (by have:=HP.out.right;rwa [Ha.out,Hm.out,<-Hb.out,Nat.min_eq_right (by omega)] at this)
        have ab:=qd aa;clear aa;go_wp2_with fail;refine ab.out.mono ?_;rintro e w1 ⟨rfl,d5,S5,t5,r5⟩;have S5:=qd (S.out.from S5)
        have P5:Hid (Blk (ltOf E.cf) N D d5):=by
         have:=HP.out.last (d':=d5) (by rw[Ha.out,<-Hb.out];omega) (by rw[Ha.out];exact r5) (by rw[Ha.out];exact t5);rw[HD.out] at this;exact this
        have R5:=qd (HR.out.trans (r5.wide (qz _) (qr _)));clear ab S t5 r5 HP HR Ha Hm Hb;go_wp2_with fail
        go_roundg (N-D)
        case measure=>omega
        case rel=>exact⟨D,d5,by omega,by omega,qr _,rfl,S5,P5,R5⟩
       ·have vt:¬(mm:Int)<(N:Int):=by omega
        have P5:Hid (Blk (ltOf E.cf) N D d4):=by
         have:=HP.out.last (d':=d4) (by rw[Ha.out,<-Hb.out];omega) (Res.refl d4) (HP.out.short (by rw[Ha.out,Hm.out];omega));rw[HD.out] at this;exact this
        clear HP Ha Hm Hb;go_wp2_with fail
        go_roundg (N-D)
        case measure=>omega
        case rel=>exact⟨D,d4,by omega,by omega,qr _,rfl,S,P5,HR⟩
    ·have fA:¬(bs:Int)<(N:Int):=by omega
     go_wp2_with fail
     go_end0
     exact⟨rfl,d3,S.out,HK.out.all (by omega),HR.out⟩
theorem zrw(E:TE)(B G cap N:Nat)(d:Nat->RowRef)(w:World)(ig:SWO (ltOf E.cf))(hN:N<=1048576)(S:TSt E w w B G cap N d):
 Calls Tryz.prog 123 #[(qS (some ⟨G,0,none⟩) N cap),.func (.func 124) #[] #[.pointer (some ⟨E.bc,0,none⟩),.pointer (some ⟨E.bv,0,none⟩)]] w fun e w'=>e= .returned (.tuple #[])/\∃d',TSt E w w' B G cap N d'/\Srt (ltOf E.cf) d' 0 N/\Res N 0 N d d':=by
 have aa:=zyE E B G cap N d w ig hN S;have ab:=qd aa;clear aa S
 go_enter Tryz.func123,Tryz.ntmps123
 go_wp2_with fail;refine ab.out.mono ?_;rintro e w1 ⟨rfl,S1⟩;clear ab;go_wp2_with fail
 go_end0
 exact⟨rfl,S1⟩
end
section
open Go.RowKit Game
open Go.Sort (SWO)
def hgL(c:LL)(v:LI)(r:RowRef):Int:=zak (zaD c v r.2.2)
def znC(c:LL)(v:LI)(bc bv:Nat):TE:=⟨zbw c v,fun x y=>zcM (hgL c v x) (hgL c v y),bc,bv⟩
theorem zxv(a b:Int):zcM a b<0↔a<b:=by
 unfold zcM
 split
 ·omega
 ·split <;> omega
theorem zIN(c:LL)(v:LI)(bc bv:Nat):SWO (ltOf (znC c v bc bv).cf):=by
 have e:∀x y,ltOf (znC c v bc bv).cf x y=decide (hgL c v x<hgL c v y):=fun x y=>by
  show decide (zcM (hgL c v x) (hgL c v y)<0)=_;rw[decide_eq_decide];exact zxv _ _
 refine⟨fun x=>?_,fun x y z h1 h2=>?_,fun x y z h1 h2=>?_⟩
 ·rw[e];simp
 ·rw[e] at*;have a1:=of_decide_eq_true h1;have a2:=of_decide_eq_true h2;exact decide_eq_true (by omega)
 ·rw[e] at*;have a1:=of_decide_eq_false h1;have a2:=of_decide_eq_false h2;exact decide_eq_false (by omega)
theorem zIO(gc oc cc g o cv bc bv:Nat)(c:LL)(v:LI)(x y:RowRef)(W:World)(hK:zeT c)(hS:zbi c v)(aS:c.length<=cc)(hx:zbw c v x.2.2)(hy:zbw c v y.2.2)
 (kc:W.cell? ⟨bc,0,none⟩=some (qS (some ⟨gc,oc,none⟩) c.length cc)) (kv:W.cell? ⟨bv,0,none⟩=some (qS (some ⟨g,o,none⟩) c.length cv)) (ah:gc<W.heap.size) (hg:g<W.heap.size) (hr:zal W gc oc c) (hv:zag W g o v)
 (bN:Own W 0 x.1 x.2.1 x.2.2) (iV:Own W 0 y.1 y.2.1 y.2.2):
 Calls Tryz.prog 124 #[zah x,zah y,.pointer (some ⟨bc,0,none⟩),.pointer (some ⟨bv,0,none⟩)] W fun e w'=>e= .returned (.int .i64 ((znC c v bc bv).cf x y))/\Below W.heap.size W w':=by
 have aR:=hK.hC.2.1;obtain⟨xg,xc,xs⟩:=x;obtain⟨yg,yc,ys⟩:=y;have dF:xs.length=c.length:=hx.len;have gZ:ys.length=c.length:=hy.len;have e0:(znC c v bc bv).cf (xg,xc,xs) (yg,yc,ys)=zcM (zak (zaD c v xs)) (zak (zaD c v ys)):=rfl;rw[e0];show Calls _ _ #[(qS (some ⟨xg,0,none⟩) xs.length xc),(qS (some ⟨yg,0,none⟩) ys.length yc),_,_] _ _;rw[dF,gZ];have sB:Own W 0 xg xc xs:=bN;have qe:Own W 0 yg yc ys:=iV;have bZ:=hS.small
 have dif:∀(zg zc:Nat) (z:LI) (V:World),zbw c v z->Below W.heap.size W V->Own V 0 zg zc z->Calls Tryz.prog 125 #[(qS (some ⟨gc,oc,none⟩) c.length cc),(qS (some ⟨g,o,none⟩) c.length cv),(qS (some ⟨zg,0,none⟩) c.length zc)] V (zbl V (zaD c v z) true):=fun zg zc z V hz hV ho=>by
  have hb:=hz.box;have hd:=zjs hK hS hz;refine(zhs gc oc _ cc g o cv zg 0 zc c v z V rfl hS.len hz.len hK aS (fun j hj=>by have:=bZ j hj;omega) (fun j hj=>by have:=hb j hj;omega) (qL ah hV.size) (qL hg hV.size) ho.lt (hr.below hV ah) (hv.below hV hg) ho.cells).mono fun e w' hq=>?_
  rcases hq with⟨-,h⟩|⟨h,-⟩
  ·exact h
  ·rw[hd.dif] at h;cases h
 have vH:=qd (dif xg xc xs W hx (Below.refl _ _) sB);have NX:=qd (fun V hV=>dif yg yc ys V hy hV (qe.below hV qe.lt));have yA:=qd (zcY c v xs);have Ec:=qd (zcY c v ys);have AP:bc<W.heap.size:=World.block_lt_of_cell? W _ (by exact kc);have FR:bv<W.heap.size:=World.block_lt_of_cell? W _ (by exact kv);clear dif hx hy bN iV sB qe bZ e0 dF gZ hS hK;generalize zaD c v xs=dx at*;generalize zaD c v ys=dy at*
 go_enter Tryz.func124,Tryz.ntmps124
 go_wp2_with fail;refine vH.out.mono ?_;rintro e w1 ⟨g1,c1,rfl,au,ad⟩;have kc1:=(ad.cell (p:=⟨bc,0,none⟩) AP).trans kc;have kv1:=(ad.cell (p:=⟨bv,0,none⟩) FR).trans kv;have fi:=qd (NX.out w1 ad);have Ed:=au.lt;rw[yA.out];clear vH NX;go_wp2_with fail;refine fi.out.mono ?_;rintro e w2 ⟨g2,c2,rfl,ar,ae⟩;have az:=ad.trans (ae.mono ad.size);have qm:=au.below ae Ed;rw[Ec.out];have yh:=qd (zdE g1 0 c.length c1 dx w2 yA.out (by rw[yA.out];omega) qm.cells);clear fi au Ed kc1 kv1 ad ae;go_wp2_with fail;refine yh.out.mono ?_;rintro e w3 ⟨rfl,jX⟩;have Gc:=qd (zdE g2 0 c.length c2 dy w3 Ec.out (by rw[Ec.out];omega) (ar.cells.still jX));have ap:=zaf az jX;clear yh jX;go_wp2_with fail;refine Gc.out.mono ?_;rintro e w4 ⟨rfl,ko⟩;have aG:=zaf ap ko;have NY:=qd (zlk (zak dx) (zak dy) w4);clear Gc ko ap;go_wp2_with fail;refine NY.out.mono ?_;rintro e w5 ⟨rfl,kX⟩;have bj:=zaf aG kX;clear NY;go_wp2_with fail;go_ret;exact⟨rfl,bj⟩
end
section
open Go.RowKit
structure zkc(n:Nat)(o:LI):Prop where
 len:o.length=n
 box:∀j,j<n->0<=o.getD j 0/\o.getD j 0<=200
theorem zqL(o:LI)(j k:Nat)(z:Int):(o.set j z).getD k 0=if j=k/\k<o.length then z else o.getD k 0:=by
 simp only[List.getD,List.getElem?_set];by_cases h:j=k
 ·subst h;by_cases h2:j<o.length
  ·simp[h2]
  ·simp[h2]
 ·simp[h]
theorem zkc.set{n:Nat}{o:LI}(h:zkc n o)(j:Nat){z:Int}(hz:0<=z/\z<=200):zkc n (o.set j z):=
 ⟨by rw[List.length_set];exact h.len,fun k hk=>by
  rw[zqL]
  split
  ·exact hz
  ·exact h.box k hk⟩
theorem zyF(n:Nat):zkc n (List.replicate n 0):=⟨by simp,fun j hj=>by simp[List.getD,hj]⟩
section
variable {c:LL} {tab:List (List Nat)}
theorem zwL{i j:Nat}{s s':LI × List Nat}(h:znt c i s j=some s'):
 (s.1.getD j 0≠0/\s'=s)∨(s.1.getD j 0=0/\∃z,z=(s.1.getD i 0*ent c i j).tdiv (ent c j i)/\1<=z/\z<=200/\s.2.length<4/\s'=(s.1.set j z,s.2++[j])):=by
 unfold znt at h
 split at h
 ·rename_i h0
  split at h
  ·rename_i h1
   cases h
   exact .inr ⟨h0,_,rfl,h1.1,h1.2.1,h1.2.2,rfl⟩
  ·cases h
 ·rename_i h0
  cases h
  exact .inl ⟨h0,rfl⟩
theorem zyG{i j:Nat}{l:List Nat}{s S:LI × List Nat}(h:zhX c i (j::l) s=some S):∃s',znt c i s j=some s'/\zhX c i l s'=some S:=by
 unfold zhX at h
 split at h
 ·cases h
 ·rename_i s' e
  exact⟨s',e,h⟩
theorem zGf{i t:Nat}{l:List Nat}{s S:LI × List Nat}(ht:t<l.length)(h:zhX c i (l.drop t) s=some S):∃s',znt c i s (l.getD t 0)=some s'/\zhX c i (l.drop (t+1)) s'=some S:=by
 rw[List.drop_eq_getElem_cons ht] at h;have e:l.getD t 0=l[t]:=by simp[List.getD,ht]
 rw[e];exact zyG h
theorem zBh{i:Nat}{l:List Nat}{s S:LI × List Nat}(h:zhX c i (l.drop l.length) s=some S):s=S:=by
 rw[List.drop_length] at h
 cases h;rfl
theorem zBi{f k:Nat}{s S:LI × List Nat}(h:zhg c tab f k s=some S)(hk:k<s.2.length):∃f' s',f=f'+1/\zhX c (s.2.getD k 0) (tab.getD (s.2.getD k 0) []) s=some s'/\zhg c tab f' (k+1) s'=some S:=by
 cases f with
 |zero=>
  unfold zhg at h;rw[if_pos hk] at h
  cases h
 |succ f=>
  unfold zhg at h;rw[if_pos hk] at h
  split at h
  ·cases h
  ·rename_i s' e
   exact⟨f,s',rfl,e,h⟩
theorem zGg{f k:Nat}{s S:LI × List Nat}(h:zhg c tab f k s=some S)(hk:¬k<s.2.length):s=S:=by
 cases f with
 |zero=>
  unfold zhg at h;rw[if_neg hk] at h
  cases h;rfl
 |succ f=>
  unfold zhg at h;rw[if_neg hk] at h
  cases h;rfl
theorem zwM{p:List Nat}{out out':LI}(h:zqF c tab p out=some out'):∃s,zhg c tab 5 0 (out.set (p.getD 0 0) 36,[p.getD 0 0])=some s/\zfy s.1 p≠0/\(∀x∈s.1,0<=x/\x<=200)/\out'=zhY (zfy s.1 p) p s.1:=by
 unfold zqF at h
 split at h
 ·cases h
 ·rename_i s e
  split at h
  ·cases h
  ·rename_i hg
   split at h
   ·rename_i ha
    cases h
    refine⟨s,e,hg,fun x hx=>?_,rfl⟩;have h1:=List.all_eq_true.1 ha x hx;rw[Bool.and_eq_true] at h1;exact⟨of_decide_eq_true h1.1,of_decide_eq_true h1.2⟩
   ·cases h
theorem zIP{t:Nat}{P:List (List Nat)}{out F:LI}(ht:t<P.length)(h:znu c tab (P.drop t) out=some F):∃out',zqF c tab (P.getD t []) out=some out'/\znu c tab (P.drop (t+1)) out'=some F:=by
 rw[List.drop_eq_getElem_cons ht] at h;have e:P.getD t []=P[t]:=by simp[List.getD,ht]
 rw[e];unfold znu at h
 split at h
 ·cases h
 ·rename_i out' e
  exact⟨out',e,h⟩
theorem zGh{P:List (List Nat)}{out F:LI}(h:znu c tab (P.drop P.length) out=some F):out=F:=by
 rw[List.drop_length] at h
 cases h;rfl
theorem zyH(o:LI)(p:List Nat){t:Nat}(ht:t<p.length):zfy o (p.take (t+1))=Nat.gcd (o.getD (p.getD t 0) 0).toNat (zfy o (p.take t)):=by
 unfold zfy;rw[qT ht,List.foldl_append];simp[List.getD,ht]
theorem zyI(g:Nat)(p:List Nat)(o:LI){t:Nat}(ht:t<p.length):zhY g (p.take (t+1)) o=(zhY g (p.take t) o).set (p.getD t 0) (((zhY g (p.take t) o).getD (p.getD t 0) 0).tdiv g):=by
 unfold zhY;rw[qT ht,List.foldl_append];simp[List.getD,ht]
theorem zIQ{x:Int}{g:Nat}(hx:0<=x/\x<=200)(_hg:g≠0):0<=x.tdiv g/\x.tdiv g<=200:=by
 have h1:0<=x.tdiv g:=Int.tdiv_nonneg hx.1 (Int.natCast_nonneg g);have h2:x.tdiv g<=x:=Int.tdiv_le_self _ hx.1;omega
theorem zBj{n:Nat}{g:Nat}(hg:g≠0)(p:List Nat){o:LI}(h:zkc n o)(hp:∀q∈p,q<n):zkc n (zhY g p o):=by
 unfold zhY
 induction p generalizing o with
 |nil=>exact h
 |cons q p ih=>
  exact ih (h.set q (zIQ (h.box q (hp q (by simp))) hg)) fun q' hq=>hp q' (by simp[hq])
theorem zlR{n:Nat}{p:List Nat}(h:znL n p=true):1<=p.length/\p.length<=4/\∀q∈p,q<n:=by
 unfold znL at h;simp only[Bool.and_eq_true] at h;exact⟨of_decide_eq_true h.2.1,of_decide_eq_true h.2.2.1,fun q hq=>of_decide_eq_true (List.all_eq_true.1 h.2.2.2 q hq)⟩
theorem zjx:∀{n:Nat} {P:List (List Nat)},zcL tab n=some P->P.length<=n
 |0,P,h=>by
  unfold zcL at h
  cases h;simp
 |n+1,P,h=>by
  unfold zcL at h
  split at h
  ·rename_i out p e1 e2
   have h1:=zjx e1
   split at h
   ·cases h;simp;omega
   ·cases h;omega
  ·cases h
theorem zGi{i:Nat}(hi:i<c.length):(zbx c).getD i []=nbL c i:=by simp[zbx,List.getD,hi]
theorem zIR{i j:Nat}(h:j∈nbL c i):j<c.length/\j≠i/\ent c i j≠0:=by
 unfold nbL at h;rw[List.mem_filter,List.mem_range] at h;have h2:=h.2;rw[Bool.and_eq_true] at h2;exact⟨h.1,by simpa using h2.1,by simpa using h2.2⟩
theorem zGj(i:Nat):(nbL c i).length<=c.length:=by
 unfold nbL;exact qt (List.length_filter_le _ _) (by simp)
end
end
section
open Go.RowKit
theorem zvt(a b:Nat)(w:World):Calls Tryz.prog 102 #[.int .i64 a,.int .i64 b] w (zap w (.int .i64 ((Nat.gcd a b:Nat):Int))):=by
 generalize hG:Nat.gcd a b=G;have HG:=qd hG;clear hG
 go_enter Tryz.func102,Tryz.ntmps102
 go_wp2;go_loopw [0,1] (fun xv yv wr=>∃(x y q:Nat),xv= .int .i64 x/\yv= .int .i64 y/\Hid (Nat.gcd x y=G)/\wr=w.drewN q) (fun _ yv _=>(intOf yv).toNat)
 case atStart=>exact⟨a,b,0,rfl,rfl,HG.out,rfl⟩
 case round=>
  obtain⟨x,y,q,rfl,rfl,hg,rfl⟩:=hrel;by_cases hy:y=0
  ·subst hy;have hx:x=G:=by have h:=hg.out;rwa [Nat.gcd_zero_right] at h
   subst hx;go_wp2;go_ret;exact⟨rfl,(by first|exact⟨_,rfl⟩|exact⟨0,rfl⟩|exact zam _ _ _|exact zan _ _ _ _)⟩
  ·have ao:((y:Int) != 0)=true:=by rw[bne_iff_ne];omega
   have ky:((y:Int)==0)=false:=by rw[beq_eq_false_iff_ne];omega
   have hm:Int.tmod (x:Int) (y:Int)=((x % y:Nat):Int):=by rw[Int.tmod_eq_emod_of_nonneg (by omega)];simp
   have ac:x % y<y:=Nat.mod_lt _ (by omega);have aP:Hid (Nat.gcd y (x % y)=G):=qd (by rw[Nat.gcd_comm,<-Nat.gcd_rec,Nat.gcd_comm];exact hg.out);generalize x % y=z at*;go_wp2;go_quiet (fail)
   go_wp2;go_roundw
   case rel=>exact⟨y,z,_,rfl,rfl,aP.out,World.drewN_drewN _ _ _⟩
   case measure=>simp[intOf];omega
end
section
open Go.RowKit Game
theorem zab.keep{w w':World}{B g cap k:Nat}{rs:List RowRef}(h:zab w B g cap rs)(hg:w.grownBy w' (some k))(hk:k<B):zab w' B g cap rs:=
 ⟨h.1.grown hg (fun e=>by have:=h.base;have:=Option.some.inj e;omega),fun r hr=>(h.2.1 r hr).grown hg (fun e=>by have:=(h.2.1 r hr).base;have:=Option.some.inj e;omega),h.2.2⟩
theorem zck{rs:List RowRef}{k:Nat}(hk:k<rs.length):(zaa rs).getD k []=rs[k].2.2:=by simp[zaa,List.getD,hk]
theorem zxw{x y:Int}(hx:-1000000<=x/\x<=1000000):IntKind.i64.wrap (x.tdiv y)=x.tdiv y:=by
 have h1:(x.tdiv y).natAbs<=x.natAbs:=by
  rw[Int.natAbs_tdiv];exact Nat.div_le_self _ _
 exact IntWalk.i64_in _ ⟨by omega,by omega⟩
structure SzW(w w3 wi:World)(n gO gQ cQ:Nat)(s:LI × List Nat):Prop where
 ownO:Own wi w.heap.size gO n s.1
 ownQ:Own wi w3.heap.size gQ cQ (zae s.2)
 gr:w3.grownBy wi (some gO)
 bel:Below w.heap.size w wi
 box:zkc n s.1
 lt:∀q∈s.2,q<n
 four:s.2.length<=4
 gle:w.heap.size<=gO
 glt:gO<w3.heap.size
section
variable {w w3 wi wj:World} {n gO gQ cQ:Nat} {s:LI × List Nat}
theorem SzW.below(h:SzW w w3 wi n gO gQ cQ s)(hb:Below wi.heap.size wi wj):SzW w w3 wj n gO gQ cQ s:=
 ⟨h.ownO.below hb h.ownO.lt,h.ownQ.below hb h.ownQ.lt,World.grownBy.trans' h.gr ⟨hb.os,hb.tape,hb.output,hb.size,fun k hk _=>hb.block k hk⟩,h.bel.trans (hb.mono h.bel.size),h.box,h.lt,h.four,h.gle,h.glt⟩
theorem SzW.setO(h:SzW w w3 wi n gO gQ cQ s)(j:Nat){z:Int}(hz:0<=z/\z<=200):SzW w w3 (wi.setCell ⟨gO,j,none⟩ (.int .i64 z)).drew n gO gQ cQ (s.1.set j z,s.2):=by
 obtain⟨s1,s2⟩:=h.ownO.set j z;have hx:SzW w w3 (wi.setCell ⟨gO,j,none⟩ (.int .i64 z)) n gO gQ cQ (s.1.set j z,s.2):=⟨s1,h.ownQ.grown s2 (fun e=>by have h1:=Option.some.inj e;have h2:=h.ownQ.base;have:=h.glt;omega),World.grownBy.trans' h.gr s2,h.bel.grown s2 h.bel.size (by intro j hj;cases hj;exact h.gle),h.box.set j hz,h.lt,h.four,h.gle,h.glt⟩;exact hx.below (Below.drew (Below.refl _ _))
theorem SzW.push(h:SzW w w3 wi n gO gQ cQ s){j gQ' cQ':Nat}(hj:j<n)(h4:s.2.length<4)(ho:Own wj w3.heap.size gQ' cQ' (zae (s.2++[j])))(hg:wi.grownBy wj (some gQ)):SzW w w3 wj n gO gQ' cQ' (s.1,s.2++[j]):=by
 have ao:gQ≠gO:=by have h1:=h.ownQ.base;have:=h.glt;omega
 refine⟨h.ownO.grown hg (fun e=>ao (Option.some.inj e).symm),ho,?_,h.bel.grown hg h.bel.size (by intro k hk;cases hk;have h1:=h.ownQ.base;have:=h.glt;have:=h.gle;omega),h.box,fun q hq=>?_,by simp;omega,h.gle,h.glt⟩
 ·refine⟨hg.os.trans h.gr.os,hg.tape.trans h.gr.tape,hg.output.trans h.gr.output,qt h.gr.size hg.size,fun k hk ma=>(hg.block k (qL hk h.gr.size) (fun e=>?_)).trans (h.gr.block k hk ma)⟩;have h1:=Option.some.inj e;have h2:=h.ownQ.base;omega
 ·rcases List.mem_append.1 hq with h1|h1
  ·exact h.lt q h1
  ·rw[List.mem_singleton] at h1;subst h1;exact hj
end
theorem zkV(gc oc n cc:Nat)(c:LL)(w:World)(hn:c.length=n)(hC:IsC c)(hf:zaN c=true)(ah:gc<w.heap.size)(hr:zal w gc oc c):
 Calls Tryz.prog 121 #[(qS (some ⟨gc,oc,none⟩) n cc)] w (zbl w (zbt c) true):=by
 subst hn;have aR:=hC.2.1;have bD:=hC.2.2.1;have hZ:=zob hC hf;obtain⟨fs,P,GI,ug,cU,-⟩:=zpa hC;have aa:=zdd gc oc _ cc c w rfl (by omega) (fun j hj=>by have:=bD j hj;omega) ah hr;rw[hf] at aa
 have hI:znu c (zbx c) P (List.replicate c.length 0)=some (zbt c):=by
  have h:=hZ.i;unfold zyv zqG at h;rw[ug] at h;exact h
 have jF:∀W,Below w.heap.size w W->Calls Tryz.prog 164 #[(qS (some ⟨gc,oc,none⟩) c.length cc)] W (zbC W (P.map zae)):=fun W hW=>
  zgZ gc oc _ cc c P fs W rfl hC GI (fun p hp=>(zlR (cU p hp)).2.1) (qL ah hW.size) (hr.below hW ah)
 have fI:∀W i,Below w.heap.size w W->i<c.length->Calls Tryz.prog 165 #[(qS (some ⟨gc,oc,none⟩) c.length cc),.int .i64 i] W (zav W (zae (nbL c i))):=fun W i hW hi=>
  zgW gc oc _ cc i c W rfl hC hi (qL ah hW.size) (hr.below hW ah)
 have rC:P.length<=4:=qt (zjx ug) aR;have ab:=qd aa;have jG:=qd jF;have Co:=qd fI;have mF:=qd (fun p hp=>zlR (cU p hp));have zS:=qd (fun i j (hi:i<c.length) (hj:j<c.length) (ao:i≠j)=>(zbS hC).off i j hi hj ao);have HI:=qd hI;have dY:=qd bD;have KG:=qd hZ.len;clear aa jF fI cU hI hZ bD GI ug hC
 go_enter Tryz.func121,Tryz.ntmps121
 go_wp2_with fail;refine ab.out.mono ?_;rintro e w1 ⟨rfl,ad⟩;clear ab;go_wp2_with (at_make;refine zbF rfl _ _ rfl w.heap.size c.length _ rfl rfl rfl (by omega) ad.size ?_);intro w2 ar aP;have az:Below w.heap.size w w2:=ad.grown aP ad.size (by intro j hj;cases hj);have lu:w.heap.size<=w1.heap.size:=ad.size;generalize w1.heap.size=gO at*;have Hp:=qd (jG.out w2 az);have qn:=ar.lt;clear jG ad aP;go_wp2_with fail;refine Hp.out.mono ?_;rintro e w3 ⟨gP,cP,rsP,rfl,fj,Ee,ag⟩;have ap:=az.trans (ag.mono az.size);have al:=ar.below ag qn;have Ef:(P.map zae).length=P.length:=by simp
 have KH:gO<w3.heap.size:=qL qn ag.size;rw[Ef];clear Hp ag ar az;go_wp2_with fail;go_loopw [27] (fun kv wr=>∃(t:Nat) (out:LI),t<=P.length/\kv= .int .i64 t/\Hid (znu c (zbx c) (P.drop t) out=some (zbt c))/\Hid (zkc c.length out)/\Own wr w.heap.size gO c.length out/\w3.grownBy wr (some gO)/\Below w.heap.size w wr) (fun kv _=>P.length-(intOf kv).toNat)
 case atStart=>exact⟨0,List.replicate c.length 0,qz _,rfl,HI,zyF _,al,World.grownBy.refl _ _,ap⟩
 case round=>
  clear al ap HI;obtain⟨t,out,ht,rfl,zT,xr,ho,bn,hb⟩:=hrel;by_cases bU:t<P.length
  ·obtain⟨out',NZ,sT⟩:=zIP bU zT.out;have rW:P.getD t []∈P:=by simp[List.getD,bU]
   obtain⟨ls,tV,um⟩:=mF.out _ rW;obtain⟨S,lS,qg,aE,xu⟩:=zwM NZ;have mS:=Ee.keep bn qn;have im:t<rsP.length:=by rw[<-zac,fj,Ef];exact bU
   have q0:wr.cell? ⟨gP,t,none⟩=some (zah rsP[t]):=by
    rw[mS.1.cell t (by simpa using im)];simp
   have pj:=mS.2.1 _ (List.getElem_mem im);have zU:=Ee.2.1 _ (List.getElem_mem im)
   have e1:rsP[t].2.2=zae (P.getD t []):=by
    rw[<-zck im,fj];simp[List.getD,bU]
   generalize rsP[t]=rj at*;obtain⟨gj,cj,xj⟩:=rj;dsimp only at e1 pj zU;subst e1;have q1:wr.cell? ⟨gP,t,none⟩=some (qS (some ⟨gj,0,none⟩) ((zae (P.getD t [])).length) cj):=q0;rw[zai] at q1;clear q0;generalize P.getD t []=p at*;obtain⟨p0,pf⟩:∃p0,p.getD 0 0=p0:=⟨_,rfl⟩;have vI:p0<c.length:=by rw[<-pf];exact um _ (by simp[List.getD,show 0<p.length by omega])
   rw[pf] at lS;have k0:=pj.cell 0 (by rw[zai];omega);rw[zbB _ _ (by omega),pf] at k0;have GJ:gj≠gO:=by have:=pj.base;omega
   have s1:=ho.set p0 36;obtain⟨s1,s2⟩:=s1;have x0:=ho.cell p0 (by rw[xr.out.len];exact vI);have y0:=ho.frozen p0;have Eg:=xr.out.set p0 (z:=36) (by omega);have aP:=World.grownBy.trans' bn s2;have az:Below w.heap.size w (wr.setCell ⟨gO,p0,none⟩ (.int .i64 36)):=hb.grown s2 hb.size (by intro j hj;cases hj;exact lu);have k0':=s2.cell k0 (fun e=>GJ (Option.some.inj e));have sU:=pj.grown s2 (fun e=>GJ (Option.some.inj e));have Tk:=qd sU
   have Oa:SzW w w3 ((wr.setCell ⟨gO,p0,none⟩ (.int .i64 36)).alloc (.cells #[.int .i64 p0] 3)) c.length gO (wr.setCell ⟨gO,p0,none⟩ (.int .i64 36)).heap.size 1 (out.set p0 36,[p0]):=
    ⟨s1.alloc _,Own.new (p0:Int) aP.size,World.grownBy.trans' aP (World.grownBy_alloc _ _ _),az.alloc az.size _,Eg,by simpa using vI,by simp,lu,KH⟩
   have KI:Below w3.heap.size w3 w3:=Below.refl _ _;have KJ:=qd (zU);have Bf:=qd lS;have pR:=qd sT;have GK:=qd um;have gY:=qd aE;have vJ:=qd xu;clear pj zU sU Eg lS sT um aE xu NZ zT xr rW ho bn hb s2 pf mS aP az KI;go_wp2_with fail;clear k0 k0' x0 y0 s1;go_loopw [7,8] (fun qv kv wi=>∃(f k gQ cQ nQ:Nat) (s:LI × List Nat),f+k=5/\kv= .int .i64 k/\qv=(qS (some ⟨gQ,0,none⟩) nQ cQ)/\Hid (s.2.length=nQ)/\k<=nQ/\nQ<=4/\Hid (zhg c (zbx c) f k s=some S)/\SzW w w3 wi c.length gO gQ cQ s) (fun _ kv _=>6-(intOf kv).toNat)
   case atStart=>exact⟨5,0,_,1,1,(out.set p0 36,[p0]),rfl,rfl,by simp,rfl,by omega,by omega,Bf,Oa⟩
   case round=>
    clear Oa Bf;obtain⟨f,k,gQ,cQ,nQ,s,FV,rfl,rfl,fq,lQ,sV,lS,hW⟩:=hrel;by_cases ac:k<nQ
    ·obtain⟨f',s',rfl,aC,kz⟩:=zBi lS.out (by rw[fq.out];exact ac);have xq:k<s.2.length:=by rw[fq.out];exact ac
     have hi:s.2.getD k 0<c.length:=hW.lt _ (by simp[List.getD,xq]);have kq:=hW.ownQ.cell k (by rw[zai];exact xq);rw[zbB _ _ xq] at kq;generalize s.2.getD k 0=i at*;rw[zGi hi] at aC;have aa:=Co.out wr i hW.bel hi;have ab:=qd aa;have ev:=qd aC;have KL:=qd kz;clear aa aC kz lS;go_wp2_with fail;refine ab.out.mono ?_;rintro e w5 ⟨gN,cN,rfl,kB,aQ⟩;have Ob:=hW.below aQ;have RI:gQ<gN:=qL hW.ownQ.lt kB.base;have Tl:gO<gN:=qL hW.ownO.lt kB.base;have kB:=kB.mono (qz _);clear ab hW aQ kq;rw[zai];have RJ:=qd (fun t (ht:t<(nbL c i).length)=>zIR (c:=c) (i:=i) (j:=(nbL c i).getD t 0) (by simp[List.getD,ht]));have Tm:(nbL c i).length<=4:=qt (zGj (c:=c) i) aR;generalize nbL c i=N at*;go_wp2_with fail;go_loopw [7,54] (fun qv tv wi=>∃(t gQ cQ nQ:Nat) (s:LI × List Nat),t<=N.length/\tv= .int .i64 t/\qv=(qS (some ⟨gQ,0,none⟩) nQ cQ)/\Hid (s.2.length=nQ)/\k<nQ/\nQ<=4/\Hid (zhX c i (N.drop t) s=some s')/\SzW w w3 wi c.length gO gQ cQ s/\Own wi 0 gN cN (zae N)/\gQ≠gN) (fun _ tv _=>N.length-(intOf tv).toNat)
     case atStart=>exact⟨0,gQ,cQ,nQ,s,qz _,rfl,rfl,fq,ac,sV,ev,Ob,kB,by omega⟩
     case round=>
      clear Ob kB fq sV xq ev ac lQ RI;obtain⟨t,gQ,cQ,nQ,s,ht,rfl,rfl,fq,lQ,sV,aC,hW,kB,ao⟩:=hrel;by_cases bU:t<N.length
      ·obtain⟨s2,aL,xw⟩:=zGf bU aC.out;obtain⟨hj,vF,nI⟩:=RJ.out t bU;have kN:=kB.cell t (by rw[zai];exact bU);rw[zbB _ _ bU] at kN;generalize N.getD t 0=j at*;have xj:=hW.ownO.cell j (by rw[hW.box.len];exact hj);have Tn:=hW.box.box j hj;have xy:=qd xw;clear aC xw
       rcases zwL aL with⟨h0,rfl⟩|⟨h0,z,hz,eJ,gK,To,rfl⟩
       ·have Tp:¬s2.1.getD j 0=0:=h0;generalize s2.1.getD j 0=xx at*;go_wp2_with fail;go_roundw
        case rel=>exact⟨t+1,gQ,cQ,nQ,s2,by omega,by go_num,rfl,fq,lQ,sV,xy,hW,kB,ao⟩
        case measure=>simp[intOf];omega
       ·have xi:=hW.ownO.cell i (by rw[hW.box.len];exact hi);have bX:=hW.box.box i hi;have qo:=hr.below hW.bel ah;obtain⟨g1,o1,c1,a1,a2,a3,a4⟩:=qo i hi;obtain⟨g2,o2,c2,b1,b2,b3,b4⟩:=qo j hj;rw[dY.out i hi] at a1;rw[dY.out j hj] at b1;have a5:=a4 j (by rw[dY.out i hi];exact hj);have b5:=b4 i (by rw[dY.out j hj];exact hi);have e1:(c.getD i []).getD j 0=ent c i j:=rfl;have e2:(c.getD j []).getD i 0=ent c j i:=rfl;rw[e1] at a5;rw[e2] at b5;have zV:=zS.out i j hi hj (fun e=>vF e.symm);have ky:ent c j i≠0:=fun e=>nI (zV.2.2.2 e)
        have qp:=hW.ownO.frozen j;have Oc:=hW.setO j (z:=z) (by omega);have Eh:=(kB.grown (hW.ownO.set j z).2 (fun e=>by have:=Option.some.inj e;omega)).below (Below.drew (Below.refl _ _)) (qL kB.lt (hW.ownO.set j z).2.size);rw[h0] at xj;generalize s.1.getD i 0=oi at*;generalize ent c i j=eij at*;generalize ent c j i=eji at*
        have hm:-600<=oi*eij/\oi*eij<=0:=by
         have h1:oi*eij<=oi*0:=Int.mul_le_mul_of_nonneg_left zV.2.1 bX.1;have h2:oi*-3<=oi*eij:=Int.mul_le_mul_of_nonneg_left zV.1 bX.1;omega
        have w1:IntKind.i64.wrap (oi*eij)=oi*eij:=IntWalk.i64_in _ ⟨by omega,by omega⟩;have w2:IntKind.i64.wrap ((oi*eij).tdiv eji)=z:=by rw[hz];exact zxw ⟨by omega,by omega⟩
        have Od:=qd Oc;have Oe:=qd Eh;clear hz Oc Eh a4 b4 hW kB zV a2 b2 qo aL;have w3':wrap64 (oi*eij)=oi*eij:=IntWalk.wrap64_in _ ⟨by omega,by omega⟩;have w4':wrap64 ((oi*eij).tdiv eji)=z:=by rw[<-w2];simp only[wrap64,IntKind.wrap_i64]
        go_wp2_with fail
        go_region
        clear a1 a3 a5 b1 b3 b5 xi xj qp w1 w2 ky w3' w4';have KM:=Od.out;have zW:=Oe.out;have qR:(zae s.2).length=nQ:=by rw[zai];exact fq.out
        have mQ:nQ<4:=by have:=fq.out;omega
        generalize ((wr.setCell ⟨gO,j,none⟩ (.int .i64 z)).drew)=w6 at*;clear Od Oe;go_wp2_with (at_builtin;refine zay (w:=w6) rfl _ _ rfl w3.heap.size gQ cQ nQ (zae s.2) (j:Int) qR KM.ownQ rfl rfl (by omega) ?_);intro g7 c7 w7 bY pG mx;rw[<-zdN] at bY;have RL:=KM.push hj (by have:=fq.out;show s.2.length<4;omega) bY pG;have KN:=zW.grown pG (fun e=>ao (Option.some.inj e).symm)
        have KO:g7≠gN:=by
         rcases mx with h|h
         ·rw[h];exact ao
         ·have:=zW.lt;omega
        clear KM zW bY pG mx;go_wp2_with fail;go_roundw
        case rel=>exact⟨t+1,g7,c7,nQ+1,(s.1.set j z,s.2++[j]),by omega,by go_num,rfl,by show _=_;rw[qA,fq.out];rfl,by omega,by omega,xy,RL,KN,KO⟩
        case measure=>simp[intOf];omega
      ·obtain rfl:t=N.length:=by omega
       have he:=zBh aC.out;subst he;clear aC kB;go_wp2_with fail;go_roundw
       case rel=>exact⟨f',k+1,gQ,cQ,nQ,s,by omega,by go_num,rfl,fq,by omega,sV,KL,hW⟩
       case measure=>simp[intOf];omega
    ·obtain rfl:k=nQ:=by omega
     have RN:=zGg lS.out (by rw[fq.out];omega);subst RN;have zX:Own wr w2.heap.size gj cj (zae p):=(KJ.out).grown hW.gr (fun e=>GJ (Option.some.inj e));have KP:=hW.ownO;have xr:=hW.box;have bn:=hW.gr;have ji:=hW.bel;clear lS hW;have bP:(zae p).length=p.length:=zai p;have Of:=qd (fun t (ht:t<p.length)=>zyH s.1 p ht);have RO:=qd (fun t (ht:t<p.length)=>zyI (zfy s.1 p) p s.1 ht);have Ei:=qd (fun t (ht:t<p.length)=>GK.out (p.getD t 0) (by simp[List.getD,ht]));have fS:Hid (p.take p.length=p):=qd (List.take_length);have Og:=qd (fun t=>zBj qg (p.take t) xr (fun q hq=>GK.out q (List.mem_of_mem_take hq)));obtain⟨wo,rfl⟩:∃wo:World,wo=wr:=⟨_,rfl⟩;go_wp2_with fail;go_loopw [12,93] (fun gv tv wi=>∃t:Nat,t<=p.length/\tv= .int .i64 t/\gv= .int .i64 (zfy s.1 (p.take t):Nat)/\∃q,wi=wo.drewN q) (fun _ tv _=>p.length-(intOf tv).toNat)
     case atStart=>exact⟨0,qz _,rfl,by simp[zfy],0,rfl⟩
     case round=>
      obtain⟨t2,AO,rfl,rfl,hs⟩:=hrel;by_cases ii:t2<p.length
      ·have kp:=(zau hs _).trans (zX.cell t2 (by rw[bP];exact ii));rw[zbB _ _ ii] at kp;have jy:=Ei.out t2 ii;have Be:=Of.out t2 ii;generalize p.getD t2 0=i at*;have ki:=(zau hs _).trans (KP.cell i (by rw[xr.len];exact jy));have bX:=xr.box i jy;have ex:s.1.getD i 0=((s.1.getD i 0).toNat:Int):=by omega
       rw[ex] at ki;have aa:=zvt (s.1.getD i 0).toNat (zfy s.1 (p.take t2)) wr;generalize (s.1.getD i 0).toNat=x at*;generalize zfy s.1 (p.take t2)=y at*;have ab:=qd aa;have KQ:=qd Be;clear aa Be ex bX;go_wp2_with fail;refine ab.out.mono ?_;rintro e w8 ⟨rfl,iU⟩;have RP:=zbg hs iU;clear ab iU;go_wp2_with fail;go_roundw
       case rel=>exact⟨t2+1,by omega,by go_num,by rw[KQ.out],RP⟩
       case measure=>simp[intOf];omega
      ·obtain rfl:t2=p.length:=by omega
       rw[fS.out];have gX:=KP.still hs;have Ej:=zX.still hs;have Ek:w3.grownBy wr (some gO):=by obtain⟨q,rfl⟩:=hs;exact⟨bn.os,bn.tape,bn.output,bn.size,bn.block⟩
       have El:=zaf ji hs;have Oh:((zfy s.1 p:Nat):Int)≠0:=by omega
       generalize zfy s.1 p=G at*;clear Of hs KP zX bn ji xr;go_wp2_with fail;go_loopw [106] (fun tv wi=>∃t:Nat,t<=p.length/\tv= .int .i64 t/\Own wi w.heap.size gO c.length (zhY G (p.take t) s.1)/\w3.grownBy wi (some gO)/\Below w.heap.size w wi/\Own wi w2.heap.size gj cj (zae p)) (fun tv _=>p.length-(intOf tv).toNat)
       case atStart=>exact⟨0,qz _,rfl,gX,Ek,El,Ej⟩
       case round=>
        clear gX Ek El Ej;obtain⟨t3,RQ,rfl,ho,bn,ji,pj⟩:=hrel;by_cases ii:t3<p.length
        ·have kp:=pj.cell t3 (by rw[bP];exact ii);rw[zbB _ _ ii] at kp;have jy:=Ei.out t3 ii;have pO:=RO.out t3 ii;have bE:=Og.out t3;generalize p.getD t3 0=i at*;generalize zhY G (p.take t3) s.1=O at*;have ki:=ho.cell i (by rw[bE.len];exact jy);have bX:=bE.box i jy;have qp:=ho.frozen i;obtain⟨s1,s2⟩:=ho.set i ((O.getD i 0).tdiv (G:Int));rw[<-pO] at s1;have me:=World.grownBy.trans' bn s2;have Em:=ji.grown s2 ji.size (by intro j hj;cases hj;exact lu);have sU:=pj.grown s2 (fun e=>GJ (Option.some.inj e));have ed:(O.getD i 0).tdiv (G:Int)=O.getD i 0 / (G:Int):=Int.tdiv_eq_ediv_of_nonneg bX.1;rw[ed] at s1 me Em sU;generalize O.getD i 0=x at*;have w2':IntKind.i64.wrap (x.tdiv (G:Int))=x.tdiv (G:Int):=zxw ⟨by omega,by omega⟩;rw[ed] at w2';have w3':wrap64 (x / (G:Int))=x / (G:Int):=by have h:=w2';simp only[IntKind.wrap_i64] at h;unfold wrap64;exact h
         clear ho bn ji pj s2 pO;go_wp2_with fail;go_roundw
         case rel=>exact⟨t3+1,by omega,by go_num,s1,me,Em,sU⟩
         case measure=>simp[intOf];omega
        ·obtain rfl:t3=p.length:=by omega
         rw[fS.out] at ho;have bE:=Og.out p.length;rw[fS.out] at bE;rw[<-vJ.out] at ho bE;have Jg:=qd bE;clear bE pj;go_wp2_with fail;go_roundw
         case rel=>exact⟨t+1,out',by omega,by go_num,pR.out,Jg.out,ho,bn,ji⟩
         case measure=>simp[intOf];omega
  ·obtain rfl:t=P.length:=by omega
   have he:=zGh zT.out;subst he;have am:=KG.out;go_wp2_with fail;go_ret2;exact zbl.mk' gO c.length am ho hb
end
end Go.Proofs.YtlgcmaoimpgedaaGreatDoor

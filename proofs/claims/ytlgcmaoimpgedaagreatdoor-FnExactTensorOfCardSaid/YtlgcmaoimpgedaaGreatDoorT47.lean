/- Sym3 Syj Sta Stc Std Ste SumI SumW -/
import Derived.Test.YtlgcmaoimpgedaaGreatDoorT46
set_option maxHeartbeats 4000000
set_option maxRecDepth 100000
set_option linter.unusedSimpArgs false
namespace Go.Proofs.YtlgcmaoimpgedaaGreatDoor
open Go.Value renaming slice->qS
section
open Go.RowKit Game Stb
open Go.Sort (grow SWO)
theorem zJa(B G cap N:Nat)(hN:N<=1048576)(F:Nat)(IH:Hid (∀(a m b:Nat) (d:Nat->zaH) (w:World),b-a<=F->a<m->m<b->b<=N->SSt w w B G cap N d->Srt ltW d a m->Srt ltW d m b->
 Calls Tryz.prog 174 #[(qS (some ⟨G,0,none⟩) N cap),.int .i64 a,.int .i64 m,.int .i64 b,.func (.func 82) #[] #[]] w fun e w'=>e= .returned (.tuple #[])/\∃d',SSt w w' B G cap N d'/\Srt ltW d' a b/\Res N a b d d')) (a m b:Nat) (d:Nat->zaH) (w:World) (hF:b-a<=F+1) (jc:a<m) (kt:m<b) (hb:b<=N) (S:SSt w w B G cap N d) (hl:Srt ltW d a m) (hr:Srt ltW d m b) (e1:¬m=a+1) (e2:¬b=m+1):
 Calls Tryz.prog 174 #[(qS (some ⟨G,0,none⟩) N cap),.int .i64 a,.int .i64 m,.int .i64 b,.func (.func 82) #[] #[]] w fun e w'=>e= .returned (.tuple #[])/\∃d',SSt w w' B G cap N d'/\Srt ltW d' a b/\Res N a b d d':=by
 have S0:=qd S;have HL:=qd hl;have HR:=qd hr;have mixed:Tryz.prog.follows .mixedOrders=true:=by kernel_rfl
 clear S hl hr
 go_enter Tryz.func174,Tryz.ntmps174
 have t1':¬(m:Int)-(a:Int)=1:=by omega
 have t2':¬(b:Int)-(m:Int)=1:=by omega
 obtain⟨mid,fO⟩:∃mid,(a+b) / 2=mid:=⟨_,rfl⟩;have em:((a:Int)+(b:Int)) / 2=(mid:Int):=by omega
 obtain⟨nn,rb⟩:∃nn,mid+m=nn:=⟨_,rfl⟩;have en:(mid:Int)+(m:Int)=(nn:Int):=by omega
 obtain⟨fs1,fs2,fs3,fs4,fs5,fs6⟩:=zpC jc kt;have d1:zfq a m b=if mid<m then nn-b else a:=by unfold zfq;rw[fO,rb]
 have d2:zfQ a m b=if mid<m then mid else m:=by unfold zfQ;rw[fO]
 have qj:=qd (fun s (h1:zfq a m b<=s) (h2:s<=zfQ a m b) (h3:Sea ltW d (nn-1) (zfq a m b) (zfQ a m b) s s)=>(Sea.split jc kt h1 h2 (by rw[fO,rb];exact h3):zhj ltW d a m b s ((a+b) / 2+m-s)));rw[fO,rb] at qj;rw[fO] at fs4 fs5 fs6;generalize zfq a m b=s0 at*;generalize zfQ a m b=r0 at*;have DZ:a<mid:=by omega
 have Ea:mid<b:=by omega
 have RD:mid+m=nn:=rb;clear fO rb
 go_upto_if 140 with fail
 generalize ((m:Int)-(a:Int)==1)=bb1;generalize ((b:Int)-(m:Int)==1)=bb2
 go_cut [20,21] from 138 to 146 (fun sv rv wx=>sv= .int .i64 s0/\rv= .int .i64 r0/\Hid (SSt w wx B G cap N d))
 case first=>
  clear IH HL HR qj;by_cases hm:mid<m
  ·rw[if_pos hm] at d1 d2;have vt:(mid:Int)<(m:Int):=by omega
   have x1:(nn:Int)-(b:Int)=(s0:Int):=by omega
   have D1:=qd d1;have D2:=qd d2;clear d1 d2;go_wp2_with fail
   go_meet
   exact⟨rfl,by rw[D2.out],S0⟩
  ·rw[if_neg hm] at d1 d2;have vt:¬(mid:Int)<(m:Int):=by omega
   have D1:=qd d1;have D2:=qd d2;clear d1 d2;go_wp2_with fail
   go_meet
   exact⟨by rw[D1.out],by rw[D2.out],S0⟩
 case rest=>
  clear S0 d1 d2;obtain⟨rfl,rfl,S⟩:=hcut;obtain⟨p,hp⟩:∃p,nn-1=p:=⟨_,rfl⟩;have ep:(nn:Int)-1=(p:Int):=by omega
  rw[hp] at qj;have ls:p+1=nn:=by omega
  clear hp;go_wp2_with fail;generalize ((m:Int)-(a:Int)==1)=bb1;generalize ((b:Int)-(m:Int)==1)=bb2;go_loopg [20,21] (r0-s0) (fun gk iv jv wr=>∃i j:Nat,s0<=i/\i<=j/\j<=r0/\j-i<=gk/\iv= .int .i64 i/\jv= .int .i64 j/\Hid (Sea ltW d p s0 r0 i j)/\Hid (SSt w wr B G cap N d))
  case atStart=>exact⟨s0,r0,qr _,fs2,qr _,qr _,rfl,rfl,⟨.inl rfl,.inl rfl⟩,S⟩
  case round=>
   clear S ep em en t1' t2' e1 e2;obtain⟨i,j,hi,iP,hj,hg,rfl,rfl,vG,S⟩:=hrel;by_cases ac:i<j
   ·clear IH HL HR qj;have fA:(i:Int)<(j:Int):=by omega
    obtain⟨c,hh⟩:∃c,c=(i+j) / 2:=⟨_,rfl⟩;have eh:((i:Int)+(j:Int)) / 2=(c:Int):=by omega
    have bh1:i<=c:=by omega
    have bh2:c<j:=by omega
    clear hh;obtain⟨v,hv⟩:∃v,p-c=v:=⟨_,rfl⟩;have wv:IntKind.i64.wrap ((p:Int)-(c:Int))=(v:Int):=by rw[IntWalk.i64_in _ ⟨by omega,by omega⟩];omega
    have bv:v<N:=by omega
    have b1:(c:Int)<(N:Int):=by omega
    have b2:(v:Int)<(N:Int):=by omega
    obtain⟨x,y,-,-,c1,c2,c3,c4,Ub⟩:=S.out.two (i:=v) (j:=c) (by omega) (by omega);have CLS:=qd S.out.cls;have LT:=qd (show ltW (d (v)) (d (c))=decide (cfW (d (v)) (d (c))<0) from rfl);generalize cfW (d (v)) (d (c))=z at*;by_cases fB:z<0
    ·have HN:=qd (show ltW (d (v)) (d c)=true from by rw[LT.out];exact decide_eq_true fB);clear LT;have fI:(!decide (z<0))=false:=by simp[fB]
     go_wp2_with fail
     go_quiet_grown (exact Calls.grown_of (Ub _ _))
     have HS:=qd (CLS.out nq osq);clear c1 c2 c3 c4 Ub CLS S;go_wp2_with fail
     go_roundg (c-i)
     case measure=>omega
     case rel=>exact⟨i,c,hi,bh1,by omega,qr _,rfl,rfl,⟨vG.out.lo,.inr (by rw[hv];exact HN.out)⟩,HS⟩
    ·have HN:=qd (show ltW (d v) (d c)=false from by rw[LT.out];exact decide_eq_false fB);clear LT;have fI:(!decide (z<0))=true:=by simp[fB]
     go_wp2_with fail
     go_quiet_grown (exact Calls.grown_of (Ub _ _))
     have HS:=qd (CLS.out nq osq);clear c1 c2 c3 c4 Ub CLS S;go_wp2_with fail
     go_roundg (j-(c+1))
     case measure=>omega
     case rel=>exact⟨c+1,j,by omega,by omega,hj,qr _,by go_num,rfl,⟨.inr (by rw[Nat.add_sub_cancel,hv];exact HN.out),vG.out.hi⟩,HS⟩
   ·obtain rfl:i=j:=by omega
    have jm:=qj.out i hi hj vG.out;obtain⟨q1,q2,q3,q4⟩:=jm.rot (mid:=mid) (by omega) HL.out HR.out;have sS:=jm.s2;obtain⟨e,he⟩:∃e,nn-i=e:=⟨_,rfl⟩;rw[he] at jm q1 q2 q3 q4 sS;have mR:=Res.rot (N:=N) d (s:=i) (m:=m) (e:=e) (by omega) sS.1 (by omega);have HM:=qd (fun d2 d3 r2 q2 r3 q3=>zhj.merge zrs (N:=N) (d2:=d2) (d3:=d3) jm (mid:=mid) (by omega) HL.out HR.out r2 q2 r3 q3);have KA:=sS.1;have KB:=sS.2;have ee:(nn:Int)-(i:Int)=(e:Int):=by omega
    have RE:e+i=nn:=by omega
    have Q1:=qd q1;have Q2:=qd q2;have Q3:=qd q3;have Q4:=qd q4;have lI:=qd mR;clear jm q1 q2 q3 q4 mR vG qj HL HR he sS;by_cases hA:i<m
    ·by_cases hB:i<mid
     ·by_cases hC:a<i
      ·by_cases hD:e<b
       ·have z0:(i:Int)<(m:Int):=by omega
        have z1:(m:Int)<(e:Int):=by omega
        have z2:(a:Int)<(i:Int):=by omega
        have z3:(i:Int)<(mid:Int):=by omega
        have z4:(mid:Int)<(e:Int):=by omega
        have z5:(e:Int)<(b:Int):=by omega
        have aa:=zkb B G cap N i m e (.func (.func 82) #[] #[]) d wr hN (by omega) (by omega) (by omega) S.out.here;have ab:=qd aa;clear aa;go_wp2_with fail;refine ab.out.mono ?_;rintro e' w1 ⟨rfl,S1⟩;have S1:=qd (S.out.from S1);clear ab S;generalize dZ:rot d i m e=d1 at*;clear dZ;have aa:=IH.out a i mid d1 _ (by omega) (by omega) (by omega) (by omega) S1.out.here Q1.out Q2.out;have ab:=qd aa;clear aa Q1 Q2;go_wp2_with fail;refine ab.out.mono ?_;rintro e' w2 ⟨rfl,d2,S2,t2,r2⟩;have S2:=qd (S1.out.from S2);have T2:=qd t2;have R2:=qd r2;clear ab S1 t2 r2;have Q3:Hid (Srt ltW d2 mid e):=fun x y u1 u2 u3=>by rw[R2.out.keep x (by omega),R2.out.keep y (by omega)];exact Q3.out x y u1 u2 u3
        have Q4:Hid (Srt ltW d2 e b):=fun x y u1 u2 u3=>by rw[R2.out.keep x (by omega),R2.out.keep y (by omega)];exact Q4.out x y u1 u2 u3
        have aa:=IH.out mid e b d2 _ (by omega) (by omega) (by omega) hb S2.out.here Q3.out Q4.out;have ab:=qd aa;clear aa Q3 Q4;go_wp2_with fail;refine ab.out.mono ?_;rintro e' w3 ⟨rfl,d3,S3,t3,r3⟩;have S3:=qd (S2.out.from S3);have T3:=qd t3;have R3:=qd r3;clear ab S2 t3 r3;go_wp2_with fail
        go_end0
        exact⟨rfl,d3,S3.out,HM.out d2 d3 R2.out T2.out R3.out T3.out,((lI.out.wide (by omega) (by omega)).trans (R2.out.wide (qr _) (by omega))).trans (R3.out.wide (by omega) (qr _))⟩
       ·have z0:(i:Int)<(m:Int):=by omega
        have z1:(m:Int)<(e:Int):=by omega
        have z2:(a:Int)<(i:Int):=by omega
        have z3:(i:Int)<(mid:Int):=by omega
        have z4:(mid:Int)<(e:Int):=by omega
        have z5:¬(e:Int)<(b:Int):=by omega
        have aa:=zkb B G cap N i m e (.func (.func 82) #[] #[]) d wr hN (by omega) (by omega) (by omega) S.out.here;have ab:=qd aa;clear aa;go_wp2_with fail;refine ab.out.mono ?_;rintro e' w1 ⟨rfl,S1⟩;have S1:=qd (S.out.from S1);clear ab S;generalize dZ:rot d i m e=d1 at*;clear dZ;have aa:=IH.out a i mid d1 _ (by omega) (by omega) (by omega) (by omega) S1.out.here Q1.out Q2.out;have ab:=qd aa;clear aa Q1 Q2;go_wp2_with fail;refine ab.out.mono ?_;rintro e' w2 ⟨rfl,d2,S2,t2,r2⟩;have S2:=qd (S1.out.from S2);have T2:=qd t2;have R2:=qd r2;clear ab S1 t2 r2;have Q3:Hid (Srt ltW d2 mid e):=fun x y u1 u2 u3=>by rw[R2.out.keep x (by omega),R2.out.keep y (by omega)];exact Q3.out x y u1 u2 u3
        have Q4:Hid (Srt ltW d2 e b):=fun x y u1 u2 u3=>by rw[R2.out.keep x (by omega),R2.out.keep y (by omega)];exact Q4.out x y u1 u2 u3
        have e0:e=b:=by omega
        have T3:Hid (Srt ltW d2 mid b):=by rw[<-e0];exact Q3
        clear e0;have R3:=qd (Res.refl (N:=N) (a:=mid) (b:=b) d2);have S3:=S2;clear S2 Q3 Q4;obtain⟨d3,cJ⟩:∃d3,d3=d2:=⟨_,rfl⟩;rw[<-cJ] at S3;have T3:Hid (Srt ltW d3 mid b):=by rw[cJ];exact T3
        have R3:Hid (Res N mid b d2 d3):=by rw[cJ];exact R3
        clear cJ;go_wp2_with fail
        go_end0
        exact⟨rfl,d3,S3.out,HM.out d2 d3 R2.out T2.out R3.out T3.out,((lI.out.wide (by omega) (by omega)).trans (R2.out.wide (qr _) (by omega))).trans (R3.out.wide (by omega) (qr _))⟩
      ·by_cases hD:e<b
       ·have z0:(i:Int)<(m:Int):=by omega
        have z1:(m:Int)<(e:Int):=by omega
        have z2:¬(a:Int)<(i:Int):=by omega
        have z3:(i:Int)<(mid:Int):=by omega
        have z4:(mid:Int)<(e:Int):=by omega
        have z5:(e:Int)<(b:Int):=by omega
        have aa:=zkb B G cap N i m e (.func (.func 82) #[] #[]) d wr hN (by omega) (by omega) (by omega) S.out.here;have ab:=qd aa;clear aa;go_wp2_with fail;refine ab.out.mono ?_;rintro e' w1 ⟨rfl,S1⟩;have S1:=qd (S.out.from S1);clear ab S;generalize dZ:rot d i m e=d1 at*;clear dZ;have e0:i=a:=by omega
        have T2:Hid (Srt ltW d1 a mid):=by rw[<-e0];exact Q2
        clear e0;have R2:=qd (Res.refl (N:=N) (a:=a) (b:=mid) d1);have S2:=S1;clear S1 Q1 Q2;obtain⟨d2,bV⟩:∃d2,d2=d1:=⟨_,rfl⟩;rw[<-bV] at S2;have T2:Hid (Srt ltW d2 a mid):=by rw[bV];exact T2
        have R2:Hid (Res N a mid d1 d2):=by rw[bV];exact R2
        clear bV;have Q3:Hid (Srt ltW d2 mid e):=fun x y u1 u2 u3=>by rw[R2.out.keep x (by omega),R2.out.keep y (by omega)];exact Q3.out x y u1 u2 u3
        have Q4:Hid (Srt ltW d2 e b):=fun x y u1 u2 u3=>by rw[R2.out.keep x (by omega),R2.out.keep y (by omega)];exact Q4.out x y u1 u2 u3
        have aa:=IH.out mid e b d2 _ (by omega) (by omega) (by omega) hb S2.out.here Q3.out Q4.out;have ab:=qd aa;clear aa Q3 Q4;go_wp2_with fail;refine ab.out.mono ?_;rintro e' w3 ⟨rfl,d3,S3,t3,r3⟩;have S3:=qd (S2.out.from S3);have T3:=qd t3;have R3:=qd r3;clear ab S2 t3 r3;go_wp2_with fail
        go_end0
        exact⟨rfl,d3,S3.out,HM.out d2 d3 R2.out T2.out R3.out T3.out,((lI.out.wide (by omega) (by omega)).trans (R2.out.wide (qr _) (by omega))).trans (R3.out.wide (by omega) (qr _))⟩
       ·have z0:(i:Int)<(m:Int):=by omega
        have z1:(m:Int)<(e:Int):=by omega
        have z2:¬(a:Int)<(i:Int):=by omega
        have z3:(i:Int)<(mid:Int):=by omega
        have z4:(mid:Int)<(e:Int):=by omega
        have z5:¬(e:Int)<(b:Int):=by omega
        have aa:=zkb B G cap N i m e (.func (.func 82) #[] #[]) d wr hN (by omega) (by omega) (by omega) S.out.here;have ab:=qd aa;clear aa;go_wp2_with fail;refine ab.out.mono ?_;rintro e' w1 ⟨rfl,S1⟩;have S1:=qd (S.out.from S1);clear ab S;generalize dZ:rot d i m e=d1 at*;clear dZ;have e0:i=a:=by omega
        have T2:Hid (Srt ltW d1 a mid):=by rw[<-e0];exact Q2
        clear e0;have R2:=qd (Res.refl (N:=N) (a:=a) (b:=mid) d1);have S2:=S1;clear S1 Q1 Q2;obtain⟨d2,bV⟩:∃d2,d2=d1:=⟨_,rfl⟩;rw[<-bV] at S2;have T2:Hid (Srt ltW d2 a mid):=by rw[bV];exact T2
        have R2:Hid (Res N a mid d1 d2):=by rw[bV];exact R2
        clear bV;have Q3:Hid (Srt ltW d2 mid e):=fun x y u1 u2 u3=>by rw[R2.out.keep x (by omega),R2.out.keep y (by omega)];exact Q3.out x y u1 u2 u3
        have Q4:Hid (Srt ltW d2 e b):=fun x y u1 u2 u3=>by rw[R2.out.keep x (by omega),R2.out.keep y (by omega)];exact Q4.out x y u1 u2 u3
        have e0:e=b:=by omega
        have T3:Hid (Srt ltW d2 mid b):=by rw[<-e0];exact Q3
        clear e0;have R3:=qd (Res.refl (N:=N) (a:=mid) (b:=b) d2);have S3:=S2;clear S2 Q3 Q4;obtain⟨d3,cJ⟩:∃d3,d3=d2:=⟨_,rfl⟩;rw[<-cJ] at S3;have T3:Hid (Srt ltW d3 mid b):=by rw[cJ];exact T3
        have R3:Hid (Res N mid b d2 d3):=by rw[cJ];exact R3
        clear cJ;go_wp2_with fail
        go_end0
        exact⟨rfl,d3,S3.out,HM.out d2 d3 R2.out T2.out R3.out T3.out,((lI.out.wide (by omega) (by omega)).trans (R2.out.wide (qr _) (by omega))).trans (R3.out.wide (by omega) (qr _))⟩
     ·by_cases hC:a<i
      ·by_cases hD:e<b
       ·have z0:(i:Int)<(m:Int):=by omega
        have z1:¬(m:Int)<(e:Int):=by omega
        have z2:(a:Int)<(i:Int):=by omega
        have z3:¬(i:Int)<(mid:Int):=by omega
        have z4:(mid:Int)<(e:Int):=by omega
        have z5:(e:Int)<(b:Int):=by omega
        have S1:Hid (SSt w wr B G cap N (rot d i m e)):=by rw[zcF d (by omega) (by omega) (by omega)];exact S
        clear S;generalize dZ:rot d i m e=d1 at*;clear dZ;have e0:i=mid:=by omega
        have T2:Hid (Srt ltW d1 a mid):=by rw[<-e0];exact Q1
        clear e0;have R2:=qd (Res.refl (N:=N) (a:=a) (b:=mid) d1);have S2:=S1;clear S1 Q1 Q2;obtain⟨d2,bV⟩:∃d2,d2=d1:=⟨_,rfl⟩;rw[<-bV] at S2;have T2:Hid (Srt ltW d2 a mid):=by rw[bV];exact T2
        have R2:Hid (Res N a mid d1 d2):=by rw[bV];exact R2
        clear bV;have Q3:Hid (Srt ltW d2 mid e):=fun x y u1 u2 u3=>by rw[R2.out.keep x (by omega),R2.out.keep y (by omega)];exact Q3.out x y u1 u2 u3
        have Q4:Hid (Srt ltW d2 e b):=fun x y u1 u2 u3=>by rw[R2.out.keep x (by omega),R2.out.keep y (by omega)];exact Q4.out x y u1 u2 u3
        have aa:=IH.out mid e b d2 _ (by omega) (by omega) (by omega) hb S2.out.here Q3.out Q4.out;have ab:=qd aa;clear aa Q3 Q4;go_wp2_with fail;refine ab.out.mono ?_;rintro e' w3 ⟨rfl,d3,S3,t3,r3⟩;have S3:=qd (S2.out.from S3);have T3:=qd t3;have R3:=qd r3;clear ab S2 t3 r3;go_wp2_with fail
        go_end0
        exact⟨rfl,d3,S3.out,HM.out d2 d3 R2.out T2.out R3.out T3.out,((lI.out.wide (by omega) (by omega)).trans (R2.out.wide (qr _) (by omega))).trans (R3.out.wide (by omega) (qr _))⟩
       ·have z0:(i:Int)<(m:Int):=by omega
        have z1:¬(m:Int)<(e:Int):=by omega
        have z2:(a:Int)<(i:Int):=by omega
        have z3:¬(i:Int)<(mid:Int):=by omega
        have z4:(mid:Int)<(e:Int):=by omega
        have z5:¬(e:Int)<(b:Int):=by omega
        have S1:Hid (SSt w wr B G cap N (rot d i m e)):=by rw[zcF d (by omega) (by omega) (by omega)];exact S
        clear S;generalize dZ:rot d i m e=d1 at*;clear dZ;have e0:i=mid:=by omega
        have T2:Hid (Srt ltW d1 a mid):=by rw[<-e0];exact Q1
        clear e0;have R2:=qd (Res.refl (N:=N) (a:=a) (b:=mid) d1);have S2:=S1;clear S1 Q1 Q2;obtain⟨d2,bV⟩:∃d2,d2=d1:=⟨_,rfl⟩;rw[<-bV] at S2;have T2:Hid (Srt ltW d2 a mid):=by rw[bV];exact T2
        have R2:Hid (Res N a mid d1 d2):=by rw[bV];exact R2
        clear bV;have Q3:Hid (Srt ltW d2 mid e):=fun x y u1 u2 u3=>by rw[R2.out.keep x (by omega),R2.out.keep y (by omega)];exact Q3.out x y u1 u2 u3
        have Q4:Hid (Srt ltW d2 e b):=fun x y u1 u2 u3=>by rw[R2.out.keep x (by omega),R2.out.keep y (by omega)];exact Q4.out x y u1 u2 u3
        have e0:e=b:=by omega
        have T3:Hid (Srt ltW d2 mid b):=by rw[<-e0];exact Q3
        clear e0;have R3:=qd (Res.refl (N:=N) (a:=mid) (b:=b) d2);have S3:=S2;clear S2 Q3 Q4;obtain⟨d3,cJ⟩:∃d3,d3=d2:=⟨_,rfl⟩;rw[<-cJ] at S3;have T3:Hid (Srt ltW d3 mid b):=by rw[cJ];exact T3
        have R3:Hid (Res N mid b d2 d3):=by rw[cJ];exact R3
        clear cJ;go_wp2_with fail
        go_end0
        exact⟨rfl,d3,S3.out,HM.out d2 d3 R2.out T2.out R3.out T3.out,((lI.out.wide (by omega) (by omega)).trans (R2.out.wide (qr _) (by omega))).trans (R3.out.wide (by omega) (qr _))⟩
      ·omega
    ·by_cases hB:i<mid
     ·by_cases hC:a<i
      ·by_cases hD:e<b
       ·have z0:¬(i:Int)<(m:Int):=by omega
        have z1:(m:Int)<(e:Int):=by omega
        have z2:(a:Int)<(i:Int):=by omega
        have z3:(i:Int)<(mid:Int):=by omega
        have z4:¬(mid:Int)<(e:Int):=by omega
        have z5:(e:Int)<(b:Int):=by omega
        have S1:Hid (SSt w wr B G cap N (rot d i m e)):=by rw[zcF d (by omega) (by omega) (by omega)];exact S
        clear S;generalize dZ:rot d i m e=d1 at*;clear dZ;have aa:=IH.out a i mid d1 _ (by omega) (by omega) (by omega) (by omega) S1.out.here Q1.out Q2.out;have ab:=qd aa;clear aa Q1 Q2;go_wp2_with fail;refine ab.out.mono ?_;rintro e' w2 ⟨rfl,d2,S2,t2,r2⟩;have S2:=qd (S1.out.from S2);have T2:=qd t2;have R2:=qd r2;clear ab S1 t2 r2;have Q3:Hid (Srt ltW d2 mid e):=fun x y u1 u2 u3=>by rw[R2.out.keep x (by omega),R2.out.keep y (by omega)];exact Q3.out x y u1 u2 u3
        have Q4:Hid (Srt ltW d2 e b):=fun x y u1 u2 u3=>by rw[R2.out.keep x (by omega),R2.out.keep y (by omega)];exact Q4.out x y u1 u2 u3
        have e0:e=mid:=by omega
        have T3:Hid (Srt ltW d2 mid b):=by rw[<-e0];exact Q4
        clear e0;have R3:=qd (Res.refl (N:=N) (a:=mid) (b:=b) d2);have S3:=S2;clear S2 Q3 Q4;obtain⟨d3,cJ⟩:∃d3,d3=d2:=⟨_,rfl⟩;rw[<-cJ] at S3;have T3:Hid (Srt ltW d3 mid b):=by rw[cJ];exact T3
        have R3:Hid (Res N mid b d2 d3):=by rw[cJ];exact R3
        clear cJ;go_wp2_with fail
        go_end0
        exact⟨rfl,d3,S3.out,HM.out d2 d3 R2.out T2.out R3.out T3.out,((lI.out.wide (by omega) (by omega)).trans (R2.out.wide (qr _) (by omega))).trans (R3.out.wide (by omega) (qr _))⟩
       ·omega
      ·by_cases hD:e<b
       ·have z0:¬(i:Int)<(m:Int):=by omega
        have z1:(m:Int)<(e:Int):=by omega
        have z2:¬(a:Int)<(i:Int):=by omega
        have z3:(i:Int)<(mid:Int):=by omega
        have z4:¬(mid:Int)<(e:Int):=by omega
        have z5:(e:Int)<(b:Int):=by omega
        have S1:Hid (SSt w wr B G cap N (rot d i m e)):=by rw[zcF d (by omega) (by omega) (by omega)];exact S
        clear S;generalize dZ:rot d i m e=d1 at*;clear dZ;have e0:i=a:=by omega
        have T2:Hid (Srt ltW d1 a mid):=by rw[<-e0];exact Q2
        clear e0;have R2:=qd (Res.refl (N:=N) (a:=a) (b:=mid) d1);have S2:=S1;clear S1 Q1 Q2;obtain⟨d2,bV⟩:∃d2,d2=d1:=⟨_,rfl⟩;rw[<-bV] at S2;have T2:Hid (Srt ltW d2 a mid):=by rw[bV];exact T2
        have R2:Hid (Res N a mid d1 d2):=by rw[bV];exact R2
        clear bV;have Q3:Hid (Srt ltW d2 mid e):=fun x y u1 u2 u3=>by rw[R2.out.keep x (by omega),R2.out.keep y (by omega)];exact Q3.out x y u1 u2 u3
        have Q4:Hid (Srt ltW d2 e b):=fun x y u1 u2 u3=>by rw[R2.out.keep x (by omega),R2.out.keep y (by omega)];exact Q4.out x y u1 u2 u3
        have e0:e=mid:=by omega
        have T3:Hid (Srt ltW d2 mid b):=by rw[<-e0];exact Q4
        clear e0;have R3:=qd (Res.refl (N:=N) (a:=mid) (b:=b) d2);have S3:=S2;clear S2 Q3 Q4;obtain⟨d3,cJ⟩:∃d3,d3=d2:=⟨_,rfl⟩;rw[<-cJ] at S3;have T3:Hid (Srt ltW d3 mid b):=by rw[cJ];exact T3
        have R3:Hid (Res N mid b d2 d3):=by rw[cJ];exact R3
        clear cJ;go_wp2_with fail
        go_end0
        exact⟨rfl,d3,S3.out,HM.out d2 d3 R2.out T2.out R3.out T3.out,((lI.out.wide (by omega) (by omega)).trans (R2.out.wide (qr _) (by omega))).trans (R3.out.wide (by omega) (qr _))⟩
       ·omega
     ·by_cases hC:a<i
      ·by_cases hD:e<b
       ·have z0:¬(i:Int)<(m:Int):=by omega
        have z1:¬(m:Int)<(e:Int):=by omega
        have z2:(a:Int)<(i:Int):=by omega
        have z3:¬(i:Int)<(mid:Int):=by omega
        have z4:¬(mid:Int)<(e:Int):=by omega
        have z5:(e:Int)<(b:Int):=by omega
        have S1:Hid (SSt w wr B G cap N (rot d i m e)):=by rw[zcF d (by omega) (by omega) (by omega)];exact S
        clear S;generalize dZ:rot d i m e=d1 at*;clear dZ;have e0:i=mid:=by omega
        have T2:Hid (Srt ltW d1 a mid):=by rw[<-e0];exact Q1
        clear e0;have R2:=qd (Res.refl (N:=N) (a:=a) (b:=mid) d1);have S2:=S1;clear S1 Q1 Q2;obtain⟨d2,bV⟩:∃d2,d2=d1:=⟨_,rfl⟩;rw[<-bV] at S2;have T2:Hid (Srt ltW d2 a mid):=by rw[bV];exact T2
        have R2:Hid (Res N a mid d1 d2):=by rw[bV];exact R2
        clear bV;have Q3:Hid (Srt ltW d2 mid e):=fun x y u1 u2 u3=>by rw[R2.out.keep x (by omega),R2.out.keep y (by omega)];exact Q3.out x y u1 u2 u3
        have Q4:Hid (Srt ltW d2 e b):=fun x y u1 u2 u3=>by rw[R2.out.keep x (by omega),R2.out.keep y (by omega)];exact Q4.out x y u1 u2 u3
        have e0:e=mid:=by omega
        have T3:Hid (Srt ltW d2 mid b):=by rw[<-e0];exact Q4
        clear e0;have R3:=qd (Res.refl (N:=N) (a:=mid) (b:=b) d2);have S3:=S2;clear S2 Q3 Q4;obtain⟨d3,cJ⟩:∃d3,d3=d2:=⟨_,rfl⟩;rw[<-cJ] at S3;have T3:Hid (Srt ltW d3 mid b):=by rw[cJ];exact T3
        have R3:Hid (Res N mid b d2 d3):=by rw[cJ];exact R3
        clear cJ;go_wp2_with fail
        go_end0
        exact⟨rfl,d3,S3.out,HM.out d2 d3 R2.out T2.out R3.out T3.out,((lI.out.wide (by omega) (by omega)).trans (R2.out.wide (qr _) (by omega))).trans (R3.out.wide (by omega) (qr _))⟩
       ·omega
      ·omega
end
section
open Go.RowKit Game Stb
open Go.Sort (grow SWO)
theorem zkz(B G cap N:Nat)(hN:N<=1048576):∀(F a m b:Nat) (d:Nat->zaH) (w:World),b-a<=F->a<m->m<b->b<=N->SSt w w B G cap N d->Srt ltW d a m->Srt ltW d m b->
 Calls Tryz.prog 174 #[(qS (some ⟨G,0,none⟩) N cap),.int .i64 a,.int .i64 m,.int .i64 b,.func (.func 82) #[] #[]] w fun e w'=>e= .returned (.tuple #[])/\∃d',SSt w w' B G cap N d'/\Srt ltW d' a b/\Res N a b d d'
 |0,a,m,b,d,w,h,h1,h2,_,_,_,_=>by omega
 |F+1,a,m,b,d,w,hF,jc,kt,hb,S,hl,hr=>by
  by_cases e1:m=a+1
  ·exact zIY B G cap N hN a m b d w jc kt hb S hl hr e1
  ·by_cases e2:b=m+1
   ·exact zIZ B G cap N hN a m b d w jc kt hb S hl hr e1 e2
   ·exact zJa B G cap N hN F (zkz B G cap N hN F) a m b d w hF jc kt hb S hl hr e1 e2
end
section
open Go.RowKit Game Stb
theorem zBp(B G cap N:Nat)(d:Nat->zaH)(w:World)(hN:N<=1048576)(S:SSt w w B G cap N d):
 Calls Tryz.prog 132 #[(qS (some ⟨G,0,none⟩) N cap),.int .i64 N,.func (.func 82) #[] #[]] w fun e w'=>e= .returned (.tuple #[])/\∃d',SSt w w' B G cap N d'/\Srt ltW d' 0 N/\Res N 0 N d d':=by
 have S0:=qd S;clear S
 go_enter Tryz.func132,Tryz.ntmps132
 go_wp2_with fail;go_loopg [7,8] N (fun gk av bv wr=>∃(t a b:Nat) (d':Nat->zaH),a<=N/\b<=a+20/\a+20<=b/\N-a<=gk/\av= .int .i64 a/\bv= .int .i64 b/\Hid (t*20=a)/\Hid (SSt w wr B G cap N d')/\Hid (Fst ltW 20 t d')/\Hid (Res N 0 N d d'))
 case atStart=>exact⟨0,0,20,d,qz _,by omega,by omega,by omega,rfl,rfl,qd (by omega),S0,qd (fun u h=>absurd h (Nat.not_lt_zero _)),qd (Res.refl d)⟩
 case round=>
  clear S0;obtain⟨t,a,b,d1,zQ,ad,ae,hg,rfl,rfl,Ha,S,HF,HR⟩:=hrel;by_cases ja:b<=N
  ·have hz:(b:Int)<=(N:Int):=by omega
   have aa:=znz B G cap N a b d1 wr hN (by omega) ja S.out.here;have ab:=qd aa;clear aa;go_wp2_with fail;refine ab.out.mono ?_;rintro e w1 ⟨rfl,d2,S2,t2,r2⟩;have S2:=qd (S.out.from S2);have eb:b=a+20:=by omega
   have F2:Hid (Fst ltW 20 (t+1) d2):=Fst.next HF.out (by rw[Ha.out,<-eb];exact r2) (by rw[Ha.out,<-eb];exact t2);have R2:=qd (HR.out.trans (r2.wide (qz _) ja));have Hb:Hid ((t+1)*20=b):=by have:=Ha.out;show _=_;omega
   clear ab S t2 r2 eb HF HR Ha;go_wp2_with fail
   go_roundg (N-b)
   case measure=>omega
   case rel=>exact⟨t+1,b,b+20,d2,ja,qr _,qr _,qr _,rfl,by go_num,Hb,S2,F2,R2⟩
  ·have hz:¬(b:Int)<=(N:Int):=by omega
   have aa:=znz B G cap N a N d1 wr hN zQ (qr _) S.out.here;have ab:=qd aa;clear aa;go_wp2_with fail;refine ab.out.mono ?_;rintro e w1 ⟨rfl,d2,S2,t2,r2⟩;have S2:=qd (S.out.from S2);have K2:Hid (Blk ltW N 20 d2):=Fst.last HF.out (by rw[Ha.out];omega) (by rw[Ha.out];exact r2) (by rw[Ha.out];exact t2);have R2:=qd (HR.out.trans (r2.wide (qz _) (qr _)));clear ab S t2 r2 HF HR Ha;go_wp2_with fail;go_loopg [6,7,8,9] N (fun gk bsv _ _ _ wr=>∃(bs:Nat) (d':Nat->zaH),0<bs/\bs<=2*N+20/\N-bs<=gk/\bsv= .int .i64 bs/\Hid (SSt w wr B G cap N d')/\Hid (Blk ltW N bs d')/\Hid (Res N 0 N d d'))
   case atStart=>exact⟨20,d2,by omega,by omega,by omega,rfl,S2,K2,R2⟩
   case round=>
    clear S2 K2 R2 hz ja ad ae zQ;obtain⟨bs,d3,kn,KC,aP,rfl,S,HK,HR⟩:=hrel;by_cases ac:bs<N
    ·have fA:(bs:Int)<(N:Int):=by omega
     obtain⟨D,hD⟩:∃D,2*bs=D:=⟨_,rfl⟩;have HD:=qd hD;have eD:2*(bs:Int)=(D:Int):=by omega
     have eD2:(bs:Int)*2=(D:Int):=by omega
     have RF:bs<D:=by omega
     have Eb:D<=2*N:=by omega
     have RG:D<=bs+bs:=by omega
     have RH:bs+bs<=D:=by omega
     clear hD;go_wp2_with fail;go_loopg [7,8] N (fun g2 av bv wr2=>∃(t a b:Nat) (d':Nat->zaH),a<=N/\b<=a+D/\a+D<=b/\N-a<=g2/\av= .int .i64 a/\bv= .int .i64 b/\Hid (t*(2*bs)=a)/\Hid (SSt w wr2 B G cap N d')/\Hid (Prs ltW N bs t d')/\Hid (Res N 0 N d d'))
     case atStart=>exact⟨0,0,D,d3,qz _,by omega,by omega,by omega,rfl,rfl,qd (Nat.zero_mul _),S,qd (Prs.start HK.out),HR⟩
     case round=>
      clear S HK HR;obtain⟨t,a,b,d4,zQ,ad,ae,aK,rfl,rfl,Ha,S,HP,HR⟩:=hrel;obtain⟨mm,nu⟩:∃mm,a+bs=mm:=⟨_,rfl⟩;have em:(a:Int)+(bs:Int)=(mm:Int):=by omega
      have eb:b=a+2*bs:=by have:=HD.out;omega
      have Hm:=qd nu;have Hb:=qd eb;have jc:a<mm:=by omega
      have zR:mm<b:=by omega
      have KD:mm<=a+bs:=by omega
      have KE:a+bs<=mm:=by omega
      clear nu eb;by_cases ja:b<=N
      ·have hz:(b:Int)<=(N:Int):=by omega
       have aa:=zkz B G cap N hN (b-a) a mm b d4 _ (qr _) jc zR ja S.out.here
        (by have:=HP.out.left (by rw[Ha.out,Hm.out];omega);rwa [Ha.out,Hm.out] at this)
        (by have:=HP.out.right;rwa [Ha.out,Hm.out,<-Hb.out,Nat.min_eq_left ja] at this)
       have ab:=qd aa;clear aa;go_wp2_with fail;refine ab.out.mono ?_;rintro e w1 ⟨rfl,d5,S5,t5,r5⟩;have S5:=qd (S.out.from S5);have P5:Hid (Prs ltW N bs (t+1) d5):=HP.out.next (by rw[Ha.out,<-Hb.out];exact r5) (by rw[Ha.out,<-Hb.out];exact t5);have R5:=qd (HR.out.trans (r5.wide (qz _) ja));have KF:Hid ((t+1)*(2*bs)=b):=by show _=_;rw[Nat.add_mul,Nat.one_mul,Ha.out,Hb.out]
       clear ab S t5 r5 HP HR Ha Hm Hb;go_wp2_with fail
       go_roundg (N-b)
       case measure=>omega
       case rel=>exact⟨t+1,b,b+D,d5,ja,qr _,qr _,qr _,rfl,by go_num,KF,S5,P5,R5⟩
      ·have hz:¬(b:Int)<=(N:Int):=by omega
       by_cases DY:mm<N
       ·have vt:(mm:Int)<(N:Int):=by omega
        have aa:=zkz B G cap N hN (N-a) a mm N d4 _ (qr _) jc DY (qr _) S.out.here
         (by have:=HP.out.left (by rw[Ha.out,Hm.out];omega);rwa [Ha.out,Hm.out] at this)
         (by have:=HP.out.right;rwa [Ha.out,Hm.out,<-Hb.out,Nat.min_eq_right (by omega)] at this)
        have ab:=qd aa;clear aa;go_wp2_with fail;refine ab.out.mono ?_;rintro e w1 ⟨rfl,d5,S5,t5,r5⟩;have S5:=qd (S.out.from S5)
        have P5:Hid (Blk ltW N D d5):=by
         have:=HP.out.last (d':=d5) (by rw[Ha.out,<-Hb.out];omega) (by rw[Ha.out];exact r5) (by rw[Ha.out];exact t5);rw[HD.out] at this;exact this
        have R5:=qd (HR.out.trans (r5.wide (qz _) (qr _)));clear ab S t5 r5 HP HR Ha Hm Hb;go_wp2_with fail
        go_roundg (N-D)
        case measure=>omega
        case rel=>exact⟨D,d5,by omega,by omega,qr _,rfl,S5,P5,R5⟩
       ·have vt:¬(mm:Int)<(N:Int):=by omega
        have P5:Hid (Blk ltW N D d4):=by
         have:=HP.out.last (d':=d4) (by rw[Ha.out,<-Hb.out];omega) (Res.refl d4) (HP.out.short (by rw[Ha.out,Hm.out];omega));rw[HD.out] at this;exact this
        clear HP Ha Hm Hb;go_wp2_with fail
        go_roundg (N-D)
        case measure=>omega
        case rel=>exact⟨D,d4,by omega,by omega,qr _,rfl,S,P5,HR⟩
    ·have fA:¬(bs:Int)<(N:Int):=by omega
     go_wp2_with fail
     go_end0
     exact⟨rfl,d3,S.out,HK.out.all (by omega),HR.out⟩
theorem zsW(B G cap N:Nat)(d:Nat->zaH)(w:World)(hN:N<=1048576)(S:SSt w w B G cap N d):
 Calls Tryz.prog 81 #[(qS (some ⟨G,0,none⟩) N cap),.func (.func 82) #[] #[]] w fun e w'=>e= .returned (.tuple #[])/\∃d',SSt w w' B G cap N d'/\Srt ltW d' 0 N/\Res N 0 N d d':=by
 have aa:=zBp B G cap N d w hN S;have ab:=qd aa;clear aa S
 go_enter Tryz.func81,Tryz.ntmps81
 go_wp2_with fail;refine ab.out.mono ?_;rintro e w1 ⟨rfl,S1⟩;clear ab;go_wp2_with fail
 go_end0
 exact⟨rfl,S1⟩
end
section
open Go.RowKit Game Stb
theorem zBq:(Tryz.prog.info? 36).map (fun i=>(i.zero,i.size,i.bytes))=some (some (.agg #[.slice none 0 0,.int .i64 0]),2,32):=by kernel_rfl
theorem zKN{N:Nat}{d:Nat->zaH}{w:World}{g o:Nat}(hc:∀k,k<N->w.cell? ⟨g,o+k*2,none⟩=some (d k).v1/\w.cell? ⟨g,o+(k*2+1),none⟩=some (d k).v2)(j:Nat)(u:Value)(h:(fl N d)[j]? =some u):w.cell? ⟨g,o+j,none⟩=some u:=by
 obtain⟨hj,rfl⟩:=List.getElem?_eq_some_iff.1 h;have BA:j<N*2:=by rw[zeu] at hj;exact hj
 have hk:j / 2<N:=by omega
 obtain⟨h1,h2⟩:=hc (j / 2) hk
 rcases Nat.mod_two_eq_zero_or_one j with hm|hm
 ·have e:j / 2*2=j:=by omega
  rw[e] at h1;rw[h1];simp only[fl,List.getElem_map,List.getElem_range,hm,if_pos]
 ·have e:j / 2*2+1=j:=by omega
  rw[e] at h2;rw[h2];simp only[fl,List.getElem_map,List.getElem_range,hm];rfl
theorem zJQ{N:Nat}{d:Nat->zaH}:∀u∈fl N d,u.oneCell'=true:=by
 intro u hu;unfold fl at hu;obtain⟨t,-,rfl⟩:=List.mem_map.1 hu
 split <;> rfl
theorem zsX{w:World}{ops:Array Oper}{rest:List Oper}{o:Oper}{a:Act}{Q:Exit->Act->World->Prop}(dH:o.guard=none)(s x:Operand)
 (ho:o.op= .call {callee:= .builtin .append,args:=#[s,x],argTypes:=#[28,28]})
 (g2 o2 N c2:Nat) (d:Nat->zaH) (hg:g2<w.heap.size) (hc:∀k,k<N->w.cell? ⟨g2,o2+k*2,none⟩=some (d k).v1/\w.cell? ⟨g2,o2+(k*2+1),none⟩=some (d k).v2)
 (Fb:∀k,k<N->Rd w w.heap.size (d k)) (hs:a.eval s=(qS (some ⟨w.heap.size,0,none⟩) 0 0)) (hx:a.eval x=(qS (some ⟨g2,o2,none⟩) N c2)) (am:N<=1048576)
 (h:∀G cap w',w.heap.size<=G->Below w.heap.size w w'->SSt w' w' w.heap.size G cap N d->wpList Tryz.prog ops Q rest (a.put o.dst (qS (some ⟨G,0,none⟩) N cap)) w'):
 wpList Tryz.prog ops Q (o::rest) a (w.alloc (.cells #[] 36)):=by
 have aN:Below w.heap.size w (w.alloc (.cells #[] 36)):=(Below.refl _ _).alloc (qr _) _;have hE:zaE (w.alloc (.cells #[] 36)) w.heap.size 36 2 w.heap.size 0 0 []:=World.ownsRow_lit w #[] 0 (qr _) (by decide) rfl;refine zfs zBq Tryz.underlying28 rfl (by decide) (by decide) dH s x ho w.heap.size w.heap.size 0 0 [] hE g2 o2 N c2 (fl N d) (zeu N d) (fun j u hu=>?_) zJQ hs hx (by omega) fun G cap w' h2 h3 h4=>?_
 ·have:=zKN hc j u hu;rw[<-this];unfold World.cell?;simp only[aN.block g2 hg]
 ·have hb:Below w.heap.size w w':=aN.grown h3 (by simp) (by intro k hk;cases hk;exact qr _);have hG:w.heap.size<=G:=by rcases h4 with rfl|rfl;exact qr _;simp
  rw[Nat.zero_add] at h2 ⊢;refine h G cap w' hG hb ⟨h2,fun k hk=>?_,World.grownBy.refl _ _⟩;obtain⟨r1,r2,r3,r4,r5,r6⟩:=Fb k hk;exact⟨by omega,qL r2 hb.size,r3,r4,r5,r6.below hb r2⟩
theorem zBr(g o N c:Nat)(d:Nat->zaH)(w:World)(hN:N<=1048576)(hg:g<w.heap.size)(hc:∀k,k<N->w.cell? ⟨g,o+k*2,none⟩=some (d k).v1/\w.cell? ⟨g,o+(k*2+1),none⟩=some (d k).v2)
 (Fb:∀k,k<N->Rd w w.heap.size (d k)):
 Calls Tryz.prog 80 #[(qS (some ⟨g,o,none⟩) N c)] w fun e w'=>∃G cap,e= .returned (qS (some ⟨G,0,none⟩) N cap)/\w.heap.size<=G/\Below w.heap.size w w'/\SSt w' w' w.heap.size G cap N d:=by
 have yd:∀W,(binOp .eql 28 (qS (some ⟨g,o,none⟩) N c) (.slice none 0 0)).run Tryz.prog W= .ok (.bool false) W:=fun W=>Lib.run_eql_slice_nil W 28 36 _ _ _ _ _ Tryz.underlying28
 go_enter Tryz.func80,Tryz.ntmps80
 go_wp2_with (at_builtin;refine zsX rfl _ _ rfl g o N c d hg hc Fb rfl rfl (by omega) ?_);intro G cap w1 hG hb hS;go_wp2_with fail;go_ret;exact⟨G,cap,rfl,hG,hb,hS⟩
theorem zxx(v:Value)(x:zaH)(w:World)(hv:v= .agg #[x.v1,x.v2]):
 Calls Tryz.prog 86 #[v] w fun e w'=>e= .returned (.bool (x.ct==0))/\∃q os',w'=Go.Sort.grow (w.drewN q) os':=by
 obtain⟨g,o,n,c,xs,t⟩:=x;subst hv;show Calls _ _ #[.agg #[(qS (some ⟨g,o,none⟩) n c),.int .i64 t]] _ _;dsimp only
 go_enter Tryz.func86,Tryz.ntmps86
 go_wp2_with fail;go_ret;exact⟨rfl,0,#[_],Go.Sort.alloc_eq_grow _ _⟩
theorem zBs(B G cap N:Nat)(d:Nat->zaH)(w:World)(hN:N<=1048576)(S:SSt w w B G cap N d):
 Calls Tryz.prog 134 #[(qS (some ⟨G,0,none⟩) N cap),.func (.func 86) #[] #[]] w fun e w'=>∃i:Int,e= .returned (.int .i64 i)/\SSt w w' B G cap N d/\
  ((i=-1/\∀k,k<N->(d k).ct≠0)∨∃k:Nat,i=k/\k<N/\(d k).ct=0/\∀j,j<k->(d j).ct≠0):=by
 have S0:=qd S;clear S
 go_enter Tryz.func134,Tryz.ntmps134
 go_wp2_with fail;go_loopw [5,8] (fun _ kv wr=>∃k:Nat,k<=N/\kv= .int .i64 k/\Hid (SSt w wr B G cap N d)/\Hid (∀j,j<k->(d j).ct≠0)) (fun _ kv _=>N-(intOf kv).toNat)
 case atStart=>exact⟨0,qz _,rfl,S0,qd (fun j h=>absurd h (Nat.not_lt_zero _))⟩
 case round=>
  clear S0;obtain⟨k,hk,rfl,S,HZ⟩:=hrel;by_cases ac:k<N
  ·have hz:(k:Int)<(N:Int):=by omega
   obtain⟨c1,c2⟩:=S.out.cells ac;obtain⟨x,hx⟩:∃x,d k=x:=⟨_,rfl⟩;have HX:=qd hx;rw[hx] at c1 c2;have v1:x.v1=(qS (some ⟨x.g,x.o,none⟩) x.n x.c):=rfl;have v2:x.v2= .int .i64 x.ct:=rfl;rw[v1] at c1;rw[v2] at c2;clear hx v1 v2;have HC:=qd (fun W=>zxx (.agg #[(qS (some ⟨x.g,x.o,none⟩) x.n x.c),.int .i64 x.ct]) x W rfl);by_cases h0:x.ct=0
   ·have H0:=qd h0;clear h0;go_wp2_with fail;refine(HC.out _).mono ?_;rintro e w1 ⟨rfl,q,os',rfl⟩;have HS:=qd (S.out.cls q os');clear S c1 c2 HC;have hb:(x.ct==0)=true:=by rw[H0.out];rfl
    rw[hb];clear hb;go_wp2_with fail;go_ret;exact⟨k,rfl,HS.out,.inr ⟨k,rfl,ac,by rw[HX.out];exact H0.out,HZ.out⟩⟩
   ·have SD:Hid (∀j,j<k+1->(d j).ct≠0):=fun j hj=>by
     by_cases e:j=k
     ·rw[e,HX.out];exact h0
     ·exact HZ.out j (by omega)
    have H0:=qd h0;clear h0;go_wp2_with fail;refine(HC.out _).mono ?_;rintro e w1 ⟨rfl,q,os',rfl⟩;have HS:=qd (S.out.cls q os');clear S c1 c2 HC HZ;have hb:(x.ct==0)=false:=by rw[beq_eq_false_iff_ne];exact H0.out
    rw[hb];clear hb;go_wp2_with fail;go_roundw
    case rel=>exact⟨k+1,by omega,by go_num,HS,SD⟩
    case measure=>simp[intOf];omega
  ·obtain rfl:k=N:=by omega
   go_wp2_with fail;go_ret;exact⟨-1,rfl,S.out,.inl ⟨rfl,HZ.out⟩⟩
end
section
open Go.RowKit Game Stb
theorem zoV{E:TypeId}{k B g cap n:Nat}:∀(vs:List Value) (w:World) (cs:List Value) (o:Nat),zaE w B E k g cap n cs->
 ∃cs',zaE (w.setCells g o vs) B E k g cap n cs'/\cs'.take o=cs.take o/\w.grownBy (w.setCells g o vs) (some g)
 |[],w,cs,o,h=>⟨cs,h,rfl,World.grownBy.refl _ _⟩
 |v::vs,w,cs,o,h=>by
  obtain⟨h1,h2⟩:=h.set o v;obtain⟨cs',h3,h4,h5⟩:=zoV vs (w.setCell ⟨g,o,none⟩ v) (cs.set o v) (o+1) h1;refine⟨cs',h3,?_,World.grownBy.trans' h2 h5⟩;have:(cs'.take (o+1)).take o=((cs.set o v).take (o+1)).take o:=by rw[h4]
  rw[List.take_take,List.take_take,Nat.min_eq_left (by omega),List.take_set_of_le (qr o)] at this;exact this
theorem zGr{w:World}{E:TypeId}{k B g cap n m:Nat}{cs:List Value}(h:zaE w B E k g cap n cs)(hm:m<=n):zaE w B E k g cap m (cs.take (m*k)):=by
 have am:=h.1
 rcases h.2 with⟨h',_⟩|⟨g',cap',cur,h',hb,hh,hn,hx,hs,bQ⟩
 ·simp at h'
 ·simp only[Value.slice.injEq,Option.some.injEq,Addr.mk.injEq] at h';obtain⟨⟨rfl,_⟩,_,rfl⟩:=h';have SE:m*k<=n*k:=Nat.mul_le_mul_right _ hm;refine⟨by rw[List.length_take,am];omega,.inr ⟨g,cap,cur,rfl,hb,hh,by omega,hx,hs,?_⟩⟩;rw[<-bQ,List.take_take,Nat.min_eq_left SE]
theorem zsY(w:World)(ty:TypeId)(b o n c:Nat)(hc:∀j,j<n*2->(w.cell? ⟨b,o+j,none⟩).isSome=true)(hf:∀j,j<n*2->w.frozen? ⟨b,o+j,none⟩=false):
 ∃vs,(Builtin.clear_ #[28] ty #[.slice (some ⟨b,o,none⟩) n c]).run Tryz.prog w= .ok (.tuple #[]) (w.setCells b o vs):=by
 by_cases hn:n=0
 ·subst hn;refine⟨[],?_⟩;simp[Builtin.clear_,run_underlying Tryz.underlying28];rfl
 ·obtain⟨i0,hi,fP,eJ,gK⟩:=info_parts zBq
  have hv:∀w,(zeroValue 36).run Tryz.prog w= .ok (.agg #[.slice none 0 0,.int .i64 0]) w:=fun w=>by
   unfold zeroValue;simp;rfl
  have fJ:(Value.agg #[.slice none 0 0,.int .i64 0]).cells.size=2:=rfl
  have hl:(Builtin.zeroCells (Value.agg #[.slice none 0 0,.int .i64 0]).cells n).toList.length=n*2:=by
   simp[Builtin.zeroCells,fJ]
  have h1:∀v∈(Builtin.zeroCells (Value.agg #[.slice none 0 0,.int .i64 0]).cells n).toList,v.oneCell'=true:=by
   intro v hv;simp only[Builtin.zeroCells,Array.toList_map,List.mem_map,fJ] at hv;obtain⟨a,-,rfl⟩:=hv
   rcases Nat.mod_two_eq_zero_or_one a with e|e <;> rw[e] <;> rfl
  have aL:=run_storeCells_cells (P:=Tryz.prog) b o (Builtin.zeroCells (Value.agg #[.slice none 0 0,.int .i64 0]).cells n).toList 0 w (by rw[hl];simpa using hc) (by rw[hl];simpa using hf) h1;simp only[Nat.add_zero] at aL;obtain⟨m,rfl⟩:∃m,n=m+1:=⟨n-1,by omega⟩;refine⟨(Builtin.zeroCells (Value.agg #[.slice none 0 0,.int .i64 0]).cells (m+1)).toList,?_⟩;simp[Builtin.clear_,run_underlying Tryz.underlying28,hv,aL]
end
section
open Go.RowKit Game Stb
def nzS(x:zaH):Bool:=!(x.ct==0)
def upd(d:Nat->zaH)(i:Nat)(x:zaH):Nat->zaH:=fun k=>if k=i then x else d k
theorem zlS{α:Type}(n:Nat)(d:Nat->α):lst (n+1) d=lst n d++[d n]:=by simp[lst,List.range_succ]
theorem zBt{α:Type}{n:Nat}{d d':Nat->α}(h:∀k,k<n->d k=d' k):lst n d=lst n d':=by
 unfold lst;exact List.map_congr_left fun k hk=>h k (List.mem_range.1 hk)
theorem zBu{n:Nat}{d:Nat->zaH}(h:∀k,k<n->(d k).ct≠0):(lst n d).filter nzS=lst n d:=by
 refine List.filter_eq_self.2 fun x hx=>?_
 obtain⟨k,hk,rfl⟩:=List.mem_map.1 hx;have:=h k (List.mem_range.1 hk);simp[nzS,this]
structure Kp(d cur:Nat->zaH)(i j:Nat):Prop where
 le:i<=j
 eq:lst i cur=(lst j d).filter nzS
 keep:∀k,j<=k->cur k=d k
theorem Kp.start{d:Nat->zaH}{k:Nat}(h0:(d k).ct=0)(h:∀j,j<k->(d j).ct≠0):Kp d d k (k+1):=
 ⟨by omega,by rw[zlS,List.filter_append,zBu h];simp[nzS,h0],fun _ _=>rfl⟩
theorem Kp.skip{d cur:Nat->zaH}{i j:Nat}(h:Kp d cur i j)(h0:(d j).ct=0):Kp d cur i (j+1):=
 ⟨by have:=h.le;omega,by rw[zlS,List.filter_append,<-h.eq];simp[nzS,h0],fun k hk=>h.keep k (by omega)⟩
theorem Kp.take{d cur:Nat->zaH}{i j:Nat}(h:Kp d cur i j)(h0:(d j).ct≠0):Kp d (upd cur i (d j)) (i+1) (j+1):=by
 refine⟨by have:=h.le;omega,?_,fun k hk=>?_⟩
 ·have e:lst i (upd cur i (d j))=lst i cur:=zBt fun k hk=>by unfold upd;rw[if_neg (by omega)]
  have h1:nzS (d j)=true:=by simp[nzS,h0]
  rw[zlS,zlS,List.filter_append,<-h.eq,e,List.filter_cons_of_pos h1];simp[upd]
 ·have:=h.le;unfold upd;rw[if_neg (by omega)];exact h.keep k (by omega)
theorem zJR{N:Nat}(d:Nat->zaH)(i:Nat)(x:zaH):((fl N d).set (i*2) x.v1).set (i*2+1) x.v2=fl N (upd d i x):=by
 apply List.ext_getElem (by simp[fl]);intro t h1 h2;simp only[List.getElem_set,fl,List.getElem_map,List.getElem_range];unfold upd;by_cases e3:i*2+1=t
 ·subst e3;rw[if_pos rfl,if_neg (by omega),if_pos (by omega)]
 ·rw[if_neg e3];by_cases e4:i*2=t
  ·subst e4;rw[if_pos rfl,if_pos (by omega),if_pos (by omega)]
  ·rw[if_neg e4];have vw:¬t / 2=i:=by omega
   simp only[if_neg vw]
theorem zJb{N M:Nat}(d:Nat->zaH)(h:M<=N):(fl N d).take (M*2)=fl M d:=by
 unfold fl;rw[<-List.map_take,List.take_range,Nat.min_eq_left (by omega)]
theorem SSt.put{w W:World}{B G cap N:Nat}{d:Nat->zaH}(h:SSt w W B G cap N d)(i:Nat)(x:zaH)(hx:Rd W G x):SSt w ((W.setCell ⟨G,i*2,none⟩ x.v1).setCell ⟨G,i*2+1,none⟩ x.v2) B G cap N (upd d i x):=by
 have o1:=h.own.set (i*2) x.v1;have o2:=o1.1.set (i*2+1) x.v2;have hg:=World.grownBy.trans' o1.2 o2.2;refine⟨?_,fun k hk=>?_,World.grownBy.trans' h.grown hg⟩
 ·have:=o2.1;rw[zJR d i x] at this;exact this
 ·unfold upd
  split
  ·exact hx.grown hg
  ·exact(h.rd k hk).grown hg
theorem SSt.front{w W:World}{B G cap N M:Nat}{d:Nat->zaH}(h:SSt w W B G cap N d)(hM:M<=N)(vs:List Value):SSt w (W.setCells G (M*2) vs) B G cap M d:=by
 obtain⟨cs',h1,h2,h3⟩:=zoV vs W (fl N d) (M*2) h.own;have h4:=zGr h1 hM;rw[h2,zJb d hM] at h4;exact⟨h4,fun k hk=>(h.rd k (by omega)).grown h3,World.grownBy.trans' h.grown h3⟩
def zJS(w:World)(B G cap N:Nat)(d:Nat->zaH)(e:Ending)(w':World):Prop:=∃(M:Nat) (d':Nat->zaH),e= .returned (qS (some ⟨G,0,none⟩) M cap)/\M<=N/\lst M d'=(lst N d).filter nzS/\SSt w w' B G cap M d'
theorem zyP(B G cap N:Nat)(d:Nat->zaH)(w:World)(hN:N<=1048576)(S:SSt w w B G cap N d):
 Calls Tryz.prog 85 #[(qS (some ⟨G,0,none⟩) N cap),.func (.func 86) #[] #[]] w (zJS w B G cap N d):=by
 have aS:=S.own.capLe;have HI:=qd (zBs B G cap N d w hN S);clear S
 go_enter Tryz.func85,Tryz.ntmps85
 go_wp2_with fail;refine HI.out.mono ?_;rintro e w1 ⟨i0,rfl,S1,hi⟩;clear HI
 rcases hi with⟨rfl,hz⟩|⟨k0,rfl,nh,fP,eJ⟩
 ·have HZ:=qd hz;have HS:=qd S1;clear hz S1;go_wp2_with fail;go_ret;exact⟨N,d,rfl,qr _,(zBu HZ.out).symm,HS.out⟩
 ·have OJ:=qd (Kp.start fP eJ);have S0:=qd S1;have ao:¬(k0:Int)=-1:=by omega
  clear fP eJ S1;go_wp2_with fail;go_loopg [5,6,7] N (fun gk iv jv _ wr=>∃(i j:Nat) (cur:Nat->zaH),i<j/\j<=N/\N-j<=gk/\iv= .int .i64 i/\jv= .int .i64 j/\Hid (SSt w wr B G cap N cur)/\Hid (Kp d cur i j))
  case atStart=>exact⟨k0,k0+1,d,by omega,by omega,by omega,rfl,by go_num,S0,OJ⟩
  case round=>
   clear S0 OJ ao;obtain⟨i,j,cur,iP,hj,hg,rfl,rfl,S,HK⟩:=hrel;by_cases ac:j<N
   ·have hz:(j:Int)<(N:Int):=by omega
    obtain⟨c1,c2⟩:=S.out.cells ac;obtain⟨x,hx⟩:∃x,cur j=x:=⟨_,rfl⟩;have HX:=qd hx;rw[hx] at c1 c2;have v1:x.v1=(qS (some ⟨x.g,x.o,none⟩) x.n x.c):=rfl;have v2:x.v2= .int .i64 x.ct:=rfl;rw[v1] at c1;rw[v2] at c2;clear hx v1 v2;have HC:=qd (fun W=>zxx (.agg #[(qS (some ⟨x.g,x.o,none⟩) x.n x.c),.int .i64 x.ct]) x W rfl);have LJ:Hid (Rd wr G x):=by rw[<-HX.out];exact S.out.rd j ac
    have LK:Hid (d j=x):=by rw[<-HX.out];exact(HK.out.keep j (qr _)).symm
    have bn:∀o q os',Below wr.heap.size wr (Go.Sort.grow ((wr.alloc o).drewN q) os'):=fun o q os'=>((Below.refl _ _).alloc (qr _) _).trans ((zoT q os').mono (by simp))
    have HG:=qd bn;clear bn;by_cases h0:x.ct=0
    ·have H0:=qd h0;have GX:=qd (HK.out.skip (by rw[LK.out];exact h0));clear h0 HK;go_wp2_with fail;refine(HC.out _).mono ?_;rintro e w2 ⟨rfl,q,os',rfl⟩;have hb:(x.ct==0)=true:=by rw[H0.out];rfl
     have S2:=qd (S.out.step (HG.out (.cells #[(qS (some ⟨x.g,x.o,none⟩) x.n x.c),.int .i64 x.ct] 36) q os'));rw[hb];clear hb c1 c2 HC S HG LJ;go_wp2_with fail
     go_roundg (N-(j+1))
     case measure=>omega
     case rel=>exact⟨i,j+1,cur,by omega,by omega,qr _,rfl,by go_num,S2,GX⟩
    ·have H0:=qd h0;have GX:=qd (HK.out.take (by rw[LK.out];exact h0));rw[LK.out] at GX;clear h0 HK;go_wp2_with fail;refine(HC.out _).mono ?_;rintro e w2 ⟨rfl,q,os',rfl⟩;have hb:(x.ct==0)=false:=by rw[beq_eq_false_iff_ne];exact H0.out
     have dM:=HG.out (.cells #[(qS (some ⟨x.g,x.o,none⟩) x.n x.c),.int .i64 x.ct] 36) q os';have S2:=S.out.step dM;have Fc:=LJ.out.grown (w':=Go.Sort.grow ((wr.alloc (.cells #[(qS (some ⟨x.g,x.o,none⟩) x.n x.c),.int .i64 x.ct] 36)).drewN q) os') ⟨dM.os,dM.tape,dM.output,dM.size,fun k hk _=>dM.block k hk⟩
     have b1:(Go.Sort.grow ((wr.alloc (.cells #[(qS (some ⟨x.g,x.o,none⟩) x.n x.c),.int .i64 x.ct] 36)).drewN q) os').cell? ⟨wr.heap.size,0,none⟩=some (qS (some ⟨x.g,x.o,none⟩) x.n x.c):=by
      rw[Go.Sort.cell?_grow _ _ _ (by simp)];simp[World.cell?_alloc_new]
     have b2:(Go.Sort.grow ((wr.alloc (.cells #[(qS (some ⟨x.g,x.o,none⟩) x.n x.c),.int .i64 x.ct] 36)).drewN q) os').cell? ⟨wr.heap.size,1,none⟩=some (.int .i64 x.ct):=by
      rw[Go.Sort.cell?_grow _ _ _ (by simp)];simp[World.cell?_alloc_new]
     rw[hb];clear hb c1 c2 HC S HG LJ dM;generalize Go.Sort.grow ((wr.alloc (.cells #[(qS (some ⟨x.g,x.o,none⟩) x.n x.c),.int .i64 x.ct] 36)).drewN q) os'=w2 at*;generalize wr.heap.size=bb at*;have pz:i<N:=by omega
     obtain⟨c1,c2⟩:=S2.cells pz;have f1:=S2.own.frozen (i*2);have f2:=S2.own.frozen (i*2+1);have HS:=qd (S2.put i x Fc);have v1:∀x:zaH,x.v1=(qS (some ⟨x.g,x.o,none⟩) x.n x.c):=fun _=>rfl
     have v2:∀x:zaH,x.v2= .int .i64 x.ct:=fun _=>rfl
     simp only[v1,v2] at c1 c2 HS;generalize cur i=y at c1 c2;clear v1 v2 S2 Fc;have TC:(i:Int)<(N:Int):=by omega
     go_wp2_with fail
     go_roundg (N-(j+1))
     case measure=>omega
     case rel=>exact⟨i+1,j+1,_,by omega,by omega,qr _,by go_num,by go_num,HS,GX⟩
   ·have hz:¬(j:Int)<(N:Int):=by omega
    obtain rfl:N=j:=by omega
    have hc:∀t,t<(N-i)*2->(wr.cell? ⟨G,i*2+t,none⟩).isSome=true:=fun t ht=>by rw[S.out.own.cell _ (by rw[zeu];omega)];rfl
    obtain⟨vs,cz⟩:=zsY wr 0 G (i*2) (N-i) (cap-i) hc (fun t _=>S.out.own.frozen _);have HS:=qd (S.out.front (M:=i) (by omega) vs);clear hc S;go_wp2_with fail;go_ret;exact⟨i,cur,rfl,by omega,HK.out.eq,HS.out⟩
end
section
open Go.RowKit Game Stb
def zyQ:zaH:=⟨0,0,0,0,[],0⟩
theorem zGs{α:Type}(N:Nat)(d:Nat->α)(x:α)(k:Nat)(hk:k<N):(lst N d).getD k x=d k:=by simp[lst,List.getD,hk]
theorem zyR{α:Type}(N:Nat)(d:Nat->α):(lst N d).length=N:=by simp[lst]
theorem zyS{w:World}{g o:Nat}{l:List Wt}(h:zgo w g o l)(hf:zgb l):∃d:Nat->zaH,(lst l.length d).map zaH.wt=l/\∀k,k<l.length->(w.cell? ⟨g,o+k*2,none⟩=some (d k).v1/\w.cell? ⟨g,o+(k*2+1),none⟩=some (d k).v2)/\Rd w w.heap.size (d k):=by
 have h1:∀i,i<l.length->∃x:zaH,x.wt=l.getD i ([],0)/\(w.cell? ⟨g,o+i*2,none⟩=some x.v1/\w.cell? ⟨g,o+(i*2+1),none⟩=some x.v2)/\Rd w w.heap.size x:=fun i hi=>by
  obtain⟨gj,oj,cj,q1,q2,q3,q4,q5⟩:=h i hi;exact⟨⟨gj,oj,(wOf l i).length,cj,wOf l i,ziS l i⟩,rfl,⟨q1,q2⟩,by show gj≠w.heap.size;omega,q4,rfl,q3,hf.2 i hi,q5⟩
 obtain⟨L,hL,OK⟩:=zvL zyQ l.length _ h1;refine⟨fun k=>L.getD k zyQ,?_,fun k hk=>(OK k hk).2⟩;apply List.ext_getElem (by simp[lst]);intro k k1 k2;have:=(OK k k2).1;simp only[lst,List.getElem_map,List.getElem_range];rw[this];simp[List.getD,k2]
theorem zGt{N:Nat}{d:Nat->zaH}(h:Srt ltW d 0 N):((lst N d).map zaH.wt).Pairwise fun x y=>¬zbc y.1 x.1<0:=by
 rw[List.pairwise_map];unfold lst;rw[List.pairwise_map,List.pairwise_iff_getElem];intro i j hi hj iP;have fC:j<N:=by simpa using hj
 simp only[List.getElem_range];have:=h i j (qz _) iP fC;unfold ltW ltOf cfW at this;simpa [zaH.wt] using this
def toS(r:WRef):zaH:=⟨r.1.1,0,r.1.2.2.length,r.1.2.1,r.1.2.2,r.2⟩
theorem zvx(rs:List WRef)(d:Nat->zaH)(hd:∀k (hk:k<rs.length),d k=toS rs[k]):zby rs=fl rs.length d:=by
 apply List.ext_getElem (by rw[zdS,zeu]);intro t h1 h2;have ht:t<rs.length*2:=by rw[zdS] at h1;exact h1
 have hk:t / 2<rs.length:=by omega
 obtain⟨f1,f2⟩:=ziW rs [] (t / 2) hk;rw[List.append_nil] at f1 f2;simp only[fl,List.getElem_map,List.getElem_range];have Gm:=hd (t / 2) hk
 rcases Nat.mod_two_eq_zero_or_one t with hm|hm
 ·have e:t / 2*2=t:=by omega
  rw[e,List.getElem?_eq_getElem h1] at f1;rw[if_pos hm,Gm];exact Option.some.inj f1
 ·have e:t / 2*2+1=t:=by omega
  rw[e,List.getElem?_eq_getElem h1] at f2;rw[if_neg (by omega),Gm];exact Option.some.inj f2
theorem zas.sst{w:World}{B g cap:Nat}{rs:List WRef}(h:zas w B g cap rs)(hf:∀r∈rs,r.1.2.2.length<=1048576):∃d,SSt w w B g cap rs.length d/\lst rs.length d=rs.map toS:=by
 refine⟨fun k=>toS (rs.getD k ((0,0,[]),0)),⟨?_,fun k hk=>?_,World.grownBy.refl _ _⟩,?_⟩
 ·rw[<-zvx rs _ (fun k hk=>by simp[List.getD,hk])];exact h.1
 ·have hm:rs[k]∈rs:=List.getElem_mem hk;have ho:=h.ofMem hm;have e:rs.getD k ((0,0,[]),0)=rs[k]:=by simp[List.getD,hk]
  simp only[e];exact⟨fun e=>h.ne ho e.symm,ho.lt,rfl,ho.capLe,hf _ hm,ho.cells⟩
 ·apply List.ext_getElem (by simp[lst]);intro k h1 h2;have hk:k<rs.length:=by simpa using h2
  simp[lst,List.getD,hk]
theorem zGu{w W:World}{B g cap M:Nat}{rs:List WRef}{d:Nat->zaH}(h:zas w B g cap rs)(S:SSt w W B g cap M d)(hd:lst M d=(rs.map toS).filter nzS):
 zas W B g cap (rs.filter fun r=>!(r.2==0))/\(rs.filter fun r=>!(r.2==0)).length=M:=by
 have e:(rs.map toS).filter nzS=(rs.filter fun r=>!(r.2==0)).map toS:=by rw[List.filter_map];rfl
 rw[e] at hd
 have hl:(rs.filter fun r=>!(r.2==0)).length=M:=by
  have:=congrArg List.length hd;rw[zyR,List.length_map] at this;exact this.symm
 have hk:∀k (hk:k<(rs.filter fun r=>!(r.2==0)).length),d k=toS (rs.filter fun r=>!(r.2==0))[k]:=fun k hk=>by
  have h1:=zGs M d zyQ k (by omega);rw[hd] at h1;rw[<-h1];simp[List.getD,hk]
 have hf:=zvx _ d hk;rw[hl] at hf;refine⟨⟨by rw[hf,hl];exact S.own,fun r hr=>?_,?_⟩,hl⟩
 ·obtain⟨s,hs,rfl⟩:=List.mem_map.1 hr;have tR:=(List.mem_filter.1 hs).1;have ho:=h.ofMem tR;exact ho.grown S.grown (fun e=>h.ne ho (Option.some.inj e).symm)
 ·exact(List.Sublist.map _ (List.filter_sublist.map _)).nodup h.2.2
theorem zwP(rs:List WRef):zaz (rs.filter fun r=>!(r.2==0))=(zaz rs).filter fun x=>!(x.2==0):=by
 unfold zaz;rw[List.filter_map];rfl
end
section
open Go.RowKit Game Stb
structure zti(w2:World)(bb:Nat)(W:World)(gO cO:Nat)(rs:List WRef)(gx ox nx cx:Nat)(xs:LI)(xt:Int):Prop where
 own:zas W w2.heap.size gO cO rs
 bel:Below w2.heap.size w2 W
 cel:zag W gx ox xs
 glt:gx<W.heap.size
 bl:bb<W.heap.size
 le:w2.heap.size<=W.heap.size
 nO:gO≠bb
 b1:W.cell? ⟨bb,0,none⟩=some (qS (some ⟨gx,ox,none⟩) nx cx)
 b2:W.cell? ⟨bb,1,none⟩=some (.int .i64 xt)
theorem zti.mk'{w2 wr W:World}{gO cO:Nat}{rs:List WRef}{gx ox nx cx:Nat}{xs:LI}{xt:Int}{n:Nat}(hb:Below w2.heap.size w2 wr)(ho:zas wr w2.heap.size gO cO rs)(hg:gx<wr.heap.size)(hc:zag wr gx ox xs)
 (hW:W=(wr.alloc (.cells #[(qS (some ⟨gx,ox,none⟩) nx cx),.int .i64 xt] 36)).drewN n):zti w2 wr.heap.size W gO cO rs gx ox nx cx xs xt:=by
 subst hW;have hB:Below wr.heap.size wr ((wr.alloc (.cells #[(qS (some ⟨gx,ox,none⟩) nx cx),.int .i64 xt] 36)).drewN n):=below_drewN ((Below.refl _ _).alloc (qr _) _) n;have h1:=World.cell?_alloc_new wr;refine⟨ho.below hB,hb.trans (hB.mono hb.size),hc.below hB hg,qL hg hB.size,by simp,qt hb.size hB.size,by have:=ho.lt;omega,?_,?_⟩
 ·show(wr.alloc _).cell? _=_;simp[World.cell?_alloc_new]
 ·show(wr.alloc _).cell? _=_;simp[World.cell?_alloc_new]
end
end Go.Proofs.YtlgcmaoimpgedaaGreatDoor

/- SzK FewB Few Dot Down OrbW -/
import Derived.Test.YtlgcmaoimpgedaaGreatDoorT25
import Derived.Test.YtlgcmaoimpgedaaGreatDoorT26
import Derived.Test.YtlgcmaoimpgedaaGreatDoorT27
import Derived.Test.YtlgcmaoimpgedaaGreatDoorT28
import Derived.Test.YtlgcmaoimpgedaaGreatDoorT29
import Derived.Shelf.SlSortCmp.Insertion
import Derived.Test.YtlgcmaoimpgedaaGreatDoorT24
set_option maxHeartbeats 8000000
set_option maxRecDepth 100000
set_option linter.unusedSimpArgs false
namespace Go.Proofs.YtlgcmaoimpgedaaGreatDoor
open Go.Value renaming slice->qS
section
open Go.RowKit Game
theorem zIy:znl szK (0,0) (0,0) (0,0)=true:=by
 unfold znl;simp only[L6,List.all_cons,List.all_nil,Bool.and_true,zIn,zIo,zIp,zIq,zIr,zIs,Bool.or_true]
theorem zEs:zad szK (0,0) (0,0)=true:=by
 rw[zIc];simp only[L6,List.all_cons,List.all_nil,Bool.and_true,zIy,zIt,zIu,zIv,zIw,zIx]
theorem zKy:zip szK=true:=by
 rw[zhy];simp only[L6,List.all_cons,List.all_nil,Bool.and_true,zEs,zDJ,zDK,zDL,zDM,zDN,zDO,zDP,zDQ,zDR,zDS,zDT,zDU,zDV,zDW,zDX,zDY,zDZ,zEa,zEb,zEc,zEd,zEe,zEf,zEg,zEh,zEi,zEj,zEk,zEl,zEm,zEn,zEo,zEp,zEq,zEr]
theorem zrl{c:LL}(hC:IsC c)(hf:zaN c=true):szK c=true:=zgB szK zKv zKw zKx zKy hC hf
end
section
open Go.RowKit Game
def zrm(w:LI):Int:=if w.length % 2=0 then 1 else -1
end
section
open Go.RowKit Game
theorem zpm{c:LL}(hf:zaN c=true):zeT c:=zIf (zgG hf) (Bool.and_eq_true_iff.1 (zrl (zgG hf) hf)).1
end
section
open Go.RowKit Game
theorem zeb(g1 o1 n c1 g2 o2 c2:Nat)(v r:LI)(w:World)(dL:v.length=n)(da:r.length=n)(hx:n<=1048576)(bm:g1<w.heap.size)(aP:g2<w.heap.size)(ha:zag w g1 o1 v)(hr:zag w g2 o2 r):
 Calls Tryz.prog 41 #[(qS (some ⟨g1,o1,none⟩) n c1),(qS (some ⟨g2,o2,none⟩) n c2)] w (zav w (addTo v r n)):=by
 go_enter Tryz.func41,Tryz.ntmps41
 go_wp2;go_loopw [5,13] (fun s kv wr=>∃t g' c':Nat,t<=n/\kv= .int .i64 t/\s=(qS (some ⟨g',0,none⟩) t c')/\Own wr w.heap.size g' c' (addTo v r t)/\Below w.heap.size w wr) (fun _ kv _=>n-(intOf kv).toNat)
 case atStart=>exact⟨0,w.heap.size,0,qz _,rfl,rfl,Own.empty (qr _),(Below.refl _ _).alloc (qr _) _⟩
 case round=>
  obtain⟨t,g',c',ht,rfl,rfl,ho,hb⟩:=hrel;by_cases ac:t<n
  ·have k1:=(hb.cell (p:=⟨g1,o1+t,none⟩) bm).trans (ha t (by omega));have k2:=(hb.cell (p:=⟨g2,o2+t,none⟩) aP).trans (hr t (by omega));have bw:=addTo_succ v r t;have hl:=zcP v r t;have lZ:=ho.base;have ne1:some g1≠some g':=by intro e;cases e;omega
   have ne2:some g2≠some g':=by intro e;cases e;omega
   generalize v.getD t 0=x at*;generalize r.getD t 0=y at*;generalize addTo v r t=ys at*;have Hs:=qd bw;clear bw;go_wp2_with fail
   go_region_held3 (fun W=>W.cell? ⟨g1,o1+t,none⟩=some (.int .i64 x)/\W.cell? ⟨g2,o2+t,none⟩=some (.int .i64 y))
    (first|go_keep|exact⟨aK.cell (a:=⟨g1,o1+t,none⟩) k1 ne1,aK.cell (a:=⟨g2,o2+t,none⟩) k2 ne2⟩)
    ((refine zcH (w:=wr.drew) (by rfl) _ _ (by rfl) w.heap.size g' c' t wr.heap.size ys (IntKind.i64.wrap (x+y)) _ hl (by rfl) (by rfl) ho.drew (by rfl) (by rfl) (by omega) ?_;intro g3 c3 w3 al aK aY))
   go_wp2_with fail;go_roundw
   case rel=>
    rw[show IntKind.i64.wrap (x+y)=wrap64 (x+y) by simp only[wrap64,IntKind.wrap_i64],<-Hs.out] at al;exact⟨t+1,g3,c3,by omega,by go_num,rfl,al,(Below.drew hb).grown aK hb.size (by intro j hj;cases hj;exact ho.base)⟩
   case measure=>simp[intOf];omega
  ·obtain rfl:t=n:=by omega
   go_wp2_with fail;go_ret;exact zav.mk' g' c' (zcP _ _ _) ho hb
def zdk(v:LI)(k:Nat):LI:=(List.range v.length).map fun j=>if j<k then v.getD j 0-1 else v.getD j 0
theorem zsU(v:LI)(k:Nat):(zdk v k).length=v.length:=by simp[zdk]
theorem zwC(v:LI):zdk v 0=v:=by
 apply List.ext_getElem (by simp[zdk]);intro i h1 h2;simp[zdk,List.getD,h2]
theorem zwD{v:LI}{k:Nat}(hk:k<v.length):(zdk v k).getD k 0=v.getD k 0:=by simp[zdk,List.getD,hk]
theorem zyp{v:LI}{k:Nat}(_hk:k<v.length):(zdk v k).set k (v.getD k 0-1)=zdk v (k+1):=by
 apply List.ext_getElem (by simp[zdk]);intro i h1 h2;have hi:i<v.length:=by simpa [zdk] using h2
 rw[List.getElem_set];by_cases e:k=i
 ·subst e;rw[if_pos rfl];simp[zdk]
 ·rw[if_neg e];simp only[zdk,List.getElem_map,List.getElem_range];by_cases h:i<k
  ·rw[if_pos h,if_pos (by omega)]
  ·rw[if_neg h,if_neg (by omega)]
theorem zyq(v:LI):zdk v v.length=zaS v (zax v.length) (-1):=by
 apply List.ext_getElem (by simp[zdk,zaS]);intro i h1 h2;have hi:i<v.length:=by simpa [zdk] using h1
 simp[zdk,zaS,zax,List.getD,hi];omega
theorem zpn(g o n cp:Nat)(v:LI)(w:World)(hn:v.length=n)(hx:n<=4)(AS:∀j,j<n→-1000000<=v.getD j 0/\v.getD j 0<=1000000)(hg:g<w.heap.size)(hc:zag w g o v):
 Calls Tryz.prog 78 #[(qS (some ⟨g,o,none⟩) n cp)] w (zav w (zaS v (zax n) (-1))):=by
 have HA:=qd (zyq v);rw[hn] at HA;have HS:=qd (fun k (hk:k<n)=>zyp (v:=v) (k:=k) (by rw[hn];exact hk));have HG:=qd (fun k (hk:k<n)=>zwD (v:=v) (k:=k) (by rw[hn];exact hk));have HL:=qd (fun k=>(zsU v k).trans hn);have Qz:=qd AS;have H0:=qd (zwC v);rw[<-HA.out];have Hn:=qd hn;clear hn AS HA
 go_enter Tryz.func78,Tryz.ntmps78
 go_wp2_with (at_builtin;refine zaV rfl _ _ rfl g o n cp v Hn.out hg hc rfl rfl (by rw[Hn.out];omega) ?_);intro g1 c1 w1 au ad;go_wp2_with fail;go_loopw [10] (fun kv wr=>∃k:Nat,k<=n/\kv= .int .i64 k/\Own wr w.heap.size g1 c1 (zdk v k)/\Below w.heap.size w wr) (fun kv _=>n-(intOf kv).toNat)
 case atStart=>exact⟨0,qz _,rfl,by rw[H0.out];exact au,ad⟩
 case round=>
  obtain⟨k,hk,rfl,ho,hb⟩:=hrel;by_cases ac:k<n
  ·have hgt:=HG.out k ac;have aL:=HS.out k ac;have jx:=Qz.out k ac;have x0:=ho.cell k (by rw[HL.out];exact ac);have y0:=ho.frozen k;rw[hgt] at x0;have s1:=ho.set k (v.getD k 0-1);rw[aL] at s1;have dc:Below w.heap.size w (wr.setCell ⟨g1,k,none⟩ (.int .i64 (v.getD k 0-1))):=hb.grown s1.2 hb.size (by intro j hj;cases hj;exact ho.base);generalize v.getD k 0=x at*;have hw:IntKind.i64.wrap (x-1)=x-1:=IntWalk.i64_in _ ⟨by omega,by omega⟩;obtain⟨s1,-⟩:=s1;clear ho aL hgt;go_wp2_with fail;go_roundw
   case rel=>exact⟨k+1,by omega,by go_num,s1,dc⟩
   case measure=>simp[intOf];omega
  ·obtain rfl:k=n:=by omega
   go_wp2_with fail;go_ret;exact zav.mk' g1 c1 (HL.out _) ho hb
theorem zqD(g o n cp:Nat)(l:LI)(w:World)(hn:l.length=n):Calls Tryz.prog 79 #[(qS (some ⟨g,o,none⟩) n cp)] w (zap w (.int .i64 (zrm l))):=by
 have e1:Int.tmod (n:Int) 2=((n % 2:Nat):Int):=by rw[Int.tmod_eq_emod_of_nonneg (by omega)];simp
 have e2:(n:Int) % 2=((n % 2:Nat):Int):=by omega
 unfold zrm;rw[hn];by_cases hp:n % 2=0
 ·rw[if_pos hp];rw[hp] at e1 e2
  go_enter Tryz.func79,Tryz.ntmps79
  go_wp2_with fail;go_ret;exact⟨rfl,(by first|exact⟨_,rfl⟩|exact⟨0,rfl⟩|exact zam _ _ _|exact zan _ _ _ _)⟩
 ·rw[if_neg hp];have ls:n % 2=1:=by omega
  rw[ls] at e1 e2
  go_enter Tryz.func79,Tryz.ntmps79
  go_wp2_with fail;go_ret;exact⟨rfl,(by first|exact⟨_,rfl⟩|exact⟨0,rfl⟩|exact zam _ _ _|exact zan _ _ _ _)⟩
theorem zqE(g o n cp:Nat)(l:LI)(w:World)(hn:l.length=n):Calls Tryz.prog 91 #[(qS (some ⟨g,o,none⟩) n cp)] w (zap w (.int .i64 (zrm l))):=by
 have e1:Int.tmod (n:Int) 2=((n % 2:Nat):Int):=by rw[Int.tmod_eq_emod_of_nonneg (by omega)];simp
 have e2:(n:Int) % 2=((n % 2:Nat):Int):=by omega
 unfold zrm;rw[hn];by_cases hp:n % 2=0
 ·rw[if_pos hp];rw[hp] at e1 e2
  go_enter Tryz.func91,Tryz.ntmps91
  go_wp2_with fail;go_ret;exact⟨rfl,(by first|exact⟨_,rfl⟩|exact⟨0,rfl⟩|exact zam _ _ _|exact zan _ _ _ _)⟩
 ·rw[if_neg hp];have ls:n % 2=1:=by omega
  rw[ls] at e1 e2
  go_enter Tryz.func91,Tryz.ntmps91
  go_wp2_with fail;go_ret;exact⟨rfl,(by first|exact⟨_,rfl⟩|exact⟨0,rfl⟩|exact zam _ _ _|exact zan _ _ _ _)⟩
end
section
open Go.RowKit Game
open Go.Sort (SWO)
def zbc(a b:LI):Int:=zaM b a
theorem zhJ:SWO (ltOf zbc) where
 irrefl x:=by unfold ltOf zbc;rw[zlZ];rfl
 trans x y z h1 h2:=by unfold ltOf zbc at*;simp at*;exact zeK _ _ _ h2 h1
 ntrans x y z h1 h2:=by
  unfold ltOf zbc at*;simp at*
  rcases Int.lt_trichotomy (zaM z x) 0 with h|h|h
  ·have a1:=zcB x y;have a2:=zcB y z
   rcases Int.lt_trichotomy (zaM y x) 0 with g|g|g
   ·omega
   ·have:=zeh g;subst this;omega
   ·rcases Int.lt_trichotomy (zaM z y) 0 with k|k|k
    ·omega
    ·have:=zeh k;subst this;omega
    ·have:=zeK x y z (by omega) (by omega);have a3:=zcB x z;omega
  ·omega
  ·omega
theorem zfY(g1 o1 n1 c1 g2 o2 n2 c2:Nat)(xs ys:LI)(w:World)(dL:xs.length=n1)(da:ys.length=n2)(hy:ys.length<=1099511627776)
 (fh:zag w g1 o1 xs) (gS:zag w g2 o2 ys):
 Calls Tryz.prog 83 #[(qS (some ⟨g1,o1,none⟩) n1 c1),(qS (some ⟨g2,o2,none⟩) n2 c2)] w (zap w (.int .i64 (zbc xs ys))):=by
 subst dL;subst da
 go_enter Tryz.func83,Tryz.ntmps83
 go_wp2_with fail;refine(zif g2 o2 _ c2 g1 o1 _ c1 ys xs w rfl rfl hy gS fh).mono ?_;rintro e w1 ⟨rfl,bh⟩;go_wp2_with fail;go_ret;exact⟨rfl,bh⟩
end
section
open Go.RowKit Game
open Go.Sort (SWO)
theorem zfW{rs:List RowRef}{k:Nat}(hk:k<rs.length):(zaa rs).getD k []=rs[k].2.2:=by simp[zaa,List.getD,hk]
theorem zpo(gc oc n cc g o m cv:Nat)(c:LL)(v:LI)(M:LL)(b:Bool)(w:World)(hn:c.length=n)(hm:v.length=m)(hD:zbY c v)(hM:zxR c v M b)(ah:gc<w.heap.size)(hg:g<w.heap.size)(hr:zal w gc oc c)(hv:zag w g o v):
 Calls Tryz.prog 136 #[(qS (some ⟨gc,oc,none⟩) n cc),(qS (some ⟨g,o,none⟩) m cv)] w (zaj w M b):=by
 have aa:=zea gc oc n cc g o m cv c v w hn hm hD ah hg hr hv;subst hn;subst hm;have aR:=hD.hC.2.1;have bD:∀j,j<c.length->(c.getD j []).length=c.length:=fun j hj=>hD.hC.2.2.1 j hj
 have ab:=qd aa;clear aa
 go_enter Tryz.func136,Tryz.ntmps136
 go_wp2_with fail;refine ab.out.mono ?_;rintro e w2 ⟨g1,c1,g2,c2,rfl,ar,-,ae⟩;clear ab;go_wp2_with fail;have bm:=ar.base;have hT:=(zqi hD).1;have CW:(zbd c v).length=c.length:=hT.end_.1
 have bg:zab (w2.alloc (.cells #[(qS (some ⟨g1,0,none⟩) c.length c1)] 25)) w.heap.size w2.heap.size 1 [(g1,c1,zbd c v)]:=by
  have h2:=zaI.new (w:=w2) (B:=w.heap.size) (E:=25) (qS (some ⟨g1,0,none⟩) c.length c1) rfl ae.size;exact⟨by simpa [zah,CW] using h2,⟨fun r hr=>by rw[List.mem_singleton] at hr;subst hr;exact ar.alloc _,by simp⟩⟩
 have wR:=qd (QSt.start hT.end_ true (fun _=>fun i hi=>hT.dom i hi));clear hT CW;have ag:Below w.heap.size w (w2.alloc (.cells #[(qS (some ⟨g1,0,none⟩) c.length c1)] 25)):=ae.alloc ae.size _;go_loopw [9,10] (fun qv kv wr=>∃(k gQ cQ nQ:Nat) (rs:List RowRef),kv= .int .i64 k/\qv=(qS (some ⟨gQ,0,none⟩) nQ cQ)/\Hid (rs.length=nQ)/\k<=nQ/\nQ<=200/\Hid (QSt c v true (zaa rs) k 0)/\zab wr w.heap.size gQ cQ rs/\Below w.heap.size w wr) (fun _ kv _=>200-(intOf kv).toNat)
 case atStart=>
  exact⟨0,w2.heap.size,1,1,[(g1,c1,zbd c v)],rfl,rfl,rfl,by omega,by omega,wR.out,bg,ag⟩
 case round=>
  clear bg ag ar ae bm;obtain⟨k,gQ,cQ,nQ,rs,rfl,rfl,an,hk,jY,aL,hO,hb⟩:=hrel;obtain⟨wo,rfl⟩:∃wo:World,wo=wr:=⟨_,rfl⟩;by_cases ac:k<nQ
  ·go_wp2_with fail;go_loopw [9,11] (fun qv iv wi=>∃(i gQ cQ nQ:Nat) (rs:List RowRef),i<=c.length/\iv= .int .i64 i/\qv=(qS (some ⟨gQ,0,none⟩) nQ cQ)/\Hid (rs.length=nQ)/\k<nQ/\nQ<=200/\Hid (QSt c v true (zaa rs) k i)/\zab wi w.heap.size gQ cQ rs/\Below w.heap.size w wi) (fun _ iv _=>c.length-(intOf iv).toNat)
   case atStart=>exact⟨0,gQ,cQ,nQ,rs,qz _,rfl,rfl,an,ac,jY,aL,hO,hb⟩
   case round=>
    clear hO hb aL an ac jY hk;obtain⟨i,gQ,cQ,nQ,rs,hi,rfl,rfl,an,hk,jY,aL,hO,hb⟩:=hrel;by_cases bG:i<c.length
    ·have cH:k<rs.length:=by rw[an.out];exact hk
     have aC:=aL.out.row (by rw[zac];exact cH);have Ub:=zfW cH
     have hq:wr.cell? ⟨gQ,k,none⟩=some (zah rs[k]):=by
      rw[hO.1.cell k (by simpa using cH)];simp
     have iS:=hO.2.1 _ (List.getElem_mem cH);have fw:=aL.out.add hD (by rw[zac];exact cH) bG;have pQ:=aL.out.big' hD (by rw[zac];exact cH) bG;have et:=aL.out.skip (i:=i);rw[Ub] at aC fw pQ et;have Bp:=hO.rows2
     have fx:∀j,j<(zaa rs).length->((zaa rs).getD j []).length<=1048576:=fun j hj=>by
      have:=(aL.out.orb ((zaa rs).getD j []) (by simp[List.getD,hj])).1;omega
     clear Ub;generalize rs[k]=r at*;obtain⟨bi,ci,x⟩:=r;have eK:wr.cell? ⟨gQ,k,none⟩=some (qS (some ⟨bi,0,none⟩) x.length ci):=hq;have dF:x.length=c.length:=aC.1;have aU:Own wr w.heap.size bi ci x:=iS;have ji:=aU.lt;have eo:=qd dF;have MS:i<x.length:=by omega
     have Jo:x.length<=4:=by omega
     have aa:=zfC gc oc _ cc bi 0 _ ci i c x wr rfl rfl (by omega) aR bD MS (qL ah hb.size) ji (hr.below hb ah) aU.cells;have ab:=qd aa;have dS:=qd fw;have yU:=qd pQ;have fQ:=qd et;have ev:=qd aC;have CX:=qd fx;clear aa fw pQ et aC hq iS dF fx;go_wp2_with fail;refine ab.out.mono ?_;rintro e w3 ⟨g3,c3,rfl,al,ag⟩;have ap:=hb.trans (ag.mono hb.size);have bg:=hO.below ag;have iu:=aU.below ag ji;have ua:w3.cell? ⟨gQ,k,none⟩=some (qS (some ⟨bi,0,none⟩) x.length ci):=(ag.cell (p:=⟨gQ,k,none⟩) hO.lt).trans eK;have MU:=iu.cells i MS;rw[Nat.zero_add] at MU;have cn:=al.mono hb.size
     have dz:∀s∈rs,s.1≠g3:=fun s hs e=>by
      have h1:=(hO.2.1 s hs).lt;have h2:=al.base;omega
     rw[zcf];have yV:=zcf c i x;generalize hy:refl c i x=y at*;have Hy:=qd hy;clear hy;obtain⟨xi,yW⟩:∃xi,xi=x.getD i 0:=⟨_,rfl⟩;rw[<-yW] at MU;have QA:=qd yW;have Jq:=qd yV;have gg:=ziq gQ 0 nQ cQ g3 0 x.length c3 (zaa rs) y w3 (by rw[zac];exact an.out) yV (by rw[zac];have:=an.out;omega) CX.out bg.rows2 (by have:=al.cells;exact this);clear yW yV hO hb aU ag eK ab al Bp;by_cases aW:0<xi
     ·by_cases bR:y∈zaa rs
      ·rw[decide_eq_true bR] at gg;have jA:=qd gg;have fD:=fQ.out (fun _=>bR);have kU:=qd fD;clear gg fD bR;go_wp2_with fail;refine jA.out.mono ?_;rintro e w4 ⟨rfl,ko⟩;have aG:=zaf ap ko;have cV:=bg.still ko;clear ko ap bg jA;go_wp2_with fail;go_roundw
       case rel=>exact⟨i+1,gQ,cQ,nQ,rs,by omega,by go_num,rfl,an,hk,jY,kU.out,cV,aG⟩
       case measure=>simp[intOf];omega
      ·rw[decide_eq_false bR] at gg;have jA:=qd gg;have iq:=qd bR;clear gg bR;go_wp2_with fail;refine jA.out.mono ?_;rintro e w4 ⟨rfl,ko⟩;have aG:=zaf ap ko;have cV:=bg.still ko;have aw:=cn.still ko;clear ko ap bg jA cn;by_cases uZ:200<=nQ
       ·have aJ:=yU.out iq.out (by rw[zac,an.out];exact uZ)
        have ix:M=[]/\b=false:=by
         rcases hM with⟨h1,h2,-⟩|⟨-,h1,h2⟩
         ·exact absurd ⟨M,h1,h2⟩ aJ
         ·exact⟨h1,h2⟩
        obtain⟨rfl,rfl⟩:=ix;have rZ:(200:Int)<=(nQ:Int):=by omega
        go_wp2_with fail;go_ret2;exact zaj.mk' _ _ [] rfl rfl (zab.empty aG.size) (aG.alloc aG.size _)
       ·have rZ:(nQ:Int)<(200:Int):=by omega
        have sa:=dS.out iq.out;have yX:=qd sa;clear sa;go_wp2_with (at_builtin;refine zao rfl _ _ rfl w.heap.size gQ cQ nQ w4.heap.size rs (g3,c3,y) _ an.out (by unfold zah;rw[Jq.out]) rfl cV aw dz rfl rfl (by omega) ?_);intro g5 c5 w5 eW eF cY;have bj:Below w.heap.size w w5:=aG.grown eF aG.size (by intro j hj;cases hj;exact cV.base);clear cV aG eF cY aw;go_wp2_with fail;go_roundw
        case rel=>
         refine⟨i+1,g5,c5,nQ+1,rs++[(g3,c3,y)],by omega,by go_num,rfl,?_,by omega,by omega,?_,eW,bj⟩
         ·show _=_;rw[qA,an.out];rfl
         ·show QSt _ _ _ _ _ _;rw[zcZ];exact yX.out
        case measure=>simp[intOf];omega
     ·have fD:=fQ.out (fun h=>absurd (h trivial) (by show¬0<x.getD i 0;rw[<-QA.out];exact aW));have kU:=qd fD;clear fD gg;go_wp2_with fail;go_roundw
      case rel=>exact⟨i+1,gQ,cQ,nQ,rs,by omega,by go_num,rfl,an,hk,jY,kU.out,bg,ap⟩
      case measure=>simp[intOf];omega
    ·obtain rfl:i=c.length:=by omega
     have fk:=aL.out.next (by rw[zac,an.out];exact hk);have nt:=qd fk;clear fk;go_wp2_with fail;go_roundw
     case rel=>exact⟨k+1,gQ,cQ,nQ,rs,by go_num,rfl,an,by omega,jY,nt.out,hO,hb⟩
     case measure=>simp[intOf];omega
  ·obtain rfl:k=nQ:=by omega
   have aE:∀x,x∈zaa rs↔zbv c v x:=by
    refine QSt.all (down:=true) ?_ hD;rw[zac,an.out];exact aL.out
   have lA:=zzw aE
   have am:(zdp (zaa rs)).length<=200:=by
    have:=zhB lA.1.nodup aL.out.nodup (fun x hx=>(aE x).2 ((lA.2 x).1 hx));rw[zac,an.out] at this;omega
   have ix:M=zdp (zaa rs)/\b=true:=by
    rcases hM with⟨h1,h2,h3⟩|⟨h0,-,-⟩
    ·exact⟨h1.uniq lA,h3⟩
    ·exact absurd ⟨_,lA,am⟩ h0
   obtain⟨rfl,rfl⟩:=ix;have gY:=qd aE;clear aE lA hM am;have gJ:=hb.size;go_wp2_with fail;go_loopw [13,14] (fun ov kv wi=>∃(t gP cP nP:Nat) (rp:List RowRef),t<=k/\kv= .int .i64 t/\ov=(qS (some ⟨gP,0,none⟩) nP cP)/\Hid (rp.length=nP)/\nP<=t/\Hid (zaa rp=zdp ((zaa rs).take t))/\zab wi wo.heap.size gP cP rp/\Below wo.heap.size wo wi) (fun _ kv _=>k-(intOf kv).toNat)
   case atStart=>exact⟨0,wo.heap.size,0,0,[],qz _,rfl,rfl,rfl,by omega,rfl,zab.empty (qr _),(Below.refl _ _).alloc (qr _) _⟩
   case round=>
    obtain⟨t,gP,cP,nP,rp,ht,rfl,rfl,bP,yY,fj,hP,bX⟩:=hrel;by_cases bU:t<k
    ·have cH:t<rs.length:=by rw[an.out];exact bU
     have Ub:=zfW cH;have bQ:=zqj (L:=zaa rs) (k:=t) (by rw[zac];exact cH);rw[Ub] at bQ;have yZ:=hO.below bX
     have hq:wr.cell? ⟨gQ,t,none⟩=some (zah rs[t]):=by
      rw[yZ.1.cell t (by simpa using cH)];simp
     have iS:=yZ.2.1 _ (List.getElem_mem cH);have dF:rs[t].2.2.length=c.length:=((gY.out _).1 (List.mem_map.2 ⟨rs[t],List.getElem_mem cH,rfl⟩)).1
     have bI:∀r∈rp,r.2.2.length=rs[t].2.2.length:=by
      intro r df;have h1:r.2.2∈zaa rp:=List.mem_map.2 ⟨r,df,rfl⟩;rw[fj.out] at h1;have h2:=((zeq _ [] List.Pairwise.nil).2 _).1 h1
      have h3:r.2.2∈zaa rs:=by
       rcases h2 with h|h
       ·exact List.mem_of_mem_take h
       ·simp at h
      rw[((gY.out _).1 h3).1,dF]
     clear Ub;generalize rs[t]=r at*;obtain⟨bi,ci,x⟩:=r;have eK:wr.cell? ⟨gQ,t,none⟩=some (qS (some ⟨bi,0,none⟩) x.length ci):=hq;have aU:Own wr w.heap.size bi ci x:=iS;have fM:x.length=c.length:=dF;have za:zdp ((zaa rs).take (t+1))=zcD (zdp ((zaa rs).take t)) x:=bQ;have aa:=zhe wo.heap.size gP cP nP bi 0 x.length ci rp x wr bP.out rfl (by have:=bP.out;omega) (by omega) bI hP aU.lt aU.cells;rw[fj.out,<-za] at aa;have ab:=qd aa
     have iX:(zdp ((zaa rs).take (t+1))).length<=nP+1:=by
      rw[za];have:=zkn (zdp ((zaa rs).take t)) x;rw[<-fj.out,zac,bP.out] at this;rw[<-fj.out];omega
     have wS:=qd iX;clear aa hq iS dF fM bQ za iX bI yZ aU hP;go_wp2_with fail;refine ab.out.mono ?_;rintro e w3 ⟨g3,c3,rp3,rfl,eE,zb,-,ag⟩;obtain⟨n3,lU⟩:∃n3,(zdp ((zaa rs).take (t+1))).length=n3:=⟨_,rfl⟩;have ol:rp3.length=n3:=by rw[<-lU,<-eE,zac]
     rw[lU] at wS ⊢;have Jr:=wS.out;have zd:=qd eE;have Bq:=qd ol;clear lU eE ol ab;go_wp2_with fail;go_roundw
     case rel=>exact⟨t+1,g3,c3,n3,rp3,by omega,by go_num,rfl,Bq.out,by omega,zd.out,zb,bX.trans (ag.mono bX.size)⟩
     case measure=>simp[intOf];omega
    ·obtain rfl:t=k:=by omega
     have he:(zaa rs).take t=zaa rs:=qF (by rw[zac,an.out];exact qr _);rw[he] at fj;have Js:=qd fj.out;clear fj he;go_wp2_with fail;go_ret2;exact zaj.mk' gP cP rp bP.out Js.out (hP.mono gJ) (hb.trans (bX.mono gJ))
theorem zpp:zyn 83 zbc:=fun g1 o1 c1 g2 o2 c2 xs ys w _ hy h1 h2=>
 (zfY g1 o1 _ c1 g2 o2 _ c2 xs ys w rfl rfl (by omega) h1 h2).mono fun _ _ h=>zyo h
theorem zhK{L:LL}{n:Nat}(h:L.Pairwise fun a b=>¬zbc b a<0)(hn:L.Nodup)(hl:∀x∈L,x.length=n):Desc L:=by
 refine List.Pairwise.imp_of_mem (fun {a b} ha hb eC=>?_) (h.and hn);have e:=zts (a:=b) (b:=a) (by rw[hl a ha,hl b hb]);have h1:¬zaM a b<0:=eC.1;have h2:=zcB a b;rw[e]
 rcases Int.lt_trichotomy (zaM b a) 0 with g|g|g
 ·exact g
 ·exact absurd (zeh g).symm eC.2
 ·omega
theorem zbV.neV{w:World}{b n m g cap B:Nat}{E:TypeId}{ks:LL}{vs:List Value}(h:zbV w b n m ks)(ho:zaI w B E g cap vs):b≠g:=by
 rintro rfl;obtain⟨D,⟨es,clock,hh,-⟩,-⟩:=h;obtain⟨cur,h2,-⟩:=ho.row;rw[hh] at h2;simp at h2
theorem zik{v:LI}(h:∀j,j<v.length→-1000<=v.getD j 0/\v.getD j 0<=1000):WfV v:=by
 intro j _
 have e:v.getD j 0=wrap64 (v.getD j 0):=by
  have h2:-1000<=v.getD j 0/\v.getD j 0<=1000:=by
   by_cases hj:j<v.length
   ·exact h j hj
   ·have:v.getD j 0=0:=by simp[List.getD,hj]
    omega
  exact(IntWalk.wrap64_in _ ⟨by omega,by omega⟩).symm
 rw[e];exact wrap64_wf _
theorem zil{w:World}{b n m:Nat}{ks:LL}{ops:Array Oper}{rest:List Oper}{o:Oper}{a:Act}{Q:Exit->Act->World->Prop}
 (hg:o.guard=none) (x y z:Operand) (cS:o.op=Op.insert 121 x y z) (v:LI) (hv:v.length=m) (h4:m<=4) (hw:WfV v)
 (ai:zbV w b n m ks) (hn:n<1048576) (hx:a.eval x= .map (some b)) (hy:a.eval y=zbo v) (hz:a.eval z= .bool true)
 (hK:∀w',zbV w' b (n+1) m (ks++[v])->w.grownBy w' (some b)->wpList Tryz.prog ops Q rest (a.put o.dst undef) w'):
 wpList Tryz.prog ops Q (o::rest) a w:=by
 refine wpList_plain hg fun K' Ch=>?_
 obtain⟨D,hD,dh,lP⟩:=ai;obtain⟨w',cz,dr,bn⟩:=hD.update zdW Tryz.underlying121 (by unfold maxLen;omega) (zdh hw) (plainElem_bool (H:=Unit) Tryz.underlying4 true);unfold Oper.wp;simp[execOp,cS,hx,hy,hz,cz,Result.andThen];refine Ch _ _ (hK w' ⟨_,dr,?_,fun u hu oY=>?_⟩ bn)
 ·obtain⟨es,rfl⟩:=dh;exact⟨_,rfl⟩
 ·by_cases e:u=v
  ·subst e;rw[Maps.atKey_put_same dh (zdW.key (zdh hw))];simp
  ·have ao:zgf u≠zgf v:=fun h=>e (zlv oY hw (by omega) (by omega) h)
   rw[Maps.atKey_put_other ao,lP u hu oY];simp[e]
theorem zrn(gc oc n cc g o m cv:Nat)(c:LL)(v:LI)(M:LL)(b:Bool)(w:World)(hn:c.length=n)(hm:v.length=m)(hD:zbY c v)(hM:zxR c v M b)(ah:gc<w.heap.size)(hg:g<w.heap.size)(hr:zal w gc oc c)(hv:zag w g o v):
 Calls Tryz.prog 159 #[(qS (some ⟨gc,oc,none⟩) n cc),(qS (some ⟨g,o,none⟩) m cv)] w (zaj w M b):=by
 subst hn;subst hm;have aR:=hD.hC.2.1;have uC:v.length<=4:=by have:=hD.len;omega
 have bD:∀j,j<c.length->(c.getD j []).length=c.length:=fun j hj=>hD.hC.2.2.1 j hj
 have dY:=qd bD;have ze:WfV v:=zik hD.small;have nu:=@run_makeMap Tryz.prog;clear bD
 go_enter Tryz.func159,Tryz.ntmps159
 go_wp2_with (at_builtin;refine zaV rfl _ _ rfl g o _ cv v rfl hg hv rfl rfl (by omega) ?_);intro g1 c1 w1 au ad
 have gH:zab ((w1.alloc (.cells #[(qS (some ⟨g1,0,none⟩) v.length c1)] 25)).alloc (.map #[] 0)) w.heap.size w1.heap.size 1 [(g1,c1,v)]:=by
  have h2:=zaI.new (w:=w1) (B:=w.heap.size) (E:=25) (qS (some ⟨g1,0,none⟩) v.length c1) rfl ad.size
  have h3:zab (w1.alloc (.cells #[(qS (some ⟨g1,0,none⟩) v.length c1)] 25)) w.heap.size w1.heap.size 1 [(g1,c1,v)]:=
   ⟨by simpa [zah] using h2,⟨fun r hr=>by rw[List.mem_singleton] at hr;subst hr;exact au.alloc _,by simp⟩⟩
  exact h3.below ((Below.refl _ _).alloc (qr _) _)
 have az:Below w.heap.size w ((w1.alloc (.cells #[(qS (some ⟨g1,0,none⟩) v.length c1)] 25)).alloc (.map #[] 0)):=(ad.alloc ad.size _).alloc (by simp;have:=ad.size;omega) _
 have zf:zbV ((w1.alloc (.cells #[(qS (some ⟨g1,0,none⟩) v.length c1)] 25)).alloc (.map #[] 0)) (w1.heap.size+1) 0 c.length []:=by
  have:=zbV.start (w1.alloc (.cells #[(qS (some ⟨g1,0,none⟩) v.length c1)] 25)) c.length;simpa using this
 go_wp2_with fail;refine(zbQ g o v.length cv v _ rfl uC (qL hg az.size) (hv.below az hg)).mono ?_;rintro e w3 ⟨rfl,ag⟩;have bg:=gH.below ag;have ap:=az.trans (ag.mono az.size);have lB:=zf.below ag zf.lt;have ub:w.heap.size<=w1.heap.size+1:=by have:=ad.size;omega
 clear gH az zf ag au ad nu;generalize w1.heap.size+1=bM at*;generalize w1.heap.size=gO0 at*;have dq:=hD.len;have jg:=qd dq;clear dq;go_wp2_with (refine zil (o:=⟨none,_,_,_,_,_⟩) rfl _ _ _ rfl v jg.out aR ze lB (by omega) rfl rfl rfl ?_);intro w4 uc aT;have cV:zab w4 w.heap.size gO0 1 [(g1,c1,v)]:=⟨bg.1.grown aT (by intro e;exact lB.neV bg.1 (Option.some.inj e).symm),fun r hr=>(bg.2.1 r hr).grown aT (by intro e;exact lB.neOwn (bg.2.1 r hr) (Option.some.inj e).symm),bg.2.2⟩;have aG:=ap.grown aT ap.size (by intro j hj;cases hj;exact ub);clear bg lB ap aT;go_wp2_with fail;go_loopw [6,8] (fun ov kv wr=>∃(k gO cO nO:Nat) (rs:List RowRef),kv= .int .i64 k/\ov=(qS (some ⟨gO,0,none⟩) nO cO)/\Hid (rs.length=nO)/\k<=nO/\nO<=200/\Hid (QSt c v false (zaa rs) k 0)/\zab wr w.heap.size gO cO rs/\(∃nM,nM<=nO/\zbV wr bM nM c.length (zaa rs))/\Below w.heap.size w wr) (fun _ kv _=>200-(intOf kv).toNat)
 case atStart=>
  exact⟨0,gO0,1,1,[(g1,c1,v)],rfl,rfl,rfl,by omega,by omega,QSt.start (zbv.self hD.len) false (by simp),cV,⟨1,by omega,uc⟩,aG⟩
 case round=>
  clear cV uc aG;obtain⟨k,gO,cO,nO,rs,rfl,rfl,an,hk,zh,aL,hO,⟨nM,hnM,hS⟩,hb⟩:=hrel;obtain⟨wo,rfl⟩:∃wo:World,wo=wr:=⟨_,rfl⟩;by_cases ac:k<nO
  ·go_wp2_with fail;go_loopw [6,28] (fun ov iv wj=>∃(i gO cO nO:Nat) (rs:List RowRef),i<=c.length/\iv= .int .i64 i/\ov=(qS (some ⟨gO,0,none⟩) nO cO)/\Hid (rs.length=nO)/\k<nO/\nO<=200+i/\Hid (QSt c v false (zaa rs) k i)/\zab wj w.heap.size gO cO rs/\(∃nM,nM<=nO/\zbV wj bM nM c.length (zaa rs))/\Below w.heap.size w wj) (fun _ iv _=>c.length-(intOf iv).toNat)
   case atStart=>exact⟨0,gO,cO,nO,rs,qz _,rfl,rfl,an,ac,by omega,aL,hO,⟨nM,hnM,hS⟩,hb⟩
   case round=>
    clear hO hb aL an ac zh hk hS hnM;obtain⟨i,gO,cO,nO,rs,hi,rfl,rfl,an,hk,zh,aL,hO,⟨nM,hnM,hS⟩,hb⟩:=hrel;by_cases bG:i<c.length
    ·have cH:k<rs.length:=by rw[an.out];exact hk
     have aC:=aL.out.row (by rw[zac];exact cH);have Ub:=zfW cH
     have hq:wr.cell? ⟨gO,k,none⟩=some (zah rs[k]):=by
      rw[hO.1.cell k (by simpa using cH)];simp
     have iS:=hO.2.1 _ (List.getElem_mem cH);have fw:=aL.out.add hD (by rw[zac];exact cH) bG;have et:=aL.out.skip (i:=i);rw[Ub] at aC fw et;clear Ub;generalize rs[k]=r at*;obtain⟨bi,ci,x⟩:=r;have eK:wr.cell? ⟨gO,k,none⟩=some (qS (some ⟨bi,0,none⟩) x.length ci):=hq;have dF:x.length=c.length:=aC.1;have aU:Own wr w.heap.size bi ci x:=iS;have ji:=aU.lt;have eo:=qd dF;have Jo:x.length<=4:=by omega
     have dS:=qd fw;have fQ:=qd et;have ev:=qd aC;have vg:=hO.lt;clear fw et aC hq iS dF;have Br:∀o1,(wr.alloc o1).cell? ⟨gO,k,none⟩=some (qS (some ⟨bi,0,none⟩) x.length ci):=fun o1=>(((Below.refl wr.heap.size wr).alloc (qr _) o1).cell (p:=⟨gO,k,none⟩) vg).trans eK
     have lC:∀o1,zag (wr.alloc o1) bi 0 x:=fun o1=>aU.cells.below ((Below.refl _ _).alloc (qr _) _) ji
     go_wp2_with (at_builtin;refine zaV rfl _ _ rfl bi 0 _ ci x rfl ji aU.cells rfl rfl (by omega) ?_);intro g3 c3 w3 al ag;have ap:=hb.trans (ag.mono hb.size);have bg:=hO.below ag;have lB:=hS.below ag hS.lt;have aK:wr.heap.size<=g3:=al.base;have zi:w.heap.size<=g3:=qt hb.size aK;have sb:∀r∈rs,r.1<g3:=fun r df=>qL (hO.2.1 r df).lt aK
     have Cy:=hS.lt;have aa:=zej w gc oc c.length cc g3 c3 i x.length c x w3 rfl rfl eo.out aR dY.out bG ah hr ap (al.mono hb.size);have ab:=qd aa;clear aa hO hS hb ag al eK aU Br lC;go_wp2_with fail;refine ab.out.mono ?_;rintro e w5 ⟨rfl,aD,eF⟩;have eW:zab w5 w.heap.size gO cO rs:=⟨bg.1.grown eF (by intro e;have:=Option.some.inj e;omega),fun r df=>(bg.2.1 r df).grown eF (by intro e;have h1:=Option.some.inj e;have h2:=sb r df;omega),bg.2.2⟩;have zj:=lB.grown eF (by intro e;have:=Option.some.inj e;omega);have bj:Below w.heap.size w w5:=ap.grown eF ap.size (by intro j hj;cases hj;exact zi);clear bg lB ap eF ab;have gZ:(refl c i x).length=x.length:=zcf c i x;have MV:=ztS c i x;generalize refl c i x=y at*;have kV:=qd gZ;have Jt:=qd MV;clear gZ MV;obtain⟨y0,j0⟩:∃z,z=y.getD 0 0:=⟨_,rfl⟩;obtain⟨y1,j1⟩:∃z,z=y.getD 1 0:=⟨_,rfl⟩;obtain⟨y2,j2⟩:∃z,z=y.getD 2 0:=⟨_,rfl⟩;obtain⟨y3,j3⟩:∃z,z=y.getD 3 0:=⟨_,rfl⟩;have jZ:zbo y= .agg #[.int .i64 y0,.int .i64 y1,.int .i64 y2,.int .i64 y3]:=by unfold zbo;rw[j0,j1,j2,j3]
     have aa:=zbQ g3 0 x.length c3 y w5 kV.out (by rw[kV.out];exact Jo) aD.lt aD.cells;rw[jZ] at aa;have ab:=qd aa;have mL:=qd jZ;clear j0 j1 j2 j3 aa jZ;go_wp2_with fail;refine ab.out.mono ?_;rintro e w6 ⟨rfl,bJ⟩;have wT:=eW.below bJ;have CY:=zj.below bJ zj.lt;have de:=bj.trans (bJ.mono bj.size);have aO:=aD.below bJ aD.lt;clear eW zj bj bJ aD ab;have pc:zbV (w6.alloc (.cells #[.int .i64 y0,.int .i64 y1,.int .i64 y2,.int .i64 y3] 105)) bM nM c.length (zaa rs):=CY.grown (World.grownBy_alloc _ _ none) (by simp);have nw:zab (w6.alloc (.cells #[.int .i64 y0,.int .i64 y1,.int .i64 y2,.int .i64 y3] 105)) w.heap.size gO cO rs:=wT.below ((Below.refl _ _).alloc (qr _) _);have bY:Own (w6.alloc (.cells #[.int .i64 y0,.int .i64 y1,.int .i64 y2,.int .i64 y3] 105)) w.heap.size g3 c3 y:=aO.alloc _;have iy:Below w.heap.size w (w6.alloc (.cells #[.int .i64 y0,.int .i64 y1,.int .i64 y2,.int .i64 y3] 105)):=de.alloc de.size _;have zk:Hid ((w6.alloc (.cells #[.int .i64 y0,.int .i64 y1,.int .i64 y2,.int .i64 y3] 105)).heap[w6.heap.size]? =some (.cells #[.int .i64 y0,.int .i64 y1,.int .i64 y2,.int .i64 y3] 105 (0,0))):=heap_alloc_new _ _;have CZ:y.length=c.length:=by rw[kV.out,eo.out]
     have zl:=qd CZ;clear CZ CY wT aO de;by_cases be:y∈zaa rs
     ·have fD:=fQ.out (fun _=>be);have sc:decide (y∈zaa rs)=true:=decide_eq_true be;have kU:=qd fD;have zm:=qd sc;clear fD sc be zk;go_wp2_with (at_lookup;refine zet rfl _ _ rfl bM nM c.length (zaa rs) y zl.out Jt.out pc rfl (by rw[mL.out];rfl) true zm.out ?_);go_roundw
      case rel=>exact⟨i+1,gO,cO,nO,rs,by omega,by go_num,rfl,an,hk,by omega,kU.out,nw,⟨nM,hnM,pc⟩,iy⟩
      case measure=>simp[intOf];omega
     ·have sa:=dS.out be;have sc:decide (y∈zaa rs)=false:=decide_eq_false be;have yX:=qd sa;have zm:=qd sc;clear sa sc be
      go_wp2_with (first
       |(at_lookup;refine zet rfl _ _ rfl bM nM c.length (zaa rs) y zl.out Jt.out pc rfl (by rw[mL.out];rfl) false zm.out ?_)
       |(at_mapUpdate;refine zjR rfl _ _ _ rfl bM nM c.length (zaa rs) y zl.out aR Jt.out pc (by omega) rfl (by rw[mL.out];rfl) rfl ?_))
      intro w8 pd ny;have nA:zab w8 w.heap.size gO cO rs:=⟨nw.1.grown ny (by intro e;exact pc.neV nw.1 (Option.some.inj e).symm),fun r df=>(nw.2.1 r df).grown ny (by intro e;exact pc.neOwn (nw.2.1 r df) (Option.some.inj e).symm),nw.2.2⟩;have cI:Own w8 w.heap.size g3 c3 y:=bY.grown ny (by intro e;exact pc.neOwn bY (Option.some.inj e).symm);have kd:Below w.heap.size w w8:=iy.grown ny iy.size (by intro j hj;cases hj;exact ub);have Ju:∀s∈rs,s.1≠g3:=fun s hs e=>by have:=sb s hs;omega
      clear pc nw bY iy ny zk;go_wp2_with (at_builtin;refine zao rfl _ _ rfl w.heap.size gO cO nO w8.heap.size rs (g3,c3,y) _ an.out (by unfold zah;rw[kV.out]) rfl nA cI Ju rfl rfl (by omega) ?_);intro g9 c9 w9 dG js kw;have Da:=pd.grown js (by intro e;exact pd.neV nA.1 (Option.some.inj e));have bk:Below w.heap.size w w9:=kd.grown js kd.size (by intro j hj;cases hj;exact nA.base);clear nA pd kd cI js kw;go_wp2_with fail;go_roundw
      case rel=>
       refine⟨i+1,g9,c9,nO+1,rs++[(g3,c3,y)],by omega,by go_num,rfl,?_,by omega,by omega,?_,dG,⟨nM+1,by omega,by rw[zcZ];exact Da⟩,bk⟩
       ·show _=_;rw[qA,an.out];rfl
       ·show QSt _ _ _ _ _ _;rw[zcZ];exact yX.out
      case measure=>simp[intOf];omega
    ·obtain rfl:i=c.length:=by omega
     have fk:=aL.out.next (by rw[zac,an.out];exact hk);by_cases kC:200<nO
     ·have aJ:=fk.big (by rw[zac,an.out];exact kC)
      have ix:M=[]/\b=false:=by
       rcases hM with⟨h1,h2,-⟩|⟨-,h1,h2⟩
       ·exact absurd ⟨M,h1,h2⟩ aJ
       ·exact⟨h1,h2⟩
      obtain⟨rfl,rfl⟩:=ix;have zn:(200:Int)<(nO:Int):=by omega
      clear fk aJ;go_wp2_with fail;go_ret2;exact zaj.mk' _ _ [] rfl rfl (zab.empty hb.size) (hb.alloc hb.size _)
     ·have zn:¬(200:Int)<(nO:Int):=by omega
      have nt:=qd fk;clear fk;go_wp2_with fail;go_roundw
      case rel=>exact⟨k+1,gO,cO,nO,rs,by go_num,rfl,an,by omega,by omega,nt.out,hO,⟨nM,hnM,hS⟩,hb⟩
      case measure=>simp[intOf];omega
  ·obtain rfl:k=nO:=by omega
   have aE:∀x,x∈zaa rs↔zbv c v x:=by
    refine QSt.all (down:=false) ?_ hD;rw[zac,an.out];exact aL.out
   have ez:=aL.out.nodup
   have fx:∀r∈rs,r.2.2.length<=1048576:=by
    intro r df;have:=((aE r.2.2).1 (List.mem_map.2 ⟨r,df,rfl⟩)).1;omega
   have aa:=znr 83 zbc zpp zhJ (enters_of Tryz.func83 (by kernel_rfl) rfl) w.heap.size gO cO k rs wo an.out (by rw[an.out];omega) fx hO;have ab:=qd aa;have gY:=qd aE;have ud:=qd ez;clear aa aE ez fx;go_wp2_with fail;refine ab.out.mono ?_;rintro e w4 ⟨rfl,rs4,cZ,fy,cV,aT⟩;have aG:Below w.heap.size w w4:=hb.grown aT hb.size (by intro j hj;cases hj;exact hO.base);have dV:rs4.length=k:=by rw[cZ.length_eq];exact an.out
   have qZ:(zaa rs4).Perm (zaa rs):=cZ.map _
   have lA:zfv c v (zaa rs4):=by
    have hm:∀x,x∈zaa rs4↔zbv c v x:=fun x=>qZ.mem_iff.trans (gY.out x)
    exact⟨zhK (n:=c.length) (fy.imp (by intro a b h;omega)) (qZ.nodup_iff.2 ud.out) (fun x hx=>((hm x).1 hx).1),hm⟩
   have ix:M=zaa rs4/\b=true:=by
    rcases hM with⟨h1,h2,h3⟩|⟨h0,-,-⟩
    ·exact⟨h1.uniq lA,h3⟩
    ·exact absurd ⟨_,lA,by rw[zac,dV];omega⟩ h0
   obtain⟨rfl,rfl⟩:=ix;have yK:=qd dV;clear dV qZ lA hM fy cZ hO hb hS ab aT;go_wp2_with fail;go_ret2;exact zaj.mk' gO cO rs4 yK.out rfl cV aG
theorem zpq(gc oc n cc g o m cv:Nat)(c:LL)(v:LI)(M:LL)(b:Bool)(w:World)(hn:c.length=n)(hm:v.length=m)(hD:zbY c v)(hM:zxR c v M b)(ah:gc<w.heap.size)(hg:g<w.heap.size)(hr:zal w gc oc c)(hv:zag w g o v):
 Calls Tryz.prog 118 #[(qS (some ⟨gc,oc,none⟩) n cc),(qS (some ⟨g,o,none⟩) m cv)] w (zaj w M b):=by
 have aa:=zhu gc oc n cc g o m cv c v w hn hm hD ah hg hr hv;subst hn;subst hm;have ab:=qd aa;clear aa
 go_enter Tryz.func118,Tryz.ntmps118
 go_wp2_with fail;refine ab.out.mono ?_;rintro e w2 ⟨g1,c1,g2,c2,rfl,-,-,ae⟩;clear ab;have aa:=zrn gc oc _ cc g o _ cv c v M b w2 rfl rfl hD hM (qL ah ae.size) (qL hg ae.size) (hr.below ae ah) (hv.below ae hg);have ab:=qd aa;clear aa;go_wp2_with fail;refine ab.out.mono ?_;rintro e w3 ⟨g3,c3,rs,rfl,Db,bg,ag⟩;clear ab;go_wp2_with fail;go_ret2;exact⟨g3,c3,rs,rfl,Db,bg.mono ae.size,ae.trans (ag.mono ae.size)⟩
end
end Go.Proofs.YtlgcmaoimpgedaaGreatDoor

/- SumZ TnI P29 P29Z -/
import Derived.Test.YtlgcmaoimpgedaaGreatDoorT47
set_option maxHeartbeats 4000000
set_option maxRecDepth 100000
set_option linter.unusedSimpArgs false
namespace Go.Proofs.YtlgcmaoimpgedaaGreatDoor
open Go.Value renaming slice->qS
section
open Go.RowKit Game Stb
theorem zBv{A:List Wt}{u x:Wt}(e:u.1=x.1):zdC (A++[u]) x=A++[(u.1,wrap64 (u.2+x.2))]:=by
 unfold zdC;simp[e]
theorem zGv{A:List Wt}{u x:Wt}(e:u.1≠x.1):zdC (A++[u]) x=A++[u]++[x]:=by
 unfold zdC;simp[e]
structure zfR(s:List Wt)(k:Nat)(rs:List WRef):Prop where
 cont:zaz rs=(s.take k).foldl zdC []
 few:∀r∈rs,r.1.2.2.length<=1048576
 len:rs.length<=k
theorem zjA(s:List Wt)(k:Nat)(x:Wt)(h:s[k]? =some x):(s.take (k+1)).foldl zdC []=zdC ((s.take k).foldl zdC []) x:=by
 rw[List.take_add_one,h,List.foldl_append];rfl
theorem zfR.same{s:List Wt}{k:Nat}{A:List WRef}{u:WRef}{x:Wt}(h:zfR s k (A++[u]))(hx:s[k]? =some x)(e:u.1.2.2=x.1):zfR s (k+1) (A++[(u.1,wrap64 (u.2+x.2))]):=by
 have hc:zaz (A++[u])=zaz A++[(u.1.2.2,u.2)]:=by simp[zaz]
 have aH:zaz (A++[(u.1,wrap64 (u.2+x.2))])=zdC (zaz (A++[u])) x:=by rw[hc,zBv e];simp[zaz]
 refine⟨by rw[zjA s k x hx,<-h.cont,aH],fun r hr=>?_,by have:=h.len;simp at this ⊢;omega⟩
 rcases List.mem_append.1 hr with hr|hr
 ·exact h.few r (by simp[hr])
 ·simp at hr;subst hr;exact h.few u (by simp)
theorem zfR.push{s:List Wt}{k:Nat}{rs:List WRef}{x:Wt}(g c:Nat)(h:zfR s k rs)(hx:s[k]? =some x)(hl:x.1.length<=1048576)
 (ao:rs=[]∨∃A u,rs=A++[u]/\u.1.2.2≠x.1):zfR s (k+1) (rs++[((g,c,x.1),x.2)]):=by
 have aH:zaz (rs++[((g,c,x.1),x.2)])=zdC (zaz rs) x:=by
  rcases ao with rfl|⟨A,u,rfl,e⟩
  ·rfl
  ·have hc:zaz (A++[u])=zaz A++[(u.1.2.2,u.2)]:=by simp[zaz]
   rw[hc,zGv e];simp[zaz]
 refine⟨by rw[zjA s k x hx,<-h.cont,aH],fun r hr=>?_,by have:=h.len;simp;omega⟩
 rcases List.mem_append.1 hr with hr|hr
 ·exact h.few r hr
 ·simp at hr;subst hr;exact hl
def zoj(w:World)(l:List Wt)(e:Ending)(w':World):Prop:=
 ∃(g cap:Nat) (rs:List WRef),e= .returned (qS (some ⟨g,0,none⟩) rs.length cap)/\zaz rs=zcR l/\zas w' w.heap.size g cap rs/\Below w.heap.size w w'
theorem zoj.mk'{w w':World}{l:List Wt}{n:Nat}(g cap:Nat)(rs:List WRef)(hn:rs.length=n)(hc:zaz rs=zcR l)(ho:zas w' w.heap.size g cap rs)(hb:Below w.heap.size w w'):zoj w l (.returned (qS (some ⟨g,0,none⟩) n cap)) w':=by
 subst hn;exact⟨g,cap,rs,rfl,hc,ho,hb⟩
theorem zml(g o N c:Nat)(l:List Wt)(w:World)(hN:l.length=N)(hf:zgb l)(qR:l.length<=1000000)(BC:InZ l)(hg:g<w.heap.size)(hl:zgo w g o l):
 Calls Tryz.prog 42 #[(qS (some ⟨g,o,none⟩) N c)] w (zoj w l):=by
 subst hN;obtain⟨d,hd,hr⟩:=zyS hl hf;have Gp:=hf.1;have dY:=qd (zBr g o l.length c d w Gp hg (fun k hk=>(hr k hk).1) (fun k hk=>(hr k hk).2));have Hd:=qd hd;have OL:=qd BC;clear hl hf hd hr BC hg
 go_enter Tryz.func42,Tryz.ntmps42
 go_wp2_with fail;refine dY.out.mono ?_;rintro e w1 ⟨G,cap,rfl,hG,ad,S1⟩;have OM:=qd (zsW w.heap.size G cap l.length d w1 Gp S1);clear dY S1;go_wp2_with fail;refine OM.out.mono ?_;rintro e w2 ⟨rfl,d2,S2,t2,r2⟩;have ae:Below w.heap.size w w2:=ad.grown S2.grown ad.size (by intro j hj;cases hj;exact hG)
 have hp:((lst l.length d2).map zaH.wt).Perm l:=by
  have:=(r2.perm).map zaH.wt;rw[Hd.out] at this;exact this
 have HP:=qd hp;have HT:=qd (zGt t2);have HS:=qd S2.here;have Cc:=qd ae;clear OM S2 t2 r2 hp ad Hd ae;go_wp2_with fail;go_loopw [4,6,7,15] (fun ov _ _ iv wr=>∃(k p gO cO:Nat) (rs:List WRef),k<=l.length/\iv= .int .i64 k/\ov=(qS (some ⟨gO,0,none⟩) p cO)/\Hid (rs.length=p)/\p<=k/\Hid (zfR ((lst l.length d2).map zaH.wt) k rs)/\zas wr w2.heap.size gO cO rs/\Below w2.heap.size w2 wr) (fun _ _ _ iv _=>l.length-(intOf iv).toNat)
 case atStart=>exact⟨0,0,w2.heap.size,0,[],qz _,rfl,rfl,rfl,qr _,qd ⟨rfl,by simp,by simp⟩,zas.empty (qr _),(Below.refl _ _).alloc (qr _) _⟩
 case round=>
  obtain⟨k,p,gO,cO,rs,hk,rfl,rfl,cK,rQ,aL,ho,hb⟩:=hrel;by_cases ac:k<l.length
  ·have S:=HS.out.step hb;obtain⟨q1,q2⟩:=S.cells ac;have Fb:=S.rd k ac;have fD:((lst l.length d2).map zaH.wt)[k]? =some (d2 k).wt:=by simp[lst,ac]
   have be:(d2 k).wt∈l:=HP.out.mem_iff.1 (List.mem_of_getElem? fD);have kU:=qd fD;clear S fD be;generalize qJ:d2 k=x at*;obtain⟨gx,ox,nx,cx,xs,xt⟩:=x;obtain⟨-,kE,fY,fh,uk,oe⟩:=Fb;have q1':wr.cell? ⟨G,k*2,none⟩=some (qS (some ⟨gx,ox,none⟩) nx cx):=q1;have q2':wr.cell? ⟨G,k*2+1,none⟩=some (.int .i64 xt):=q2;have vS:gx<wr.heap.size:=kE;have tA:xs.length=nx:=fY;have SF:nx<=1048576:=uk;have pq:zag wr gx ox xs:=oe;clear q1 q2 kE fY uk oe qJ fh;have Av:Hid (((lst l.length d2).map zaH.wt)[k]? =some (xs,xt)):=kU;clear kU;have K6:Hid (∀W,(∃n,W=(wr.alloc (.cells #[(qS (some ⟨gx,ox,none⟩) nx cx),.int .i64 xt] 36)).drewN n)->zti w2 wr.heap.size W gO cO rs gx ox nx cx xs xt):=qd (fun W ⟨n,hW⟩=>zti.mk' hb ho vS pq hW);obtain⟨bb,du⟩:∃bb,wr.heap.size=bb:=⟨_,rfl⟩;have lJ:zfR ((lst l.length d2).map zaH.wt) k rs:=aL.out;rw[du] at K6;by_cases pf:p=0
   ·subst pf;have jM:Hid (∀g3 c3:Nat,Hid (zfR ((lst l.length d2).map zaH.wt) (k+1) (rs++[((g3,c3,xs),xt)]))):=fun g3 c3=>lJ.push g3 c3 Av.out (by show xs.length<=_;omega) (.inl (List.length_eq_zero_iff.1 (by exact cK.out)))
    clear ho hb pq vS aL lJ;go_wp2_with fail;go_quiet (fail)
    go_wp2_with fail;generalize xE:(wr.alloc (.cells #[(qS (some ⟨gx,ox,none⟩) nx cx),.int .i64 xt] 36)).drewN nq=W6 at*;have KX:=qd (K6.out W6 ⟨nq,xE.symm⟩);clear xE K6;have b1:=KX.out.b1;have b2:=KX.out.b2;have B0:Below W6.heap.size W6 ((W6.alloc (.cells #[] 3)).drew):=Below.drew ((Below.refl _ _).alloc (qr _) _);have F1:=qd (fun w1 (h:((W6.alloc (.cells #[] 3)).drew).grownBy w1 (some W6.heap.size))=>show Below W6.heap.size W6 w1 from B0.grown h B0.size (by intro j hj;cases hj;exact qr _));have lC:=KX.out.cel.below B0 KX.out.glt;have lK:=KX.out.bl;have l0:([]++xs:LI).length=nx:=by rw[List.nil_append];exact tA
    have tB:some bb≠some gO:=fun e=>KX.out.nO (Option.some.inj e).symm
    have tC:=qd (fun(g3:Nat) (c3:Nat)=>jM.out g3 c3);clear jM
    go_region_held3 (fun W=>W.cell? ⟨bb,0,none⟩=some (qS (some ⟨gx,ox,none⟩) nx cx)/\W.cell? ⟨bb,1,none⟩=some (.int .i64 xt))
     (first|go_keep|exact⟨((F1.out _ bm).cell (p:=⟨bb,0,none⟩) lK).trans b1,((F1.out _ bm).cell (p:=⟨bb,1,none⟩) lK).trans b2⟩|exact⟨aK.cell (a:=⟨bb,0,none⟩) (((F1.out _ bm).cell (p:=⟨bb,0,none⟩) lK).trans b1) tB,aK.cell (a:=⟨bb,1,none⟩) (((F1.out _ bm).cell (p:=⟨bb,1,none⟩) lK).trans b2) tB⟩)
     (first
       |(refine zdU (by rfl) _ _ (by rfl) W6.heap.size W6.heap.size 0 0 gx ox nx cx [] xs rfl tA (by exact(Own.empty (w:=W6.drew) (qr _))) (by exact lC) (by rfl) (by rfl) (by omega) ?_;intro g1 c1 w1 au bm nN)
       |(refine zhI (w:=w1) (by rfl) _ _ (by rfl) w2.heap.size gO cO 0 w1.heap.size g1 c1 nx rs ([]++xs) xt _ cK.out l0 (by rfl) (by rfl) (by exact KX.out.own.below (F1.out w1 bm)) (by exact au.mono KX.out.le) (by exact fun s hs e=>by have h1:=(KX.out.own.ofMem hs).lt;have h2:=au.base;omega) (by rfl) (by rfl) (by omega) ?_;intro g3 c3 w3 al aK eu))
    have ap:=(KX.out.bel.trans ((F1.out w1 bm).mono KX.out.bel.size)).grown aK (KX.out.bel.trans ((F1.out w1 bm).mono KX.out.bel.size)).size (by intro j hj;cases hj;exact KX.out.own.base);rw[List.nil_append] at al;have LM:=tC.out g1 c1;clear bm nN au aK eu lC B0 F1 b1 b2;go_wp2_with fail;go_roundw
    case rel=>exact⟨k+1,1,g3,c3,_,by omega,by go_num,rfl,by show _=_;rw[qA,cK.out];rfl,by omega,LM,al,ap⟩
    case measure=>simp[intOf];omega
   ·obtain⟨A,u,rfl⟩:∃A u,rs=A++[u]:=by
     rcases List.eq_nil_or_concat rs with h|⟨A,u,h⟩
     ·have:=cK.out;rw[h] at this;exact absurd this.symm pf
     ·exact⟨A,u,by rw[h,List.concat_eq_append]⟩
    obtain⟨m,hm⟩:∃m,p=m+1:=⟨p-1,by omega⟩;subst hm;have LN:A.length=m:=by have:=cK.out;simp at this;exact this
    obtain⟨⟨gu,cu,us⟩,ut⟩:=u;have K0:=K6.out _ ⟨0,rfl⟩;have nj:=aL.out.few _ (by simp:((gu,cu,us),ut)∈A++[((gu,cu,us),ut)]);have qx:=K0.own.ofMem (by simp:((gu,cu,us),ut)∈A++[((gu,cu,us),ut)]);obtain⟨c1,c2⟩:=K0.own.cells (j:=m) (by simp;omega);have eA:(A++[((gu,cu,us),ut)])[m]'(by simp;omega)=((gu,cu,us),ut):=by simp[<-LN]
    rw[eA] at c1 c2
    have KU:Hid (∀W,(∃n,W=(wr.alloc (.cells #[(qS (some ⟨gx,ox,none⟩) nx cx),.int .i64 xt] 36)).drewN n)->Calls Tryz.prog 84 #[(qS (some ⟨gu,0,none⟩) us.length cu),(qS (some ⟨gx,ox,none⟩) nx cx)] W (zap W (.bool (decide (us=xs))))):=
     qd (fun W hW=>ziR gu 0 _ cu gx ox nx cx us xs W rfl tA (by have:=nj;show us.length<=_;exact qt this (by decide)) (by omega) (by have:=qx.cells;exact this.still (by obtain⟨n,rfl⟩:=hW;exact⟨n,rfl⟩)) (K6.out W hW).cel)
    have c1:(wr.alloc (.cells #[(qS (some ⟨gx,ox,none⟩) nx cx),.int .i64 xt] 36)).cell? ⟨gO,m*2,none⟩=some (qS (some ⟨gu,0,none⟩) us.length cu):=c1;have c2:(wr.alloc (.cells #[(qS (some ⟨gx,ox,none⟩) nx cx),.int .i64 xt] 36)).cell? ⟨gO,m*2+1,none⟩=some (.int .i64 ut):=c2;by_cases hE:us=xs
    ·rw[decide_eq_true hE] at KU;have jM:Hid (zfR ((lst l.length d2).map zaH.wt) (k+1) (A++[((gu,cu,us),wrap64 (ut+xt))])):=lJ.same Av.out hE;clear ho hb pq vS aL lJ hE K0 qx nj eA;go_wp2_with fail;go_quiet ((go_at_call 84;first|with_reducible exact Calls.quiet_of (KU.out _ ⟨_,rfl⟩)|with_reducible exact zap.quiet4 (KU.out _ ⟨_,rfl⟩)))
     go_wp2_with fail;have c2':((wr.alloc (.cells #[(qS (some ⟨gx,ox,none⟩) nx cx),.int .i64 xt] 36)).drewN nq).cell? ⟨gO,m*2+1,none⟩=some (.int .i64 ut):=c2;generalize xE:(wr.alloc (.cells #[(qS (some ⟨gx,ox,none⟩) nx cx),.int .i64 xt] 36)).drewN nq=W6 at*;have KX:=qd (K6.out W6 ⟨nq,xE.symm⟩);clear xE K6 KU c1 c2;have b2:=KX.out.b2;have fz:=KX.out.own.frozen (m*2+1);have ew:IntKind.i64.wrap (ut+xt)=wrap64 (ut+xt):=by simp only[wrap64,IntKind.wrap_i64]
     generalize wrap64 (ut+xt)=zt at*;go_wp2_with fail
     go_region
     have jX:=KX.out.own.setLast LN zt;have al:=jX.1;have aK:=jX.2;have ap:=KX.out.bel.grown aK KX.out.bel.size (by intro j hj;cases hj;exact KX.out.own.base);clear jX aK b2 fz c2';go_wp2_with fail;go_roundw
     case rel=>exact⟨k+1,m+1,gO,cO,_,by omega,by go_num,rfl,by show _=_;rw[qA,LN];rfl,by omega,jM,al,Below.drew ap⟩
     case measure=>simp[intOf];omega
    ·rw[decide_eq_false hE] at KU;have jM:Hid (∀g3 c3:Nat,Hid (zfR ((lst l.length d2).map zaH.wt) (k+1) (A++[((gu,cu,us),ut)]++[((g3,c3,xs),xt)]))):=fun g3 c3=>lJ.push g3 c3 Av.out (by show xs.length<=_;omega) (.inr ⟨A,_,rfl,hE⟩)
     clear ho hb pq vS aL lJ hE K0 qx nj eA;go_wp2_with fail;go_quiet ((go_at_call 84;first|with_reducible exact Calls.quiet_of (KU.out _ ⟨_,rfl⟩)|with_reducible exact zap.quiet4 (KU.out _ ⟨_,rfl⟩)))
     go_wp2_with fail;generalize SG:A++[((gu,cu,us),ut)]=rs at*;generalize xE:(wr.alloc (.cells #[(qS (some ⟨gx,ox,none⟩) nx cx),.int .i64 xt] 36)).drewN nq=W6 at*;have KX:=qd (K6.out W6 ⟨nq,xE.symm⟩);clear xE K6 KU c1 c2;have b1:=KX.out.b1;have b2:=KX.out.b2;have B0:Below W6.heap.size W6 ((W6.alloc (.cells #[] 3)).drew):=Below.drew ((Below.refl _ _).alloc (qr _) _);have F1:=qd (fun w1 (h:((W6.alloc (.cells #[] 3)).drew).grownBy w1 (some W6.heap.size))=>show Below W6.heap.size W6 w1 from B0.grown h B0.size (by intro j hj;cases hj;exact qr _));have lC:=KX.out.cel.below B0 KX.out.glt;have lK:=KX.out.bl;have l0:([]++xs:LI).length=nx:=by rw[List.nil_append];exact tA
     have tB:some bb≠some gO:=fun e=>KX.out.nO (Option.some.inj e).symm
     have tC:=qd (fun(g3:Nat) (c3:Nat)=>jM.out g3 c3);clear jM
     go_region_held3 (fun W=>W.cell? ⟨bb,0,none⟩=some (qS (some ⟨gx,ox,none⟩) nx cx)/\W.cell? ⟨bb,1,none⟩=some (.int .i64 xt))
      (first|go_keep|exact⟨((F1.out _ bm).cell (p:=⟨bb,0,none⟩) lK).trans b1,((F1.out _ bm).cell (p:=⟨bb,1,none⟩) lK).trans b2⟩|exact⟨aK.cell (a:=⟨bb,0,none⟩) (((F1.out _ bm).cell (p:=⟨bb,0,none⟩) lK).trans b1) tB,aK.cell (a:=⟨bb,1,none⟩) (((F1.out _ bm).cell (p:=⟨bb,1,none⟩) lK).trans b2) tB⟩)
      (first
        |(refine zdU (by rfl) _ _ (by rfl) W6.heap.size W6.heap.size 0 0 gx ox nx cx [] xs rfl tA (by exact(Own.empty (w:=W6.drew) (qr _))) (by exact lC) (by rfl) (by rfl) (by omega) ?_;intro g1 c1 w1 au bm nN)
        |(refine zhI (w:=w1) (by rfl) _ _ (by rfl) w2.heap.size gO cO (m+1) w1.heap.size g1 c1 nx rs ([]++xs) xt _ cK.out l0 (by rfl) (by rfl) (by exact KX.out.own.below (F1.out w1 bm)) (by exact au.mono KX.out.le) (by exact fun s hs e=>by have h1:=(KX.out.own.ofMem hs).lt;have h2:=au.base;omega) (by rfl) (by rfl) (by omega) ?_;intro g3 c3 w3 al aK eu))
     have ap:=(KX.out.bel.trans ((F1.out w1 bm).mono KX.out.bel.size)).grown aK (KX.out.bel.trans ((F1.out w1 bm).mono KX.out.bel.size)).size (by intro j hj;cases hj;exact KX.out.own.base);rw[List.nil_append] at al;have LM:=tC.out g1 c1;clear bm nN au aK eu lC B0 F1 b1 b2;go_wp2_with fail;go_roundw
     case rel=>exact⟨k+1,m+1+1,g3,c3,_,by omega,by go_num,rfl,by show _=_;rw[qA,cK.out];rfl,by omega,LM,al,ap⟩
     case measure=>simp[intOf];omega
  ·obtain rfl:k=l.length:=by omega
   obtain⟨D,hD,Eb⟩:=ho.sst aL.out.few;rw[cK.out] at hD Eb;have Aw:=zBe HP.out (by have:=HT.out;simpa using this) OL.out;have ak:=aL.out.cont;rw[qF (by simp[lst])] at ak;rw[<-ak] at Aw;have LO:=qd (Aw.uniq (zkU OL.out));have Fe:=qd (zyP w2.heap.size gO cO p D wr (by omega) hD);have HO:=qd ho;have SH:=qd Eb;clear hD Eb Aw ak aL ho;go_wp2_with fail;refine Fe.out.mono ?_;rintro e w4 ⟨M,d4,rfl,hM,dV,S4⟩;rw[SH.out] at dV;obtain⟨aw,lw⟩:=zGu HO.out S4 dV;have aG:=hb.grown S4.grown hb.size (by intro j hj;cases hj;exact HO.out.base);have HF:=qd (Cc.out.trans (aG.mono Cc.out.size));have SI:=qd (aw.mono Cc.out.size);clear Fe S4 aw aG dV;go_wp2_with fail;go_ret;exact zoj.mk' gO cO _ lw (by rw[zwP];exact LO.out) SI.out HF.out
end
section
open Go.RowKit Game Stb
theorem ChF.take{c:LL}{l:List Wt}(h:ChF c l)(k:Nat):ChF c (l.take k):=
 ⟨by have:=h.few;rw[List.length_take];omega,fun x hx=>h.len x (List.mem_of_mem_take hx),fun x hx=>h.box x (List.mem_of_mem_take hx),fun x hx=>h.inr x (List.mem_of_mem_take hx)⟩
theorem zeW{rs:List WRef}{l:List Wt}(h:zaz rs=l){k:Nat}(hk:k<rs.length)(hl:k<l.length):l[k]=(rs[k].1.2.2,rs[k].2):=by
 subst h;simp[zaz]
theorem zeD{rs:List WRef}{l:List Wt}(h:zaz rs=l):rs.length=l.length:=by
 subst h;simp[zaz]
theorem zyT{n:Nat}{v:LI}{c:LL}(h:zbi c v)(hn:c.length=n):decide (Sml n v)=true:=by
 subst hn;exact decide_eq_true ⟨h.len,fun j hj=>h.small j (by rw[<-h.len];exact hj)⟩
theorem zpG(gc oc n cc g o cv gu ou cu:Nat)(c:LL)(v u:LI)(l:List Wt)(b:Bool)(w:World)(hn:c.length=n)(aS:n<=cc)(hS:zbi c u)(hV:zbi c v)(kG:zeR w)(dm:ChM c u l b)
 (ah:gc<w.heap.size) (hg:g<w.heap.size) (eO:gu<w.heap.size) (hr:zal w gc oc c) (hv:zag w g o v) (hu:zag w gu ou u):
 Calls Tryz.prog 9 #[(qS (some ⟨gc,oc,none⟩) n cc),(qS (some ⟨g,o,none⟩) n cv),(qS (some ⟨gu,ou,none⟩) n cu)] w (zaO w (zcR (zcm c v l)) b):=by
 have hP:=zcJ hS.fin;have aR:=hS.hC.2.1;have h1:=zhv gc oc n cc gu ou n cu c u l b w hn (by rw[hS.len];exact hn) aS hS kG dm ah eO hr hu;have hF:=zgK hS hP dm;have bZ:=fun V (hB:Below w.heap.size w V)=>zdn gc oc n cc g o n cv c v V hn (by rw[hV.len];exact hn) (by omega) (by rw[hV.len];omega) (hv.below hB hg)
 rw[zyT hV rfl] at bZ;subst hn
 cases b with
 |false=>
  obtain rfl:=zog dm;have H1:=qd h1;clear h1 bZ dm hF hr hv hu
  go_enter Tryz.func9,Tryz.ntmps9
  go_wp2_with fail;refine H1.out.mono ?_;rintro e w1 ⟨gM,cM,rsM,rfl,-,-,ad⟩;clear H1;go_wp2_with fail;go_ret2;exact zaO.mk' _ _ [] rfl rfl (zas.empty ad.size) (ad.alloc ad.size _)
 |true=>
  have hs:=zfP dm;have mV:=zvq hV hs hF;have jO:=fun k=>zlN hV hs (hF.take k)
  have dq:=hV.len;have oA:=hF.few;have H1:=qd h1;have eH:=qd bZ;have tw:=qd mV;have cg:=qd hF.len;have lL:=qd jO;have jg:=qd dq;clear h1 bZ mV hF jO dq dm kG hS hV hP hs
  go_enter Tryz.func9,Tryz.ntmps9
  go_wp2_with fail;refine H1.out.mono ?_;rintro e w1 ⟨gM,cM,rsM,rfl,tk,fR,ad⟩;have jd:=fR.mono (qz _);have gC:=qd (eH.out w1 ad);have mN:=zeD tk;have Ac:=qd tk;have EA:=qd mN;clear H1 eH fR tk mN;go_wp2_with fail;refine gC.out.mono ?_;rintro e w2 ⟨rfl,aB⟩;have az:=zaf ad aB;have qy:=jd.still aB;clear gC aB jd ad;have Lk:=qy.1.lt;go_wp2_with fail;go_loopw [10,34] (fun ov kv wr=>∃(k p gO cO:Nat) (rs:List WRef),k<=l.length/\kv= .int .i64 k/\ov=(qS (some ⟨gO,0,none⟩) p cO)/\p<=k/\Hid (rs.length=p)/\Hid (zaz rs=zcm c v (l.take k))/\zas wr w.heap.size gO cO rs/\zas wr 0 gM cM rsM/\gM≠gO/\Below w.heap.size w wr) (fun _ kv _=>l.length-(intOf kv).toNat)
  case atStart=>
   have hb:=(Below.refl w2.heap.size w2).alloc (qr _) (.cells #[] 36);exact⟨0,0,w2.heap.size,0,[],qz _,rfl,rfl,qr _,rfl,rfl,zas.empty az.size,qy.below hb,by omega,az.alloc az.size _⟩
  case round=>
   clear qy az Lk;obtain⟨k,p,gO,cO,rs,hk,rfl,rfl,rQ,an,ak,ho,fR,ao,hb⟩:=hrel;by_cases ac:k<l.length
   ·have cH:k<rsM.length:=by rw[EA.out];exact ac
    obtain⟨q1,q2⟩:=fR.cells cH;have e1:=zeW Ac.out cH ac;have bN:=fR.ofMem (List.getElem_mem cH);have vT:=tw.out _ (List.getElem_mem ac);have fY:=cg.out _ (List.getElem_mem ac);have bQ:=zsl (c:=c) (v:=v) ac;rw[e1] at vT fY bQ;generalize rsM[k]=r at*;obtain⟨⟨gj,cj,x⟩,ct⟩:=r;dsimp only at q1 q2 bN vT fY bQ;have q1':wr.cell? ⟨gM,k*2,none⟩=some (qS (some ⟨gj,0,none⟩) c.length cj):=by rw[<-fY];exact q1
    have bT:Below w.heap.size w (wr.alloc (.cells #[(qS (some ⟨gj,0,none⟩) c.length cj),.int .i64 ct] 36)):=hb.alloc hb.size _;have ie:Below wr.heap.size wr (wr.alloc (.cells #[(qS (some ⟨gj,0,none⟩) c.length cj),.int .i64 ct] 36)):=(Below.refl _ _).alloc (qr _) _;have gn:=zeb g o c.length cv gj 0 cj v x (wr.alloc (.cells #[(qS (some ⟨gj,0,none⟩) c.length cj),.int .i64 ct] 36)) jg.out fY (by omega) (qL hg bT.size) (qL bN.lt ie.size) (hv.below bT hg) (bN.cells.below ie bN.lt);have aA:=(zte (heap_alloc_new wr (.cells #[(qS (some ⟨gj,0,none⟩) c.length cj),.int .i64 ct] 36))).2;have tD:wr.heap.size<(wr.alloc (.cells #[(qS (some ⟨gj,0,none⟩) c.length cj),.int .i64 ct] 36)).heap.size:=by simp
    have kQ:=ho.below ie;have Ff:=fR.below ie;have dS:=qd gn;have dQ:=qd aA;have vH:=qd vT;have fS:=qd bQ;have oP:=qd bT;have mW:=qd tD;have ON:=qd kQ;have Fg:=qd Ff;clear gn aA vT bQ bT tD kQ Ff q1 bN e1 fY ho fR hb ie;go_wp2_with fail;refine dS.out.mono ?_;rintro e w4 ⟨g4,c4,rfl,aw,aM⟩;rw[zcP];have aG:=oP.out.trans (aM.mono oP.out.size);have k4:=(aM.cell (p:=⟨wr.heap.size,1,none⟩) mW.out).trans dQ.out;have ml:=ON.out.below aM;have tE:=Fg.out.below aM;have tF:=zmz gc oc _ cc g4 0 c4 c (addTo v x c.length) w4 rfl vH.out (qL ah aG.size) aw.lt (hr.below aG ah) aw.cells;have qB:wr.heap.size<w4.heap.size:=qL mW.out aM.size;have tG:=qd tF;clear dS tF aM oP mW ON Fg aw dQ;go_wp2_with fail;refine tG.out.mono ?_;rintro e w5 ⟨g5,c5,rfl,aD,aQ⟩;have bj:=aG.trans (aQ.mono aG.size);have k5:=(aQ.cell (p:=⟨wr.heap.size,1,none⟩) qB).trans k4;have dd:=ml.below aQ;have eR:=tE.below aQ;have qC:=aD.mono aG.size
    have Fh:∀s∈rs,s.1.1≠g5:=fun s hs e=>by
     have h1:=(ml.ofMem hs).lt;have h2:=aD.base;omega
    have lw:=zvo (vH.out);clear tG aQ aG ml tE aD qB k4;have jP:=znB (c:=c) (v:=v) (x:=(x,ct));have lM:=fun d s=>zoU (c:=c) (v:=v) (x:=(x,ct)) (d:=d) (s:=s)
    dsimp only at jP lM;generalize hD:zdD c (addTo v x c.length)=D at*;obtain⟨d,s⟩:=D;dsimp only at jP qC lw ⊢;by_cases pm:s=0
    ·have hN:zcm c v (l.take (k+1))=zcm c v (l.take k):=by rw[fS.out,jP pm,List.append_nil]
     have HN:Hid (zaz rs=zcm c v (l.take (k+1))):=qd (by rw[hN];exact ak.out);subst pm;clear jP lM fS hN qC hD;go_wp2_with fail;go_roundw
     case rel=>exact⟨k+1,p,gO,cO,rs,by omega,by go_num,rfl,by omega,an,HN,dd,eR,ao,bj⟩
     case measure=>simp[intOf];omega
    ·have hN:zcm c v (l.take (k+1))=zcm c v (l.take k)++[(d,wrap64 (s*ct))]:=by rw[fS.out,lM d s rfl pm]
     have bh:decide (s=0)=false:=decide_eq_false pm;have aB:(s==0)=false:=by simpa using pm
     have ew:IntKind.i64.wrap (s*ct)=wrap64 (s*ct):=by simp only[wrap64,IntKind.wrap_i64]
     generalize wrap64 (s*ct)=z at*;have HN:=qd hN;clear jP lM fS hN hD;go_wp2_with (at_builtin;refine zbj (w:=w5) rfl _ _ rfl w.heap.size gO cO p w5.heap.size g5 c5 d.length rs d z _ an.out rfl rfl rfl dd qC Fh rfl rfl (by omega) ?_);intro g6 c6 w6 hY fG dR;have de:=bj.grown fG bj.size (by intro j hj;cases hj;exact dd.1.base);have oM:=eR.grown fG ao (fun r df e=>dd.ne (eR.ofMem df) e.symm)
     have ip:gM≠g6:=by
      rcases dR with h|h
      ·rw[h];exact ao
      ·have:=eR.1.lt;omega
     clear bj dd eR qC fG dR Fh;go_wp2_with fail;go_roundw
     case rel=>
      refine⟨k+1,p+1,g6,c6,rs++[((g5,c5,d),z)],by omega,by go_num,rfl,by omega,?_,?_,hY,oM,ip,de⟩
      ·show _=_;rw[qA,an.out];rfl
      ·show _=_;rw[HN.out,<-ak.out];simp[zaz]
     case measure=>simp[intOf];omega
   ·obtain rfl:k=l.length:=by omega
    have kZ:=ak.out;have Ax:=lL.out l.length;rw[qF (qr _)] at kZ Ax;have bU:=zeD kZ;have mE:=ho.wrows;rw[kZ] at mE;have ke:=zml gO 0 p cO (zcm c v l) wr (by rw[<-bU];exact an.out) (zoi (by rw[<-bU,an.out];omega) Ax.2 aR) (by rw[<-bU,an.out];omega) Ax.1 ho.1.lt mE;have kf:=qd ke;clear kZ ak fR ke Ax bU mE ho;go_wp2_with fail;refine kf.out.mono ?_;rintro e w3 ⟨g3,c3,rs3,rfl,eE,al,ag⟩;have ap:=hb.trans (ag.mono hb.size);have cn:=al.mono hb.size;clear kf ag al;go_wp2_with fail;go_ret2;exact zaO.mk' g3 c3 rs3 rfl eE cn ap
end
section
open Go.RowKit Game
theorem znE{u v:LI}(h:u.length=v.length):(0<zaU u v)↔zbc u v<0:=by
 have e:zaU u v=zbK u v:=by unfold zaU;rw[if_neg (by omega),if_neg (by omega)]
 have e2:=zeg h;have e3:=zcB u v;unfold zbc;omega
section
variable {v:LI} {z:Int} {H:Nat} {rs acc:List WRef} {i:Nat} {pl:Bool}
theorem zyU(rs:List WRef){i:Nat}(hi:i<rs.length):zaz (rs.drop i)=(rs[i].1.2.2,rs[i].2)::zaz (rs.drop (i+1)):=by
 rw[List.drop_eq_getElem_cons hi];rfl
end
def ziP(w:World)(B0:Nat)(L:List Wt)(e:Ending)(w':World):Prop:=
 ∃(g cap:Nat) (rs:List WRef),e= .returned (qS (some ⟨g,0,none⟩) rs.length cap)/\zaz rs=L/\zas w' B0 g cap rs/\w.heap.size<=g/\Below w.heap.size w w'
theorem ziP.mk'{w w':World}{B0 n:Nat}{L:List Wt}(g cap:Nat)(rs:List WRef)(hn:rs.length=n)(hc:zaz rs=L)(ho:zas w' B0 g cap rs)(hg:w.heap.size<=g)(hb:Below w.heap.size w w'):ziP w B0 L (.returned (qS (some ⟨g,0,none⟩) n cap)) w':=by
 subst hn;exact⟨g,cap,rs,rfl,hc,ho,hg,hb⟩
end
section
open Go.RowKit Game
structure zib(v:LI)(z:Int)(H:Nat)(rs:List WRef)(i:Nat)(acc:List WRef)(pl:Bool):Prop where
 blocks:∀s∈acc,(∃r∈rs.take i,r.1.1=s.1.1)∨H<=s.1.1
 fin:zaz acc++zbX v z (zaz (rs.drop i)) pl=zbX v z (zaz rs) false
 len:acc.length<=i+1
 lenF:pl=false->acc.length<=i
section
variable {v:LI} {z:Int} {H:Nat} {rs acc:List WRef} {i:Nat} {pl:Bool}
theorem zib.start:zib v z H rs 0 [] false:=⟨by simp,by simp[zaz],by simp,by simp⟩
theorem zib.step(h:zib v z H rs i acc pl)(hi:i<rs.length)(new:List WRef)(pl':Bool)(db:∀s∈new,rs[i].1.1=s.1.1∨H<=s.1.1)(hl:acc.length+new.length<=i+2)(hF:pl'=false->acc.length+new.length<=i+1)
 (hf:zbX v z (zaz (rs.drop i)) pl=zaz new++zbX v z (zaz (rs.drop (i+1))) pl'):zib v z H rs (i+1) (acc++new) pl':=by
 refine⟨fun s hs=>?_,?_,by rw[qA];omega,fun e=>by rw[qA];have:=hF e;omega⟩
 ·have ht:rs.take (i+1)=rs.take i++[rs[i]]:=qT hi
  rcases List.mem_append.1 hs with h1|h1
  ·rcases h.blocks s h1 with⟨r,hr,e⟩|h2
   ·exact .inl ⟨r,by rw[ht];exact List.mem_append_left _ hr,e⟩
   ·exact .inr h2
  ·rcases db s h1 with e|h2
   ·exact .inl ⟨rs[i],by rw[ht];exact List.mem_append_right _ (List.mem_singleton.2 rfl),e⟩
   ·exact .inr h2
 ·rw[<-h.fin,hf];simp[zaz]
theorem zib.ne(h:zib v z H rs i acc pl)(ez:((rs.map (·.1)).map (·.1)).Nodup)(hi:i<rs.length)(hH:rs[i].1.1<H):∀s∈acc,s.1.1≠rs[i].1.1:=by
 intro s hs e
 rcases h.blocks s hs with⟨r,hr,e1⟩|h1
 ·obtain⟨t,ht,rfl⟩:=List.mem_iff_getElem.1 hr;rw[List.length_take] at ht;rw[List.getElem_take] at e1;have kS:t<rs.length:=by omega
  have h2:((rs.map (·.1)).map (·.1))[t]'(by simpa using kS)=((rs.map (·.1)).map (·.1))[i]'(by simpa using hi):=by simpa using e1.trans e
  have h3:=(List.getElem_inj ez).1 h2;omega
 ·omega
end
theorem zGw{x v:LI}{c z t:Int}{l:List Wt}{pl:Bool}(h:x=v)(ht:wrap64 (c+z)=t)(h0:t≠0):zbX v z ((x,c)::l) pl=zaz [((0,0,x),t)]++zbX v z l true:=by
 simp only[zbX,ht];rw[if_pos h,if_neg h0];rfl
theorem zyV{x v:LI}{c z t:Int}{l:List Wt}{pl:Bool}(h:x=v)(ht:wrap64 (c+z)=t)(h0:t=0):zbX v z ((x,c)::l) pl=zaz []++zbX v z l true:=by
 simp only[zbX,ht];rw[if_pos h,if_pos h0];rfl
theorem zsx{x v:LI}{c z:Int}{l:List Wt}{pl:Bool}(h:x≠v)(h0:pl=true∨¬0<zaU v x)(hl:v.length=x.length):zbX v z ((x,c)::l) pl=zaz [((0,0,x),c)]++zbX v z l pl:=by
 simp only[zbX];rw[if_neg h,if_neg (fun q=>by rcases h0 with e|e;rw[e] at q;simp at q;exact e ((znE hl).2 q.2))];rfl
theorem zBw{x v:LI}{c z:Int}{l:List Wt}(h:x≠v)(h0:0<zaU v x)(hl:v.length=x.length)(hz:z≠0):zbX v z ((x,c)::l) false=zaz [((0,0,v),z),((0,0,x),c)]++zbX v z l true:=by
 simp only[zbX];rw[if_neg h,if_pos ⟨trivial,(znE hl).1 h0⟩,if_neg hz];rfl
theorem zyW{x v:LI}{c z:Int}{l:List Wt}(h:x≠v)(h0:0<zaU v x)(hl:v.length=x.length)(hz:z=0):zbX v z ((x,c)::l) false=zaz [((0,0,x),c)]++zbX v z l true:=by
 simp only[zbX];rw[if_neg h,if_pos ⟨trivial,(znE hl).1 h0⟩,if_pos hz];rfl
theorem zmm(B0 g cap n g1 o1 n1 c1:Nat)(rs:List WRef)(v:LI)(z:Int)(w:World)(hn:rs.length=n)(dL:v.length=n1)(hl:rs.length<=1000000)(dq:v.length<=1048576)
 (bI:∀r∈rs,r.1.2.2.length=v.length) (fb:Desc (zaz rs))
 (ho:zas w B0 g cap rs) (bm:g1<w.heap.size) (aI:zag w g1 o1 v):
 Calls Tryz.prog 47 #[(qS (some ⟨g,0,none⟩) n cap),(qS (some ⟨g1,o1,none⟩) n1 c1),.int .i64 z] w (ziP w B0 (zcQ (zaz rs) v z)):=by
 subst hn;subst dL;rw[<-zsj v z _ fb];have pM:B0<=w.heap.size:=by have:=ho.base;have:=ho.lt;omega
 have hg:=ho.lt;have mJ:=qd bI;have Ho:=qd ho;have nY:=qd aI;clear bI fb ho aI
 go_enter Tryz.func47,Tryz.ntmps47
 go_wp2;go_loopw [7,8,9] (fun ov pv iv wr=>∃(i p g' c':Nat) (acc:List WRef) (pl:Bool),i<=rs.length/\iv= .int .i64 i/\pv= .bool pl/\ov=(qS (some ⟨g',0,none⟩) p c')/\Hid (acc.length=p)/\p<=i+1/\Hid (zib v z w.heap.size rs i acc pl)/\zas wr B0 g' c' acc/\w.heap.size<=g'/\Below w.heap.size w wr) (fun _ _ iv _=>rs.length-(intOf iv).toNat)
 case atStart=>
  exact⟨0,0,w.heap.size,0,[],false,qz _,rfl,rfl,rfl,rfl,by omega,zib.start,zas.empty pM,qr _,(Below.refl _ _).alloc (qr _) _⟩
 case round=>
  obtain⟨i,p,g',c',acc,pl,hi,rfl,rfl,rfl,hp,jy,aL,hO,jb,hb⟩:=hrel;by_cases ac:i<rs.length
  ·have hm:rs[i]∈rs:=List.getElem_mem ac;have iS:=(Ho.out.ofMem hm).below hb (Ho.out.ofMem hm).lt;have mK:=aL.out.ne Ho.out.2.2 ac (Ho.out.ofMem hm).lt;have bX:rs[i].1.1<w.heap.size:=(Ho.out.ofMem hm).lt;have dF:=mJ.out _ hm;obtain⟨q1,q2⟩:=Ho.out.cells ac
   replace q1:=(hb.cell (p:=⟨g,i*2,none⟩) hg).trans q1
   replace q2:=(hb.cell (p:=⟨g,i*2+1,none⟩) hg).trans q2
   have HS:=qd (fun new pl'=>aL.out.step ac new pl');have np:=qd (zyU rs ac);have cg:=qd aL.out.lenF;generalize rs[i]=r at*;obtain⟨⟨bi,ci,xi⟩,ti⟩:=r;have q1':wr.cell? ⟨g,i*2,none⟩=some (qS (some ⟨bi,0,none⟩) xi.length ci):=q1;have q2':wr.cell? ⟨g,i*2+1,none⟩=some (.int .i64 ti):=q2;have aU:Own wr B0 bi ci xi:=iS;have fM:xi.length=v.length:=dF;have SJ:bi<w.heap.size:=bX;have lT:=nY.out.below hb bm;have dj:=zcK bi 0 xi.length ci g1 o1 v.length c1 xi v wr rfl rfl (by omega) aU.cells lT;have BH:=qd (fun W (hs:∃n,W=wr.drewN n)=>zht g1 o1 _ c1 bi 0 _ ci v xi W rfl rfl fM.symm (by omega) (lT.still hs) (aU.cells.still hs));have gf:=qd mK;have Fi:Hid (acc.length<=i+1):=qd aL.out.len;have eo:=qd fM;clear q1 q2 iS hm mK aL lT dF bX fM;by_cases ns:xi=v
   ·rw[decide_eq_true ns] at dj;have aX:=qd dj;have qY:=qd ns;clear dj ns BH;obtain⟨tz,LP⟩:∃tz,wrap64 (ti+z)=tz:=⟨_,rfl⟩;have ew:IntKind.i64.wrap (ti+z)=tz:=by rw[<-LP];simp only[wrap64,IntKind.wrap_i64]
    have OO:=qd LP;clear LP;by_cases h0:tz=0
    ·have H0:=qd h0;have qc:(tz != 0)=false:=by rw[h0];rfl
     clear h0;go_wp2_with fail;refine aX.out.mono ?_;rintro e w2 ⟨rfl,aB⟩;have q2'':=(zau aB _).trans q2';have bk:=zaf hb aB;have dG:=hO.still aB;clear hb hO aU q1' q2' aX aB;go_wp2_with fail;go_roundw
     case rel=>exact⟨i+1,p,g',c',acc,true,by omega,by go_num,by first|rfl|trivial,rfl,hp,by omega,(by have:=HS.out [] true (by simp) (by have:=Fi.out;simp;omega) (by simp) (by rw[np.out];exact zyV qY.out OO.out H0.out);rw[List.append_nil] at this;exact this),dG,jb,bk⟩
     case measure=>simp[intOf];omega
    ·have H0:=qd h0;have qc:(tz != 0)=true:=by rw[bne_iff_ne];exact h0
     clear h0;go_wp2_with fail;refine aX.out.mono ?_;rintro e w2 ⟨rfl,aB⟩;have q1'':=(zau aB _).trans q1';have q2'':=(zau aB _).trans q2';have bk:=zaf hb aB;have dG:=hO.still aB;have bz:=aU.still aB;clear hb hO aU q1' q2' aX aB;have Fj:Hid (some g≠some g'):=fun e=>by cases e;omega
     go_wp2_with fail
     go_region_held3 (fun W=>W.cell? ⟨g,i*2,none⟩=some (qS (some ⟨bi,0,none⟩) xi.length ci)/\W.cell? ⟨g,i*2+1,none⟩=some (.int .i64 ti))
      (first|go_keep|exact⟨aK.cell (a:=⟨g,i*2,none⟩) q1'' Fj.out,aK.cell (a:=⟨g,i*2+1,none⟩) q2'' Fj.out⟩)
      (first
        |(refine zhI (w:=w2.drew) (by rfl) _ _ (by rfl) B0 g' c' p w2.heap.size bi ci xi.length acc xi tz _ hp.out rfl (by rfl) (by rfl) (by exact dG.still ⟨1,rfl⟩) (by exact bz.still ⟨1,rfl⟩) gf.out (by rfl) (by rfl) (by omega) ?_;intro g3 c3 w3 al aK eu))
     have ap:Below w.heap.size w w3:=(Below.drew bk).grown aK bk.size (by intro j hj;cases hj;exact jb)
     have oQ:w.heap.size<=g3:=by
      rcases eu with h|h
      ·omega
      ·have:=bk.size;have h2:w2.heap.size<g3:=h;omega
     clear aK eu bz dG bk q1'' q2'';go_wp2_with fail;go_roundw
     case rel=>exact⟨i+1,p+1,g3,c3,_,true,by omega,by go_num,by first|rfl|trivial,rfl,by show _=_;rw[qA,hp.out];rfl,by omega,HS.out [((bi,ci,xi),tz)] true (by intro s hs;simp at hs;subst hs;exact .inl rfl) (by have:=Fi.out;simp;omega) (by simp) (by rw[np.out];exact zGw qY.out OO.out H0.out),al,oQ,ap⟩
     case measure=>simp[intOf];omega
   ·rw[decide_eq_false ns] at dj;have aX:=qd dj;have qY:=qd ns;clear dj ns
    cases pl with
    |true=>
     clear BH cg;go_wp2_with fail;refine aX.out.mono ?_;rintro e w2 ⟨rfl,aB⟩;have q1'':=(zau aB _).trans q1';have q2'':=(zau aB _).trans q2';have bk:=zaf hb aB;have dG:=hO.still aB;have bz:=aU.still aB;clear hb hO aU q1' q2' aX aB;go_wp2_with (at_builtin;refine zbj (w:=w2) rfl _ _ rfl B0 g' c' p w2.heap.size bi ci xi.length acc xi ti _ hp.out rfl rfl rfl dG bz gf.out rfl rfl (by omega) ?_);intro g3 c3 w3 al aK eu;have ap:Below w.heap.size w w3:=bk.grown aK bk.size (by intro j hj;cases hj;exact jb)
     have oQ:w.heap.size<=g3:=by
      rcases eu with h|h
      ·omega
      ·have:=bk.size;omega
     clear aK eu bz dG bk q1'' q2'';go_wp2;go_roundw
     case rel=>exact⟨i+1,p+1,g3,c3,_,true,by omega,by go_num,by first|rfl|trivial,rfl,by show _=_;rw[qA,hp.out];rfl,by omega,HS.out [((bi,ci,xi),ti)] true (by intro s hs;simp at hs;subst hs;exact .inl rfl) (by have:=Fi.out;simp;omega) (by simp) (by rw[np.out];exact zsx qY.out (.inl rfl) eo.out.symm),al,oQ,ap⟩
     case measure=>simp[intOf];omega
    |false=>
     have jy:p<=i:=by have:=cg.out rfl;have:=hp.out;omega
     clear cg;by_cases hv:0<zaU v xi
     ·have HG:Hid (∀W,(∃n,W=wr.drewN n)->Calls Tryz.prog 92 #[(qS (some ⟨g1,o1,none⟩) v.length c1),(qS (some ⟨bi,0,none⟩) xi.length ci)] W (zap W (.bool true))):=fun W hs=>by have:=BH.out W hs;rwa [decide_eq_true hv] at this
      have Hv:=qd hv;clear hv BH;by_cases fP:z=0
      ·have OP:=qd fP;subst fP;go_wp2_with fail;refine aX.out.mono ?_;rintro e w2 ⟨rfl,aB⟩;have bB:=qd (HG.out w2 aB);have ve:=(zau aB _).trans q1';go_wp2_with fail;refine bB.out.mono ?_;rintro e w6 ⟨rfl,fX⟩
       replace aB:=zbg aB fX
       clear fX bB ve HG;have q1'':=(zau aB _).trans q1';have q2'':=(zau aB _).trans q2';have bk:=zaf hb aB;have dG:=hO.still aB;have bz:=aU.still aB;clear hb hO aU q1' q2' aX aB;go_wp2_with (at_builtin;refine zbj (w:=w6) rfl _ _ rfl B0 g' c' p w6.heap.size bi ci xi.length acc xi ti _ hp.out rfl rfl rfl dG bz gf.out rfl rfl (by omega) ?_);intro g3 c3 w3 al aK eu;have ap:Below w.heap.size w w3:=bk.grown aK bk.size (by intro j hj;cases hj;exact jb)
       have oQ:w.heap.size<=g3:=by
        rcases eu with h|h
        ·omega
        ·have:=bk.size;omega
       clear aK eu bz dG bk q1'' q2'';go_wp2;go_roundw
       case rel=>exact⟨i+1,p+1,g3,c3,_,true,by omega,by go_num,by first|rfl|trivial,rfl,by show _=_;rw[qA,hp.out];rfl,by omega,HS.out [((bi,ci,xi),ti)] true (by intro s hs;simp at hs;subst hs;exact .inl rfl) (by have:=Fi.out;simp;omega) (by simp) (by rw[np.out];exact zyW qY.out Hv.out eo.out.symm rfl),al,oQ,ap⟩
       case measure=>simp[intOf];omega
      ·have OP:=qd fP;have Cq:(z != 0)=true:=by rw[bne_iff_ne];exact fP
       go_wp2_with fail;refine aX.out.mono ?_;rintro e w2 ⟨rfl,aB⟩;have bB:=qd (HG.out w2 aB);have ve:=(zau aB _).trans q1';go_wp2_with fail;refine bB.out.mono ?_;rintro e w6 ⟨rfl,fX⟩
       replace aB:=zbg aB fX
       clear fX bB ve HG;have q1'':=(zau aB _).trans q1';have q2'':=(zau aB _).trans q2';have bk:=zaf hb aB;have dG:=hO.still aB;have bz:=aU.still aB;clear hb hO aU q1' q2' aX aB;go_wp2_with (at_builtin;refine zaV (w:=w6) rfl _ _ rfl g1 o1 _ c1 v rfl (qL bm bk.size) (nY.out.below bk bm) rfl rfl (by omega) ?_);intro g3 c3 w3 al ag;have ap:Below w.heap.size w w3:=bk.trans (ag.mono bk.size);have bg:zas w3 B0 g' c' acc:=dG.below ag
       have dz:∀s∈acc,s.1.1≠g3:=fun s hs e=>by
        have h1:=(dG.ofMem hs).lt;have h2:=al.base;omega
       have aK:w.heap.size<=g3:=by have:=al.base;have:=bk.size;omega
       have cn:Own w3 B0 g3 c3 v:=al.mono (by have:=bk.size;omega);have iu:Own w3 B0 bi ci xi:=bz.below ag bz.lt;have Ay:g<w6.heap.size:=qL hg bk.size;have q13:=(ag.cell (p:=⟨g,i*2,none⟩) Ay).trans q1'';have q23:=(ag.cell (p:=⟨g,i*2+1,none⟩) Ay).trans q2'';clear q1'' q2'' bz dG bk ag Ay al;go_wp2_with (at_builtin;refine zbj (w:=w3) rfl _ _ rfl B0 g' c' p w3.heap.size g3 c3 v.length acc v z _ hp.out rfl rfl rfl bg cn dz rfl rfl (by omega) ?_);intro g4 c4 w4 dG aT bq;have bk:Below w.heap.size w w4:=ap.grown aT ap.size (by intro j hj;cases hj;exact jb);have bz:Own w4 B0 bi ci xi:=iu.grown aT (fun e=>bg.ne iu (Option.some.inj e).symm)
       have eX:w.heap.size<=g4:=by
        rcases bq with h|h
        ·omega
        ·have:=ap.size;omega
       have Fl:some g≠some g':=fun e=>by cases e;omega
       have q14:=aT.cell (a:=⟨g,i*2,none⟩) q13 Fl;have q24:=aT.cell (a:=⟨g,i*2+1,none⟩) q23 Fl
       have ft:∀s∈acc++[((g3,c3,v),z)],s.1.1≠bi:=fun s hs=>by
        rcases List.mem_append.1 hs with h|h
        ·exact gf.out s h
        ·simp at h;subst h;show g3≠bi;omega
       have wP:(acc++[((g3,c3,v),z)]).length=p+1:=by rw[qA,hp.out];rfl
       have yM:=qd wP;clear q13 q23 iu bg ap aT bq cn dz wP;go_wp2_with (at_builtin;refine zbj (w:=w4) rfl _ _ rfl B0 g4 c4 (p+1) w4.heap.size bi ci xi.length (acc++[((g3,c3,v),z)]) xi ti _ yM.out rfl rfl rfl dG bz ft rfl rfl (by omega) ?_);intro g5 c5 w5 eW eF cY;have bj:Below w.heap.size w w5:=bk.grown eF bk.size (by intro j hj;cases hj;exact eX)
       have fu:w.heap.size<=g5:=by
        rcases cY with h|h
        ·omega
        ·have:=bk.size;omega
       have dW:Hid (zib v z w.heap.size rs (i+1) (acc++[((g3,c3,v),z),((bi,ci,xi),ti)]) true):=by
        have:=HS.out [((g3,c3,v),z),((bi,ci,xi),ti)] true (by intro s hs;simp at hs;rcases hs with rfl|rfl;exact .inr aK;exact .inl rfl) (by have:=hp.out;simp;omega) (by simp) (by rw[np.out];exact zBw qY.out Hv.out eo.out.symm OP.out);exact this
       go_wp2;go_roundw
       case rel=>exact⟨i+1,p+1+1,g5,c5,_,true,by omega,by go_num,by first|rfl|trivial,rfl,by show _=_;rw[qA,hp.out];rfl,by omega,dW,eW,fu,bj⟩
       case measure=>simp[intOf];omega
     ·have HG:Hid (∀W,(∃n,W=wr.drewN n)->Calls Tryz.prog 92 #[(qS (some ⟨g1,o1,none⟩) v.length c1),(qS (some ⟨bi,0,none⟩) xi.length ci)] W (zap W (.bool false))):=fun W hs=>by have:=BH.out W hs;rwa [decide_eq_false hv] at this
      have Hv:=qd hv;clear hv BH;go_wp2_with fail;refine aX.out.mono ?_;rintro e w2 ⟨rfl,aB⟩;have bB:=qd (HG.out w2 aB);have ve:=(zau aB _).trans q1';go_wp2_with fail;refine bB.out.mono ?_;rintro e w6 ⟨rfl,fX⟩
      replace aB:=zbg aB fX
      clear fX bB ve HG;have q1'':=(zau aB _).trans q1';have q2'':=(zau aB _).trans q2';have bk:=zaf hb aB;have dG:=hO.still aB;have bz:=aU.still aB;clear hb hO aU q1' q2' aX aB;go_wp2_with (at_builtin;refine zbj (w:=w6) rfl _ _ rfl B0 g' c' p w6.heap.size bi ci xi.length acc xi ti _ hp.out rfl rfl rfl dG bz gf.out rfl rfl (by omega) ?_);intro g3 c3 w3 al aK eu;have ap:Below w.heap.size w w3:=bk.grown aK bk.size (by intro j hj;cases hj;exact jb)
      have oQ:w.heap.size<=g3:=by
       rcases eu with h|h
       ·omega
       ·have:=bk.size;omega
      clear aK eu bz dG bk q1'' q2'';go_wp2;go_roundw
      case rel=>exact⟨i+1,p+1,g3,c3,_,false,by omega,by go_num,by first|rfl|trivial,rfl,by show _=_;rw[qA,hp.out];rfl,by omega,HS.out [((bi,ci,xi),ti)] false (by intro s hs;simp at hs;subst hs;exact .inl rfl) (by have:=Fi.out;simp;omega) (by have:=hp.out;simp;omega) (by rw[np.out];exact zsx qY.out (.inr (by have:=Hv.out;omega)) eo.out.symm),al,oQ,ap⟩
      case measure=>simp[intOf];omega
  ·obtain rfl:i=rs.length:=by omega
   have bF:=aL.out.fin;rw[List.drop_length] at bF
   cases pl with
   |true=>
    have dW:Hid (zaz acc=zbX v z (zaz rs) false):=by have h2:zaz acc++[]=_:=bF;rw[List.append_nil] at h2;exact h2
    clear bF aL;go_wp2_with fail;go_ret;exact ziP.mk' g' c' acc hp.out dW.out hO jb hb
   |false=>
    by_cases fP:z=0
    ·subst fP;have dW:Hid (zaz acc=zbX v 0 (zaz rs) false):=by have h2:zaz acc++[]=_:=bF;rw[List.append_nil] at h2;exact h2
     clear bF aL;go_wp2_with fail;go_ret;exact ziP.mk' g' c' acc hp.out dW.out hO jb hb
    ·have dW:Hid (zaz acc++[(v,z)]=zbX v z (zaz rs) false):=by
      have h2:zaz acc++(if z=0 then[] else[(v,z)])=_:=bF;rw[if_neg fP] at h2;exact h2
     have Cq:(z != 0)=true:=by rw[bne_iff_ne];exact fP
     clear bF aL;go_wp2_with (at_builtin;refine zaV (w:=wr) rfl _ _ rfl g1 o1 _ c1 v rfl (qL bm hb.size) (nY.out.below hb bm) rfl rfl (by omega) ?_);intro g3 c3 w3 al ag;have ap:Below w.heap.size w w3:=hb.trans (ag.mono hb.size);have bg:zas w3 B0 g' c' acc:=hO.below ag
     have dz:∀s∈acc,s.1.1≠g3:=fun s hs e=>by
      have h1:=(hO.ofMem hs).lt;have h2:=al.base;omega
     have cn:Own w3 B0 g3 c3 v:=al.mono (by have:=hb.size;omega);clear hO hb al;go_wp2_with (at_builtin;refine zbj (w:=w3) rfl _ _ rfl B0 g' c' p w3.heap.size g3 c3 v.length acc v z _ hp.out rfl rfl rfl bg cn dz rfl rfl (by omega) ?_);intro g4 c4 w4 cV aT bq;have aG:Below w.heap.size w w4:=ap.grown aT ap.size (by intro j hj;cases hj;exact jb)
     have rU:w.heap.size<=g4:=by
      rcases bq with h|h
      ·omega
      ·have:=ap.size;omega
     go_wp2_with fail;go_ret;exact ziP.mk' g4 c4 (acc++[((g3,c3,v),z)]) (by rw[qA,hp.out];rfl) (by rw[<-dW.out];simp[zaz]) cV rU aG
end
end Go.Proofs.YtlgcmaoimpgedaaGreatDoor

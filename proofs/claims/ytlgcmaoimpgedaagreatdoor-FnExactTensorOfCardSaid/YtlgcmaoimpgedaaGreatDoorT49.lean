/- TnS TnA Tpw TpI -/
import Derived.Test.YtlgcmaoimpgedaaGreatDoorT48
set_option maxHeartbeats 8000000
set_option maxRecDepth 100000
set_option linter.unusedSimpArgs false
namespace Go.Proofs.YtlgcmaoimpgedaaGreatDoor
open Go.Value renaming slice->qS
section
open Go.RowKit Game Stb
theorem zpH(gc oc n cc g o cv gu ou cu:Nat)(c:LL)(v u:LI)(l:List Wt)(b:Bool)(w:World)(hn:c.length=n)(aS:n<=cu)(hS:zbi c u)(hV:zbi c v)(dm:ChM c u l b)
 (ah:gc<w.heap.size) (hg:g<w.heap.size) (eO:gu<w.heap.size) (hr:zal w gc oc c) (hv:zag w g o v) (hu:zag w gu ou u):
 Calls Tryz.prog 10 #[(qS (some ⟨gc,oc,none⟩) n cc),(qS (some ⟨g,o,none⟩) n cv),(qS (some ⟨gu,ou,none⟩) n cu)] w (zaO w (zcR (zcm c v l)) b):=by
 have hP:=zcJ hS.fin;have aR:=hS.hC.2.1;have bD:=hS.hC.2.2.1;have an:∀j,j<c.length->(c.getD j []).length<=1048576:=fun j hj=>by rw[bD j hj];omega
 have aN:Below w.heap.size w (w.alloc (.cells #[] 36)):=(Below.refl _ _).alloc (qr _) _;have h1:=zhw gc oc n cc gu ou n cu c u l b (w.alloc (.cells #[] 36)) hn (by rw[hS.len];exact hn) aS hS dm (qL ah aN.size) (qL eO aN.size) (hr.below aN ah) (hu.below aN eO);have hF:=zgK hS hP dm;have bZ:=fun V (hB:Below w.heap.size w V)=>zdf gc oc n cc g o n cv c v V hn (by rw[hV.len];exact hn) (by omega) (by rw[hV.len];omega) an (qL ah hB.size) (hr.below hB ah) (hv.below hB hg)
 rw[zyT hV rfl,hS.fin] at bZ;subst hn
 cases b with
 |false=>
  obtain rfl:=zog dm;have H1:=qd h1;clear h1 bZ dm hF hr hv hu
  go_enter Tryz.func10,Tryz.ntmps10
  go_wp2_with fail;refine H1.out.mono ?_;rintro e w1 ⟨gM,cM,rsM,rfl,-,-,ad⟩;have dc:=aN.trans (ad.mono aN.size);have iG:zas w1 w.heap.size w.heap.size 0 []:=(zas.empty (w:=w) (qr _)).below ad;clear H1;go_wp2_with fail;go_ret2;exact zaO.mk' _ _ [] rfl rfl iG dc
 |true=>
  have hs:=zfP dm;have mV:=zvq hV hs hF;have jO:=fun k=>zlN hV hs (hF.take k)
  have dq:=hV.len;have oA:=hF.few;have H1:=qd h1;have eH:=qd bZ;have tw:=qd mV;have cg:=qd hF.len;have lL:=qd jO;have jg:=qd dq;clear h1 bZ mV hF jO dq dm hS hV hP hs an
  go_enter Tryz.func10,Tryz.ntmps10
  go_wp2_with fail;refine H1.out.mono ?_;rintro e w1 ⟨gM,cM,rsM,rfl,tk,fR,ad⟩;have dc:=aN.trans (ad.mono aN.size);have iG:zas w1 w.heap.size w.heap.size 0 []:=(zas.empty (w:=w) (qr _)).below ad;have jd:=fR.mono (qz _);have gC:=qd (eH.out w1 dc);have mN:=zeD tk;have Ac:=qd tk;have EA:=qd mN;clear H1 eH fR tk mN aN ad;go_wp2_with fail;refine gC.out.mono ?_;rintro e w2 ⟨rfl,ae⟩;have az:=dc.trans (ae.mono dc.size);have qy:=jd.below ae;have ia:=iG.below ae;clear gC ae jd dc iG;go_wp2_with fail;go_loopw [8,11] (fun ov kv wr=>∃(k p gO cO:Nat) (rs:List WRef),k<=l.length/\kv= .int .i64 k/\ov=(qS (some ⟨gO,0,none⟩) p cO)/\p<=k/\Hid (rs.length=p)/\Hid (zaz rs=zcR (zcm c v (l.take k)))/\zas wr w.heap.size gO cO rs/\zas wr 0 gM cM rsM/\Below w.heap.size w wr) (fun _ kv _=>l.length-(intOf kv).toNat)
  case atStart=>exact⟨0,0,w.heap.size,0,[],qz _,rfl,rfl,qr _,rfl,rfl,ia,qy,az⟩
  case round=>
   clear qy az ia;obtain⟨k,p,gO,cO,rs,hk,rfl,rfl,rQ,an,ak,ho,fR,hb⟩:=hrel;by_cases ac:k<l.length
   ·have cH:k<rsM.length:=by rw[EA.out];exact ac
    obtain⟨q1,q2⟩:=fR.cells cH;have e1:=zeW Ac.out cH ac;have bN:=fR.ofMem (List.getElem_mem cH);have vT:=tw.out _ (List.getElem_mem ac);have fY:=cg.out _ (List.getElem_mem ac);have bQ:=zsl (c:=c) (v:=v) ac;have Ax:=lL.out k;have Fo:=lL.out (k+1);rw[e1] at vT fY bQ;have Fp:=qd (fun V (hV:zas V 0 gM cM rsM)=>(hV.cells cH).2);generalize rsM[k]=r at*;obtain⟨⟨gj,cj,x⟩,ct⟩:=r;dsimp only at q1 q2 bN vT fY bQ Fp;have q1':wr.cell? ⟨gM,k*2,none⟩=some (qS (some ⟨gj,0,none⟩) c.length cj):=by rw[<-fY];exact q1
    have gn:=zhr g o c.length cv gj 0 cj v x wr jg.out fY (by omega) (qL hg hb.size) bN.lt (hv.below hb hg) bN.cells;have dS:=qd gn;have vH:=qd vT;have fS:=qd bQ;have GY:=qd Ax;have Fq:=qd Fo;clear gn vT bQ q1 bN e1 fY Ax Fo;go_wp2_with fail;refine dS.out.mono ?_;rintro e w4 ⟨g4,c4,rfl,aw,aM⟩;rw[zcP];have aG:=hb.trans (aM.mono hb.size);have ml:=ho.below aM;have tE:=fR.below aM;have tF:=zmA gc oc _ cc g4 0 c4 c (addTo v x c.length) w4 rfl vH.out (qL ah aG.size) aw.lt (hr.below aG ah) aw.cells;have tG:=qd tF;clear dS tF aM aw ho fR hb;go_wp2_with fail;refine tG.out.mono ?_;rintro e w5 ⟨g5,c5,rfl,aD,aQ⟩;have bj:=aG.trans (aQ.mono aG.size);have dd:=ml.below aQ;have eR:=tE.below aQ;have k5:=Fp.out w5 eR;have lw:=zvo (vH.out);have qR:=zsm (vH.out);clear tG aQ aG ml tE;have jP:=znB (c:=c) (v:=v) (x:=(x,ct));have lM:=fun d s=>zoU (c:=c) (v:=v) (x:=(x,ct)) (d:=d) (s:=s)
    dsimp only at jP lM;generalize hD:zdD c (addTo v x c.length)=D at*;obtain⟨d,s⟩:=D;dsimp only at jP aD lw qR ⊢;by_cases pm:s=0
    ·have hN:zcm c v (l.take (k+1))=zcm c v (l.take k):=by rw[fS.out,jP pm,List.append_nil]
     have HN:Hid (zaz rs=zcR (zcm c v (l.take (k+1)))):=qd (by rw[hN];exact ak.out);subst pm;clear jP lM fS hN aD hD GY Fq qR;go_wp2_with fail;go_roundw
     case rel=>exact⟨k+1,p,gO,cO,rs,by omega,by go_num,rfl,by omega,an,HN,dd,eR,bj⟩
     case measure=>simp[intOf];omega
    ·have hN:zcm c v (l.take (k+1))=zcm c v (l.take k)++[(d,wrap64 (s*ct))]:=by rw[fS.out,lM d s rfl pm]
     have bh:decide (s=0)=false:=decide_eq_false pm;have aB:(s==0)=false:=by simpa using pm
     have ew:IntKind.i64.wrap (s*ct)=wrap64 (s*ct):=by simp only[wrap64,IntKind.wrap_i64]
     have mI:=qR pm;generalize wrap64 (s*ct)=z at*
     have bI:∀r∈rs,r.1.2.2.length=d.length:=fun r df=>by
      have h1:(r.1.2.2,r.2)∈zaz rs:=List.mem_map.2 ⟨r,df,rfl⟩;rw[ak.out] at h1;obtain⟨y,hy,e⟩:=zlP _ _ h1;have:=GY.out.2 y hy;rw[e] at this;rw[mI];exact this
     have fb:Desc (zaz rs):=by rw[ak.out];exact(zkU GY.out.1).desc
     have iA:=zmm w.heap.size gO cO p g5 0 c.length c5 rs d z w5 an.out mI (by rw[an.out];omega) (by rw[mI];omega) bI fb dd aD.lt aD.cells;rw[ak.out,<-zsi,<-hN] at iA
     have am:(zcR (zcm c v (l.take (k+1)))).length<=k+1:=by
      have h1:=zlO (zcm c v (l.take (k+1)));have h2:=zpB c v (l.take (k+1));rw[List.length_take] at h2;omega
     have jB:=qd iA;have Fs:=qd am;clear jP lM fS hN hD iA bI fb dd aD GY Fq qR am ak;go_wp2_with fail;refine jB.out.mono ?_;rintro e w6 ⟨g6,c6,rs6,rfl,rH,hY,-,bJ⟩;have de:=bj.trans (bJ.mono bj.size);have oM:=eR.below bJ;have Ft:rs6.length<=k+1:=by rw[zeD rH];exact Fs.out
     have LQ:=qd rH;obtain⟨p6,oS⟩:∃p6,rs6.length=p6:=⟨_,rfl⟩;have LR:=qd oS;rw[oS] at Ft ⊢;clear jB bj eR bJ k5 rH oS;go_wp2_with fail;go_roundw
     case rel=>exact⟨k+1,p6,g6,c6,rs6,by omega,by go_num,rfl,Ft,LR,LQ,hY,oM,de⟩
     case measure=>simp[intOf];omega
   ·obtain rfl:k=l.length:=by omega
    have kZ:=ak.out;rw[qF (qr _)] at kZ;have sP:=qd kZ;clear kZ ak fR;go_wp2_with fail;go_ret2;exact zaO.mk' gO cO rs an.out sP.out ho hb
end
section
open Go.RowKit Game Stb
theorem znF(gc oc n cc g o m cv gu ou mu cu:Nat)(c:LL)(u:LI)(w:World)(hn:c.length=n)(zF:u.length=mu)(hx:c.length<=1048576)(ul:u.length<=1048576)(an:∀j,j<c.length->(c.getD j []).length<=1048576)
 (aJ:(zaN c&&decide (Sml c.length u))=false) (ah:gc<w.heap.size) (eO:gu<w.heap.size) (hr:zal w gc oc c) (hu:zag w gu ou u):
 Calls Tryz.prog 9 #[(qS (some ⟨gc,oc,none⟩) n cc),(qS (some ⟨g,o,none⟩) m cv),(qS (some ⟨gu,ou,none⟩) mu cu)] w (zaO w [] false):=by
 have h1:=zkX gc oc n cc gu ou mu cu c u w hn zF hx ul an aJ ah eO hr hu;have H1:=qd h1;clear h1 aJ hr hu an
 go_enter Tryz.func9,Tryz.ntmps9
 go_wp2_with fail;refine H1.out.mono ?_;rintro e w1 ⟨gM,cM,rsM,rfl,-,-,ad⟩;clear H1;go_wp2_with fail;go_ret2;exact zaO.mk' _ _ [] rfl rfl (zas.empty ad.size) (ad.alloc ad.size _)
theorem znG(gc oc n cc g o m cv gu ou mu cu:Nat)(c:LL)(u:LI)(w:World)(hn:c.length=n)(zF:u.length=mu)(hx:c.length<=1048576)(ul:u.length<=1048576)(an:∀j,j<c.length->(c.getD j []).length<=1048576)
 (aJ:(zaN c&&decide (Sml c.length u))=false) (ah:gc<w.heap.size) (eO:gu<w.heap.size) (hr:zal w gc oc c) (hu:zag w gu ou u):
 Calls Tryz.prog 10 #[(qS (some ⟨gc,oc,none⟩) n cc),(qS (some ⟨g,o,none⟩) m cv),(qS (some ⟨gu,ou,none⟩) mu cu)] w (zaO w [] false):=by
 have aN:Below w.heap.size w (w.alloc (.cells #[] 36)):=(Below.refl _ _).alloc (qr _) _;have h1:=zkY gc oc n cc gu ou mu cu c u (w.alloc (.cells #[] 36)) hn zF hx ul an aJ (qL ah aN.size) (qL eO aN.size) (hr.below aN ah) (hu.below aN eO);have H1:=qd h1;clear h1 aJ hr hu an
 go_enter Tryz.func10,Tryz.ntmps10
 go_wp2_with fail;refine H1.out.mono ?_;rintro e w1 ⟨gM,cM,rsM,rfl,-,-,ad⟩;have dc:=aN.trans (ad.mono aN.size);have iG:zas w1 w.heap.size w.heap.size 0 []:=(zas.empty (w:=w) (qr _)).below ad;clear H1;go_wp2_with fail;go_ret2;exact zaO.mk' _ _ [] rfl rfl iG dc
theorem zoz(gc oc n cc g o m cv gu ou cu:Nat)(c:LL)(v u:LI)(l:List Wt)(b:Bool)(w:World)(hn:c.length=n)(hm:v.length=m)(eP:v.length<=1048576)(aS:n<=cc)(hS:zbi c u)(aJ:¬Sml c.length v)(kG:zeR w)(dm:ChM c u l b)
 (ah:gc<w.heap.size) (hg:g<w.heap.size) (eO:gu<w.heap.size) (hr:zal w gc oc c) (hv:zag w g o v) (hu:zag w gu ou u):
 Calls Tryz.prog 9 #[(qS (some ⟨gc,oc,none⟩) n cc),(qS (some ⟨g,o,none⟩) m cv),(qS (some ⟨gu,ou,none⟩) n cu)] w (zaO w [] false):=by
 have aR:=hS.hC.2.1;have h1:=zhv gc oc n cc gu ou n cu c u l b w hn (by rw[hS.len];exact hn) aS hS kG dm ah eO hr hu;have bZ:=fun V (hB:Below w.heap.size w V)=>zdn gc oc n cc g o m cv c v V hn hm (by omega) eP (hv.below hB hg)
 rw[decide_eq_false aJ] at bZ;have H1:=qd h1;have eH:=qd bZ;clear h1 bZ dm hr hv hu kG hS aJ
 go_enter Tryz.func9,Tryz.ntmps9
 go_wp2_with fail;refine H1.out.mono ?_;rintro e w1 ⟨gM,cM,rsM,rfl,-,-,ad⟩;have gC:=qd (eH.out w1 ad);clear H1 eH
 cases b with
 |false=>
  go_wp2_with fail;go_ret2;exact zaO.mk' _ _ [] rfl rfl (zas.empty ad.size) (ad.alloc ad.size _)
 |true=>
  go_wp2_with fail;refine gC.out.mono ?_;rintro e w2 ⟨rfl,aB⟩;have az:=zaf ad aB;go_wp2_with fail;go_ret2;exact zaO.mk' _ _ [] rfl rfl (zas.empty az.size) (az.alloc az.size _)
theorem zoA(gc oc n cc g o m cv gu ou cu:Nat)(c:LL)(v u:LI)(l:List Wt)(b:Bool)(w:World)(hn:c.length=n)(hm:v.length=m)(eP:v.length<=1048576)(aS:n<=cu)(hS:zbi c u)(aJ:¬Sml c.length v)(dm:ChM c u l b)
 (ah:gc<w.heap.size) (hg:g<w.heap.size) (eO:gu<w.heap.size) (hr:zal w gc oc c) (hv:zag w g o v) (hu:zag w gu ou u):
 Calls Tryz.prog 10 #[(qS (some ⟨gc,oc,none⟩) n cc),(qS (some ⟨g,o,none⟩) m cv),(qS (some ⟨gu,ou,none⟩) n cu)] w (zaO w [] false):=by
 have aR:=hS.hC.2.1;have bD:=hS.hC.2.2.1;have an:∀j,j<c.length->(c.getD j []).length<=1048576:=fun j hj=>by rw[bD j hj];omega
 have aN:Below w.heap.size w (w.alloc (.cells #[] 36)):=(Below.refl _ _).alloc (qr _) _;have h1:=zhw gc oc n cc gu ou n cu c u l b (w.alloc (.cells #[] 36)) hn (by rw[hS.len];exact hn) aS hS dm (qL ah aN.size) (qL eO aN.size) (hr.below aN ah) (hu.below aN eO);have bZ:=fun V (hB:Below w.heap.size w V)=>zdf gc oc n cc g o m cv c v V hn hm (by omega) eP an (qL ah hB.size) (hr.below hB ah) (hv.below hB hg)
 rw[decide_eq_false aJ,Bool.and_false] at bZ;have H1:=qd h1;have eH:=qd bZ;clear h1 bZ dm hr hv hu hS aJ an
 go_enter Tryz.func10,Tryz.ntmps10
 go_wp2_with fail;refine H1.out.mono ?_;rintro e w1 ⟨gM,cM,rsM,rfl,-,-,ad⟩;have dc:=aN.trans (ad.mono aN.size);have iG:zas w1 w.heap.size w.heap.size 0 []:=(zas.empty (w:=w) (qr _)).below ad;have gC:=qd (eH.out w1 dc);clear H1 eH ad
 cases b with
 |false=>
  go_wp2_with fail;go_ret2;exact zaO.mk' _ _ [] rfl rfl iG dc
 |true=>
  go_wp2_with fail;refine gC.out.mono ?_;rintro e w2 ⟨rfl,ae⟩;have az:=dc.trans (ae.mono dc.size);have ia:=iG.below ae;go_wp2_with fail;go_ret2;exact zaO.mk' _ _ [] rfl rfl ia az
def zcp(c:LL)(v:LI)(b:Bool):Bool:=b&&decide (Sml c.length v)
def zho(c:LL)(v:LI)(l:List Wt)(b:Bool):List Wt:=if zcp c v b=true then zcR (zcm c v l) else[]
theorem zgA{c:LL}{v:LI}(hf:zaN c=true)(h:Sml c.length v):zbi c v:=⟨zgG hf,hf,h.1,fun j hj=>h.2 j (by rw[h.1];exact hj)⟩
theorem zjB(gc oc n cc g o m cv gu ou mu cu:Nat)(c:LL)(v u:LI)(l:List Wt)(b:Bool)(w:World)(hn:c.length=n)(hm:v.length=m)(qx:u.length=mu)(eP:v.length<=1048576)(aS:n<=cc)(hS:zbi c u)(kG:zeR w)(dm:ChM c u l b)
 (ah:gc<w.heap.size) (hg:g<w.heap.size) (eO:gu<w.heap.size) (hr:zal w gc oc c) (hv:zag w g o v) (hu:zag w gu ou u):
 Calls Tryz.prog 9 #[(qS (some ⟨gc,oc,none⟩) n cc),(qS (some ⟨g,o,none⟩) m cv),(qS (some ⟨gu,ou,none⟩) mu cu)] w (zaO w (zho c v l b) (zcp c v b)):=by
 obtain rfl:n=mu:=by rw[<-hn,<-qx,hS.len]
 by_cases h:Sml c.length v
 ·obtain rfl:n=m:=by rw[<-hn,<-hm,h.1]
  have h1:=zpG gc oc n cc g o cv gu ou cu c v u l b w hn aS hS (zgA hS.fin h) kG dm ah hg eO hr hv hu;have e:zcp c v b=b:=by unfold zcp;rw[decide_eq_true h,Bool.and_true]
  unfold zho;rw[e]
  cases b with
  |true=>exact h1
  |false=>
   obtain rfl:=zog dm;exact h1
 ·have h1:=zoz gc oc n cc g o m cv gu ou cu c v u l b w hn hm eP aS hS h kG dm ah hg eO hr hv hu;have e:zcp c v b=false:=by unfold zcp;rw[decide_eq_false h,Bool.and_false]
  unfold zho;rw[e];exact h1
theorem zjC(gc oc n cc g o m cv gu ou mu cu:Nat)(c:LL)(v u:LI)(l:List Wt)(b:Bool)(w:World)(hn:c.length=n)(hm:v.length=m)(qx:u.length=mu)(eP:v.length<=1048576)(aS:mu<=cu)(hS:zbi c u)(dm:ChM c u l b)
 (ah:gc<w.heap.size) (hg:g<w.heap.size) (eO:gu<w.heap.size) (hr:zal w gc oc c) (hv:zag w g o v) (hu:zag w gu ou u):
 Calls Tryz.prog 10 #[(qS (some ⟨gc,oc,none⟩) n cc),(qS (some ⟨g,o,none⟩) m cv),(qS (some ⟨gu,ou,none⟩) mu cu)] w (zaO w (zho c v l b) (zcp c v b)):=by
 obtain rfl:n=mu:=by rw[<-hn,<-qx,hS.len]
 by_cases h:Sml c.length v
 ·obtain rfl:n=m:=by rw[<-hn,<-hm,h.1]
  have h1:=zpH gc oc n cc g o cv gu ou cu c v u l b w hn aS hS (zgA hS.fin h) dm ah hg eO hr hv hu;have e:zcp c v b=b:=by unfold zcp;rw[decide_eq_true h,Bool.and_true]
  unfold zho;rw[e]
  cases b with
  |true=>exact h1
  |false=>
   obtain rfl:=zog dm;exact h1
 ·have h1:=zoA gc oc n cc g o m cv gu ou cu c v u l b w hn hm eP aS hS h dm ah hg eO hr hv hu;have e:zcp c v b=false:=by unfold zcp;rw[decide_eq_false h,Bool.and_false]
  unfold zho;rw[e];exact h1
theorem zvy(c:LL)(u:LI):∃l b,zbi c u->ChM c u l b:=by
 by_cases h:zbi c u
 ·obtain⟨l,b,h1⟩:=zJM h;exact⟨l,b,fun _=>h1⟩
 ·exact⟨[],false,fun h1=>absurd h1 h⟩
noncomputable def chL(c:LL)(u:LI):List Wt:=Classical.choose (zvy c u)
noncomputable def chB(c:LL)(u:LI):Bool:=Classical.choose (Classical.choose_spec (zvy c u))
theorem zkZ{c:LL}{u:LI}(h:zbi c u):ChM c u (chL c u) (chB c u):=Classical.choose_spec (Classical.choose_spec (zvy c u)) h
noncomputable def zok(c:LL)(v u:LI):Bool:=(zaN c&&decide (Sml c.length u))&&zcp c v (chB c u)
noncomputable def ziN(c:LL)(v u:LI):List Wt:=if(zaN c&&decide (Sml c.length u))=true then zho c v (chL c u) (chB c u) else[]
theorem ziy(gc oc n cc g o m cv gu ou mu cu:Nat)(c:LL)(v u:LI)(w:World)(hn:c.length=n)(hm:v.length=m)(qx:u.length=mu)(hx:c.length<=1048576)(eP:v.length<=1048576)(ul:u.length<=1048576)(an:∀j,j<c.length->(c.getD j []).length<=1048576)(aS:n<=cc)(kG:zeR w)
 (ah:gc<w.heap.size) (hg:g<w.heap.size) (eO:gu<w.heap.size) (hr:zal w gc oc c) (hv:zag w g o v) (hu:zag w gu ou u):
 Calls Tryz.prog 9 #[(qS (some ⟨gc,oc,none⟩) n cc),(qS (some ⟨g,o,none⟩) m cv),(qS (some ⟨gu,ou,none⟩) mu cu)] w (zaO w (ziN c v u) (zok c v u)):=by
 cases hb:(zaN c&&decide (Sml c.length u)) with
 |true=>
  obtain⟨h1,h2⟩:=Bool.and_eq_true_iff.1 hb;have hS:=zgA h1 (of_decide_eq_true h2);have h:=zjB gc oc n cc g o m cv gu ou mu cu c v u _ _ w hn hm qx eP aS hS kG (zkZ hS) ah hg eO hr hv hu;unfold ziN zok;rw[hb,if_pos rfl,Bool.true_and];exact h
 |false=>
  have h:=znF gc oc n cc g o m cv gu ou mu cu c u w hn qx hx ul an hb ah eO hr hu;unfold ziN zok;rw[hb,if_neg (by decide),Bool.false_and];exact h
theorem zoB(gc oc n cc g o m cv gu ou mu cu:Nat)(c:LL)(v u:LI)(w:World)(hn:c.length=n)(hm:v.length=m)(qx:u.length=mu)(hx:c.length<=1048576)(eP:v.length<=1048576)(ul:u.length<=1048576)(an:∀j,j<c.length->(c.getD j []).length<=1048576)(aS:mu<=cu)
 (ah:gc<w.heap.size) (hg:g<w.heap.size) (eO:gu<w.heap.size) (hr:zal w gc oc c) (hv:zag w g o v) (hu:zag w gu ou u):
 Calls Tryz.prog 10 #[(qS (some ⟨gc,oc,none⟩) n cc),(qS (some ⟨g,o,none⟩) m cv),(qS (some ⟨gu,ou,none⟩) mu cu)] w (zaO w (ziN c v u) (zok c v u)):=by
 cases hb:(zaN c&&decide (Sml c.length u)) with
 |true=>
  obtain⟨h1,h2⟩:=Bool.and_eq_true_iff.1 hb;have hS:=zgA h1 (of_decide_eq_true h2);have h:=zjC gc oc n cc g o m cv gu ou mu cu c v u _ _ w hn hm qx eP aS hS (zkZ hS) ah hg eO hr hv hu;unfold ziN zok;rw[hb,if_pos rfl,Bool.true_and];exact h
 |false=>
  have h:=znG gc oc n cc g o m cv gu ou mu cu c u w hn qx hx ul an hb ah eO hr hu;unfold ziN zok;rw[hb,if_neg (by decide),Bool.false_and];exact h
end
section
open Go.RowKit Game
theorem zqP{α:Type}[DecidableEq α]:∀{L M:List α},L.Nodup->(∀x∈L,x∈M)->L.length<=M.length
 |[],_,_,_=>qz _
 |x::xs,M,hn,h=>by
  have hx:=h x (by simp);have h1:=List.nodup_cons.1 hn
  have h2:=zqP (L:=xs) (M:=M.erase x) h1.2 fun y hy=>by
   have ao:y≠x:=fun e=>h1.1 (e▸ hy)
   exact(List.mem_erase_of_ne ao).2 (h y (by simp[hy]))
  have h3:0<M.length:=List.length_pos_of_mem hx;rw[List.length_erase_of_mem hx] at h2;rw[List.length_cons];omega
def zvz:Nat->LL
 |0=>[[]]
 |n+1=>(zvz n).flatMap fun t=>([0,1,2,3,4]:LI).map (·::t)
theorem zvA:∀(n:Nat) (x:LI),Sml n x->x∈zvz n
 |0,x,h=>by
  have:x=[]:=List.length_eq_zero_iff.1 h.1;subst this;simp[zvz]
 |n+1,[],h=>by have:=h.1;simp at this
 |n+1,a::x,h=>by
  have h0:=h.2 0 (by simp);have hx:=zvA n x ⟨by have:=h.1;simpa using this,fun j hj=>by have:=h.2 (j+1) (by simpa using hj);simpa [List.getD] using this⟩;have ha:0<=a/\a<=4:=by simpa [List.getD] using h0
  refine List.mem_flatMap.2 ⟨x,hx,List.mem_map.2 ⟨a,?_,rfl⟩⟩;simp;omega
theorem zvB:∀n,(zvz n).length=5 ^ n
 |0=>rfl
 |n+1=>by
  have h:=zvB n
  have:∀L:LL,(L.flatMap fun t=>([0,1,2,3,4]:LI).map (·::t)).length=5*L.length:=by
   intro L
   induction L with
   |nil=>rfl
   |cons y L ih=>
    rw[List.flatMap_cons,qA,ih];simp;omega
  show((zvz n).flatMap _).length=_;rw[this,h,Nat.pow_succ];omega
theorem zBx{n:Nat}(hn:n<=4){Q:LL}(hQ:Q.Nodup)(h:∀x∈Q,Sml n x):Q.length<=625:=by
 have h1:=zqP hQ fun x hx=>zvA n x (h x hx)
 rw[zvB] at h1;have h2:5 ^ n<=5 ^ 4:=Nat.pow_le_pow_right (by decide) hn;omega
theorem zyX{L:List Wt}(h:Desc L):(L.map (·.1)).Nodup:=by
 refine List.pairwise_map.2 (h.imp fun {a b} eC=>?_);exact fun e=>zdx eC e.symm
variable {c:LL}
def zfe(k:Int)(y:Wt):Wt:=(y.1,wrap64 (y.2*k))
def zBy(c:LL)(l:List Wt)(x:Wt):List Wt:=(zcR (zcm c x.1 l)).map (zfe x.2)
def pwR(c:LL)(l L:List Wt):List Wt:=L.flatMap (zBy c l)
def zeX(c:LL)(b:Bool)(L:List Wt):Bool:=L.all fun x=>zcp c x.1 b
def pwV(c:LL)(l:List Wt)(b:Bool):Nat->Option (List Wt)
 |0=>some [(List.replicate c.length 0,1)]
 |k+1=>match pwV c l b k with
  |none=>none
  |some L=>if zeX c b L=true then some (zcR (pwR c l L)) else none
theorem zpI{l L:List Wt}{b:Bool}{k:Nat}(h:pwV c l b k=some L)(ho:zeX c b L=true):pwV c l b (k+1)=some (zcR (pwR c l L)):=by
 simp only[pwV,h,if_pos ho]
theorem zvC{l L:List Wt}{b:Bool}{k:Nat}(h:pwV c l b k=some L)(ho:zeX c b L=false):pwV c l b (k+1)=none:=by
 simp only[pwV,h,ho];rfl
theorem zsy{l:List Wt}{b:Bool}{k:Nat}(h:pwV c l b k=none):∀j,pwV c l b (k+j)=none
 |0=>h
 |j+1=>by
  show pwV c l b ((k+j)+1)=none;simp only[pwV,zsy h j]
theorem zxy{l L:List Wt}{b:Bool}{k N:Nat}(h:pwV c l b k=some L)(hk:k<N)(ho:zeX c b L=false):pwV c l b N=none:=by
 have:=zsy (zvC h ho) (N-(k+1))
 rwa [show k+1+(N-(k+1))=N by omega] at this
theorem zpJ{l L:List Wt}{i:Nat}(hi:i<L.length):pwR c l (L.take (i+1))=pwR c l (L.take i)++zBy c l L[i]:=by
 unfold pwR;rw[qT hi,List.flatMap_append];simp
theorem zsz{b:Bool}{L:List Wt}{i:Nat}(hi:i<L.length)(h:zeX c b (L.take i)=true)(h1:zcp c L[i].1 b=true):zeX c b (L.take (i+1))=true:=by
 unfold zeX at*;rw[qT hi,List.all_append,h];simp[h1]
theorem zxz{b:Bool}{L:List Wt}{i:Nat}(hi:i<L.length)(h1:zcp c L[i].1 b=false):zeX c b L=false:=by
 unfold zeX;rw[List.all_eq_false];exact⟨L[i],List.getElem_mem hi,by rw[h1];decide⟩
structure PwF(c:LL)(L:List Wt):Prop where
 few:L.length<=125000
 len:∀x∈L,x.1.length=c.length
 inr:InZ L
 desc:Desc L
theorem PwF.start(c:LL):PwF c [(List.replicate c.length 0,1)]:=
 ⟨by simp,fun x hx=>by rw[List.mem_singleton] at hx;subst hx;simp,fun x hx=>by rw[List.mem_singleton] at hx;subst hx;show InR 1;unfold InR;omega,List.pairwise_singleton _ _⟩
theorem PwF.small{L:List Wt}{b:Bool}{i:Nat}(h:PwF c L)(hn:c.length<=4)(ho:zeX c b (L.take i)=true):(L.take i).length<=625:=by
 have dL:((L.take i).map (·.1)).Nodup:=(zyX h.desc).sublist ((List.take_sublist i L).map _)
 have h2:=zBx (n:=c.length) hn dL fun x hx=>by
  obtain⟨y,hy,rfl⟩:=List.mem_map.1 hx;unfold zeX at ho;have h3:=List.all_eq_true.1 ho y hy;unfold zcp at h3;exact of_decide_eq_true (Bool.and_eq_true_iff.1 h3).2
 rwa [List.length_map] at h2
structure RwF(c:LL)(R:List Wt)(n:Nat):Prop where
 few:R.length<=n
 len:∀x∈R,x.1.length=c.length
 inr:InZ R
theorem RwF.nil(c:LL):RwF c [] 0:=⟨qr _,by simp,by intro x hx;simp at hx⟩
theorem RwF.app{A B:List Wt}{n m:Nat}(h:RwF c A n)(h':RwF c B m):RwF c (A++B) (n+m):=
 ⟨by rw[qA];have:=h.few;have:=h'.few;omega,fun x hx=>by
  rcases List.mem_append.1 hx with h1|h1
  ·exact h.len x h1
  ·exact h'.len x h1,fun x hx=>by
  rcases List.mem_append.1 hx with h1|h1
  ·exact h.inr x h1
  ·exact h'.inr x h1⟩
theorem zxA{T:List Wt}(hT:TnF c T)(k:Int):RwF c (T.map (zfe k)) 200:=
 ⟨by rw[List.length_map];exact hT.few,fun x hx=>by
  obtain⟨y,hy,rfl⟩:=List.mem_map.1 hx;exact hT.len y hy,fun x hx=>by
  obtain⟨y,hy,rfl⟩:=List.mem_map.1 hx;exact zlL _⟩
theorem zvD{T:List Wt}(hT:TnF c T)(k:Int)(j:Nat):RwF c ((T.take j).map (zfe k)) 200:=by
 have h:=zxA hT k;exact⟨by have:=h.few;rw[List.length_map] at this ⊢;rw[List.length_take];omega,fun x hx=>h.len x (by rw[List.map_take] at hx;exact List.mem_of_mem_take hx),fun x hx=>h.inr x (by rw[List.map_take] at hx;exact List.mem_of_mem_take hx)⟩
theorem zlT{l:List Wt}{b:Bool}{x:Wt}(hf:zaN c=true)(hs:szO c<=200)(hF:ChF c l)(hx:zcp c x.1 b=true):TnF c (zcR (zcm c x.1 l)):=by
 unfold zcp at hx;exact zJN (zgA hf (of_decide_eq_true (Bool.and_eq_true_iff.1 hx).2)) hs hF
theorem zlU{l L:List Wt}{b:Bool}(hf:zaN c=true)(hs:szO c<=200)(hF:ChF c l):∀i,i<=L.length->zeX c b (L.take i)=true->RwF c (pwR c l (L.take i)) (200*i)
 |0,_,_=>RwF.nil c
 |i+1,hi,ho=>by
  have kl:i<L.length:=by omega
  have ar:=ho;unfold zeX at ar;rw[qT kl,List.all_append] at ar;obtain⟨h1,h2⟩:=Bool.and_eq_true_iff.1 ar;have h3:zcp c L[i].1 b=true:=by simpa using h2
  rw[zpJ kl,show 200*(i+1)=200*i+200 by omega];exact(zlU hf hs hF i (by omega) h1).app (zxA (zlT hf hs hF h3) _)
theorem PwF.next{R:List Wt}{n:Nat}(h:RwF c R n)(hn:n<=125000):PwF c (zcR R):=by
 have h3:=zkU h.inr;refine⟨?_,fun x hx=>?_,h3.inr,h3.desc⟩
 ·have:=zlO R;have:=h.few;omega
 ·obtain⟨y,hy,e⟩:=zlP _ x hx;rw[<-e];exact h.len y hy
def pwL(o:Option (List Wt)):List Wt:=o.getD []
end
section
open Go.RowKit Game Stb
theorem zas.one{w:World}{B gr cr:Nat}{xs:LI}(ct:Int)(hr:Own w B gr cr xs):zas (w.alloc (.cells #[zah (gr,cr,xs),.int .i64 ct] 36)) B w.heap.size 1 [((gr,cr,xs),ct)]:=by
 have hB:B<=w.heap.size:=by have:=hr.base;have:=hr.lt;omega
 refine⟨World.ownsRow_lit w #[zah (gr,cr,xs),.int .i64 ct] 1 hB (by decide) rfl,fun r h=>?_,by simp⟩;simp at h;subst h;exact hr.alloc _
theorem zBz{ts0 rsT ts:List WRef}{j H:Nat}(h0:∀s∈ts0,s.1.1<H)(hT:∀s∈rsT,H<=s.1.1)(ez:((rsT.map (·.1)).map (·.1)).Nodup)(hj:j<rsT.length)(he:ts.map (·.1)=(ts0++rsT.take j).map (·.1)):∀s∈ts,s.1.1≠rsT[j].1.1:=fun s hs e=>by
 have h1:s.1∈(ts0++rsT.take j).map (·.1):=by rw[<-he];exact List.mem_map.2 ⟨s,hs,rfl⟩
 rw[List.map_append] at h1
 rcases List.mem_append.1 h1 with h2|h2
 ·obtain⟨r,hr,e2⟩:=List.mem_map.1 h2;have h3:=h0 r hr;have h4:=hT _ (List.getElem_mem hj);rw[e2,e] at h3;omega
 ·have h5:(((rsT.take (j+1)).map (·.1)).map (·.1)).Nodup:=ez.sublist (((List.take_sublist _ _).map _).map _);rw[qT hj,List.map_append,List.map_append] at h5;exact(List.nodup_append.1 h5).2.2 s.1.1 (List.mem_map.2 ⟨s.1,h2,rfl⟩) rsT[j].1.1 (by simp) e
theorem zsZ{ts ts0 rsT:List WRef}{j:Nat}(hj:j<rsT.length)(he:ts.map (·.1)=(ts0++rsT.take j).map (·.1))(z:Int):(ts++[(rsT[j].1,z)]).map (·.1)=(ts0++rsT.take (j+1)).map (·.1):=by
 rw[qT hj,List.map_append,he,<-List.append_assoc,List.map_append (l₂:=[rsT[j]])];rfl
theorem zmB(gc oc n cc g o cv N:Nat)(c:LL)(v:LI)(l:List Wt)(b:Bool)(w:World)(hn:c.length=n)(aS:n<=cc)(hS:zbi c v)(kG:zeR w)(dm:ChM c v l b)(hN:N<=3)
 (ah:gc<w.heap.size) (hg:g<w.heap.size) (hr:zal w gc oc c) (hv:zag w g o v):
 Calls Tryz.prog 21 #[(qS (some ⟨gc,oc,none⟩) n cc),(qS (some ⟨g,o,none⟩) n cv),.int .i64 (N:Int)] w (zaO w (pwL (pwV c l b N)) (pwV c l b N).isSome):=by
 have aR:=hS.hC.2.1;have bD:=hS.hC.2.2.1;have an:∀j,j<c.length->(c.getD j []).length<=1048576:=fun j hj=>by rw[bD j hj];omega
 have qu:=zdd gc oc n cc c w hn (by omega) an ah hr;rw[hS.fin] at qu;have bZ:=fun V (hB:Below w.heap.size w V)=>zdn gc oc n cc g o n cv c v V hn (by rw[hS.len];exact hn) (by omega) (by rw[hS.len];omega) (hv.below hB hg)
 rw[zyT hS rfl] at bZ;have tH:=fun V x gx cx (hB:Below w.heap.size w V) (hx:x.length=n) (kE:gx<V.heap.size) (fh:zag V gx 0 x)=>zjB gc oc n cc gx 0 n cx g o n cv c x v l b V hn hx (by rw[hS.len];exact hn) (by omega) aS hS (kG.below hB) dm (qL ah hB.size) kE (qL hg hB.size) (hr.below hB ah) fh (hv.below hB hg)
 have hF:=zgK hS (zcJ hS.fin) dm;have qo:=fun(hb:b=true)=>fun(L:List Wt)=>zlU (c:=c) (b:=b) (L:=L) hS.fin (zfP (by rw[hb] at dm;exact dm)) hF
 have aL:=fun(hb:b=true) (x:Wt)=>zlT (c:=c) (b:=b) (x:=x) hS.fin (zfP (by rw[hb] at dm;exact dm)) hF
 subst hn;obtain⟨R,hR⟩:∃R,pwV c l b N=R:=⟨_,rfl⟩;rw[hR];have qD:=qd qu;have eH:=qd bZ;have Az:=qd tH;have GZ:=qd qo;have gI:=qd aL;have HR:=qd hR;clear qu bZ tH qo aL hR hF dm kG hS bD an hr hv ah hg
 go_enter Tryz.func21,Tryz.ntmps21
 go_wp2_with fail;refine qD.out.mono ?_;rintro e w1 ⟨rfl,ad⟩;have gC:=qd (eH.out w1 ad);clear qD eH;go_wp2_with fail;refine gC.out.mono ?_;rintro e w2 ⟨rfl,aB⟩;have az:=zaf ad aB;clear gC aB ad;go_wp2_with (at_make;refine zbF (w:=w2) rfl _ _ rfl w.heap.size c.length _ rfl rfl rfl (by omega) az.size ?_);intro w3 al aK;have ap:=az.grown aK az.size (by intro j hj;cases hj);obtain⟨g3,tI⟩:∃g3,w2.heap.size=g3:=⟨_,rfl⟩;rw[tI] at al ⊢;have qa:(List.replicate c.length (0:Int)).length=c.length:=by simp
 have tJ:zas (w3.alloc (.cells #[(qS (some ⟨g3,0,none⟩) c.length c.length),.int .i64 1] 36)) w.heap.size w3.heap.size 1 [((g3,c.length,List.replicate c.length 0),1)]:=by
  have h:=zas.one 1 al;unfold zah at h;rw[qa] at h;exact h
 have aG:Below w.heap.size w (w3.alloc (.cells #[(qS (some ⟨g3,0,none⟩) c.length c.length),.int .i64 1] 36)):=ap.alloc ap.size _;clear az aK tI ap al qa;go_wp2_with fail;go_loopw [8,40] (fun ov kv wr=>∃(k p gO cO:Nat) (L:List Wt) (rs:List WRef),k<=N/\kv= .int .i64 k/\ov=(qS (some ⟨gO,0,none⟩) p cO)/\Hid (rs.length=p)/\Hid (zaz rs=L)/\Hid (pwV c l b k=some L)/\Hid (PwF c L)/\zas wr w.heap.size gO cO rs/\Below w.heap.size w wr) (fun _ kv _=>N-(intOf kv).toNat)
 case atStart=>exact⟨0,1,w3.heap.size,1,[(List.replicate c.length 0,1)],[((g3,c.length,List.replicate c.length 0),1)],qz _,rfl,rfl,rfl,rfl,rfl,qd (PwF.start c),tJ,aG⟩
 case round=>
  clear tJ aG;obtain⟨k,p,gO,cO,L,rs,hk,rfl,rfl,an,ak,uY,hP,ho,hb⟩:=hrel;have AB:L.length=p:=by rw[<-zeD ak.out];exact an.out
  have Fu:p<=125000:=by rw[<-AB];exact hP.out.few
  by_cases BU:k<N
  ·have lu:=ho.1.lt;have nF:=qd AB;clear AB;go_wp2_with fail;go_loopw [9,45] (fun nv iv wi=>∃(i q gN cN:Nat) (ts:List WRef),i<=p/\iv= .int .i64 i/\nv=(qS (some ⟨gN,0,none⟩) q cN)/\q<=200*i/\Hid (ts.length=q)/\Hid (zaz ts=pwR c l (L.take i))/\Hid (zeX c b (L.take i)=true)/\zas wi w.heap.size gN cN ts/\zas wi w.heap.size gO cO rs/\gO≠gN/\Below w.heap.size w wi) (fun _ iv _=>p-(intOf iv).toNat)
   case atStart=>
    have bE:=(Below.refl wr.heap.size wr).alloc (qr _) (.cells #[] 36);exact⟨0,0,wr.heap.size,0,[],qz _,rfl,rfl,qz _,rfl,rfl,rfl,zas.empty hb.size,ho.below bE,by omega,hb.alloc hb.size _⟩
   case round=>
    clear ho hb lu;obtain⟨i,q,gN,cN,ts,hi,rfl,rfl,CS,bU,nK,aV,je,eg,ao,hb⟩:=hrel
    have Fv:i<=625:=by
     have h1:=hP.out.small aR aV.out;rw[List.length_take,nF.out] at h1;omega
    by_cases Fw:i<p
    ·have mC:i<rs.length:=by rw[an.out];exact Fw
     have tK:i<L.length:=by rw[nF.out];exact Fw
     obtain⟨q1,q2⟩:=eg.cells mC;have e1:=zeW ak.out mC tK;have bN:=eg.ofMem (List.getElem_mem mC);have fY:=hP.out.len _ (List.getElem_mem tK);have bQ:=zpJ (c:=c) (l:=l) tK;have nZ:=fun h=>zsz (c:=c) (b:=b) tK aV.out h
     have lQ:=fun h=>zxz (c:=c) (b:=b) tK h
     rw[e1] at fY bQ nZ lQ;generalize rs[i]=r at*;obtain⟨⟨gx,cx,x⟩,ct⟩:=r;dsimp only at q1 q2 bN fY bQ nZ lQ;have q1':wr.cell? ⟨gO,i*2,none⟩=some (qS (some ⟨gx,0,none⟩) c.length cx):=by rw[<-fY];exact q1
     have bT:Below w.heap.size w (wr.alloc (.cells #[(qS (some ⟨gx,0,none⟩) c.length cx),.int .i64 ct] 36)):=hb.alloc hb.size _;have ie:Below wr.heap.size wr (wr.alloc (.cells #[(qS (some ⟨gx,0,none⟩) c.length cx),.int .i64 ct] 36)):=(Below.refl _ _).alloc (qr _) _;have aa:=Az.out (wr.alloc (.cells #[(qS (some ⟨gx,0,none⟩) c.length cx),.int .i64 ct] 36)) x gx cx bT fY (qL bN.lt ie.size) (bN.cells.below ie bN.lt);have aA:=(zte (heap_alloc_new wr (.cells #[(qS (some ⟨gx,0,none⟩) c.length cx),.int .i64 ct] 36))).2;have tD:wr.heap.size<(wr.alloc (.cells #[(qS (some ⟨gx,0,none⟩) c.length cx),.int .i64 ct] 36)).heap.size:=by simp
     have AC:=je.below ie;have qf:=eg.below ie;have LS:gN<wr.heap.size:=je.1.lt
     cases hT:zcp c x b with
     |false=>
      have aJ:=zxy uY.out BU (lQ hT);have LU:R=none:=by rw[<-HR.out];exact aJ
      subst LU;rw[hT] at aa;have ab:=qd aa;have oP:=qd bT;clear aa aA nZ lQ bQ AC qf q1 e1 bN aJ je eg hb ie bT;generalize zho c x l b=TT at*;go_wp2_with fail;refine ab.out.mono ?_;rintro e w4 ⟨gT,cT,rsT,rfl,-,-,aM⟩;have aG:=oP.out.trans (aM.mono oP.out.size);clear ab;go_wp2_with fail;go_ret2;exact zaO.mk' _ _ [] rfl rfl (zas.empty aG.size) (aG.alloc aG.size _)
     |true=>
      have nG:b=true:=by unfold zcp at hT;exact(Bool.and_eq_true_iff.1 hT).1
      have eT:zho c x l b=zcR (zcm c x l):=by unfold zho;rw[if_pos hT]
      have vU:=gI.out nG (x,ct) hT;have eY:=nZ hT;dsimp only at vU;have eL:pwR c l (L.take (i+1))=pwR c l (L.take i)++(zcR (zcm c x l)).map (zfe ct):=bQ;rw[hT,eT] at aa;generalize zcR (zcm c x l)=T at*;have Fx:=vU.few;have Fy:=qd vU.len;have ab:=qd aa;have oP:=qd bT;have AD:=qd eY;have lh:=qd eL;have dQ:=qd aA;have mW:=qd tD;have AE:=qd AC;have Fz:=qd qf;clear aa aA nZ lQ bQ eL eY AC qf q1 e1 bN je eg hb ie bT tD vU hT eT;go_wp2_with fail;refine ab.out.mono ?_;rintro e w4 ⟨gT,cT,rsT,rfl,uh,lc,aM⟩;have aG:=oP.out.trans (aM.mono oP.out.size);have k4:=(aM.cell (p:=⟨wr.heap.size,1,none⟩) mW.out).trans dQ.out;have tL:=AE.out.below aM;have bq:=Fz.out.below aM;have qB:wr.heap.size<w4.heap.size:=qL mW.out aM.size;have nk:=zeD uh;have rF:∀s∈ts,s.1.1<(wr.alloc (.cells #[(qS (some ⟨gx,0,none⟩) c.length cx),.int .i64 ct] 36)).heap.size:=fun s hs=>(AE.out.ofMem hs).lt
      have xF:∀s∈rsT,(wr.alloc (.cells #[(qS (some ⟨gx,0,none⟩) c.length cx),.int .i64 ct] 36)).heap.size<=s.1.1:=fun s hs=>(lc.ofMem hs).base
      have ez:=lc.2.2;have qE:gT≠gN:=by have h1:=lc.1.base;have h2:=mW.out;omega
      have tM:=fun(j:Nat) (hj:j<rsT.length) (tt:List WRef) (he:tt.map (·.1)=(ts++rsT.take j).map (·.1))=>zBz rF xF ez hj he
      have tN:=lc.mono oP.out.size;have AF:=qd tM;have Dw:=qd uh;have vx:=qd nk;obtain⟨bx,bE⟩:∃bx,wr.heap.size=bx:=⟨_,rfl⟩;rw[bE] at k4 qB LS ⊢;clear ab oP mW AE Fz dQ aM rF xF ez tM uh nk lc bE q1' q2;go_wp2_with fail;go_loopw [9,62] (fun nv jv wj=>∃(j q' gN' cN':Nat) (tt:List WRef),j<=T.length/\jv= .int .i64 j/\nv=(qS (some ⟨gN',0,none⟩) q' cN')/\q'<=q+j/\Hid (tt.length=q')/\Hid (zaz tt=pwR c l (L.take i)++(T.take j).map (zfe ct))/\Hid (tt.map (·.1)=(ts++rsT.take j).map (·.1))/\zas wj w.heap.size gN' cN' tt/\zas wj w.heap.size gO cO rs/\zas wj w.heap.size gT cT rsT/\gO≠gN'/\gT≠gN'/\bx≠gN'/\bx<wj.heap.size/\wj.cell? ⟨bx,1,none⟩=some (.int .i64 ct)/\Below w.heap.size w wj) (fun _ jv _=>T.length-(intOf jv).toNat)
      case atStart=>exact⟨0,q,gN,cN,ts,qz _,rfl,rfl,qr _,bU,by show _=_;rw[nK.out];simp,by show _=_;simp,tL,bq,tN,ao,qE,by omega,qB,k4,aG⟩
      case round=>
       clear tL bq tN qE qB k4 aG ao bU nK;obtain⟨j,q',gN',cN',tt,hj,rfl,rfl,SK,oT,jQ,dh,oU,eg,lc,ao,qE,AG,bE,kx,hb⟩:=hrel;by_cases vV:j<T.length
       ·have vW:j<rsT.length:=by rw[vx.out];exact vV
        obtain⟨q1,q2⟩:=lc.cells vW;have e1:=zeW Dw.out vW vV;have iV:=lc.ofMem (List.getElem_mem vW);have lV:=Fy.out _ (List.getElem_mem vV);have gG:=AF.out j vW tt dh.out;have LV:=fun z=>zsZ vW dh.out z
        have bQ:(T.take (j+1)).map (zfe ct)=(T.take j).map (zfe ct)++[zfe ct T[j]]:=by
         rw[qT vV,List.map_append];rfl
        rw[e1] at lV bQ;generalize rsT[j]=r at*;obtain⟨⟨gy,cy,y⟩,cty⟩:=r;dsimp only at q1 q2 iV lV gG LV bQ;have q1':wr.cell? ⟨gT,j*2,none⟩=some (qS (some ⟨gy,0,none⟩) c.length cy):=by rw[<-lV];exact q1
        have ie:Below wr.heap.size wr (wr.alloc (.cells #[(qS (some ⟨gy,0,none⟩) c.length cy),.int .i64 cty] 36)):=(Below.refl _ _).alloc (qr _) _;have bT:Below w.heap.size w (wr.alloc (.cells #[(qS (some ⟨gy,0,none⟩) c.length cy),.int .i64 cty] 36)):=hb.alloc hb.size _;have kA:=(ie.cell (p:=⟨bx,1,none⟩) bE).trans kx;have xG:=oU.below ie;have xH:=eg.below ie;have FC:=lc.below ie;have sC:=iV.below ie iV.lt;have sD:bx<(wr.alloc (.cells #[(qS (some ⟨gy,0,none⟩) c.length cy),.int .i64 cty] 36)).heap.size:=qL bE ie.size;have ew:IntKind.i64.wrap (cty*ct)=wrap64 (cty*ct):=by simp only[wrap64,IntKind.wrap_i64]
        have hN:pwR c l (L.take i)++(T.take (j+1)).map (zfe ct)=zaz tt++[(y,wrap64 (cty*ct))]:=by rw[bQ,<-List.append_assoc,<-jQ.out];rfl
        generalize wrap64 (cty*ct)=z at*;have HN:=qd hN;have SL:=qd (LV z);have Ec:=qd lV;have oP:=qd bT;have mX:=qd xG;have pt:=qd xH;have vX:=qd FC;have FD:=qd sC;have AH:=qd sD;have GO:=qd gG;have OQ:=qd kA;have AI:Hid ((wr.alloc (.cells #[(qS (some ⟨gy,0,none⟩) c.length cy),.int .i64 cty] 36)).heap.size=wr.heap.size+1):=qd (by simp);clear hN LV q1 iV lV bQ ie bT xG xH FC sC sD oU eg lc hb e1 gG jQ dh;go_wp2_with (at_builtin;refine zbj (w:=wr.alloc (.cells #[(qS (some ⟨gy,0,none⟩) c.length cy),.int .i64 cty] 36)) rfl _ _ rfl w.heap.size gN' cN' q' (wr.heap.size+1) gy cy c.length tt y z _ oT.out Ec.out rfl AI.out mX.out FD.out GO.out rfl rfl (by omega) ?_);intro g6 c6 w6 hY fG dR;have de:=oP.out.grown fG oP.out.size (by intro j hj;cases hj;exact mX.out.1.base);have tO:=pt.out.grown fG ao (fun r df e=>mX.out.ne (pt.out.ofMem df) e.symm);have AJ:=vX.out.grown fG qE (fun r df e=>mX.out.ne (vX.out.ofMem df) e.symm);have k6:=fG.cell (a:=⟨bx,1,none⟩) OQ.out (fun e=>AG (Option.some.inj e));have zK:bx<w6.heap.size:=qL AH.out fG.size
        have ip:gO≠g6:=by
         rcases dR with h|h
         ·rw[h];exact ao
         ·have h2:=pt.out.1.lt;rw[AI.out] at h2;omega
        have LW:gT≠g6:=by
         rcases dR with h|h
         ·rw[h];exact qE
         ·have h2:=vX.out.1.lt;rw[AI.out] at h2;omega
        have FE:bx≠g6:=by
         rcases dR with h|h
         ·rw[h];exact AG
         ·have:=AH.out;omega
        have Z1:Hid ((tt++[((gy,cy,y),z)]).length=q'+1):=qd (by rw[qA,oT.out];rfl);have Z2:Hid (zaz (tt++[((gy,cy,y),z)])=pwR c l (L.take i)++(T.take (j+1)).map (zfe ct)):=qd (by rw[HN.out];simp[zaz]);clear oP mX pt vX FD AH GO OQ fG dR kx HN bE AG ao qE;go_wp2_with fail;go_roundw
        case rel=>exact⟨j+1,q'+1,g6,c6,tt++[((gy,cy,y),z)],by omega,by go_num,rfl,by omega,Z1,Z2,SL,hY,tO,AJ,ip,LW,FE,zK,k6,de⟩
        case measure=>simp[intOf];omega
       ·obtain rfl:j=T.length:=by omega
        have aH:=jQ.out;rw[qF (qr _),<-lh.out] at aH;have fi:=qd aH;clear aH jQ lc kx dh;go_wp2_with fail;go_roundw
        case rel=>exact⟨i+1,q',gN',cN',tt,by omega,by go_num,rfl,by omega,oT,fi,AD,oU,eg,ao,hb⟩
        case measure=>simp[intOf];omega
    ·obtain rfl:i=p:=by omega
     have aH:=nK.out;have eY:=aV.out;rw[qF (by rw[nF.out];exact qr _)] at aH eY;have fk:pwV c l b (k+1)=some (zcR (pwR c l L)):=zpI uY.out eY
     have nG:i=0∨b=true:=by
      by_cases h0:i=0
      ·exact .inl h0
      ·refine .inr ?_;have h1:(L[0]'(by rw[nF.out];omega))∈L:=List.getElem_mem _;unfold zeX at eY;have h2:=List.all_eq_true.1 eY _ h1;unfold zcp at h2;exact(Bool.and_eq_true_iff.1 h2).1
     have xI:RwF c (pwR c l L) (200*i):=by
      rcases nG with h0|h0
      ·have:L=[]:=List.length_eq_zero_iff.1 (by rw[nF.out,h0]);rw[this,h0];exact RwF.nil c
      ·have h1:=GZ.out h0 L i (by rw[nF.out];exact qr _) aV.out
       rwa [qF (by rw[nF.out];exact qr _)] at h1
     have mE:=je.wrows;rw[aH] at mE;have FF:=xI.few;have OR:(pwR c l L).length=q:=by rw[<-zeD aH];exact bU.out
     have ke:=zml gN 0 q cN (pwR c l L) wr OR ⟨by omega,fun j hj=>by
      have h2:wOf (pwR c l L) j=((pwR c l L)[j]).1:=by simp[wOf,List.getD,hj]
      rw[h2,xI.len _ (List.getElem_mem hj)];omega⟩ (by omega) xI.inr je.1.lt mE
     have kf:=qd ke;have nt:=qd fk;have LX:=qd (PwF.next xI (by omega));clear aH eY fk nG xI mE FF OR ke je eg nK aV;go_wp2_with fail;refine kf.out.mono ?_;rintro e w5 ⟨g5,c5,rs5,rfl,fK,aD,aQ⟩;have bj:=hb.trans (aQ.mono hb.size);have qC:=aD.mono hb.size;obtain⟨p5,LY⟩:∃p5,rs5.length=p5:=⟨_,rfl⟩;rw[LY];have SN:=qd LY;have zq:=qd fK;clear kf aQ aD hb LY fK;go_wp2_with fail;go_roundw
     case rel=>exact⟨k+1,p5,g5,c5,_,rs5,by omega,by go_num,rfl,SN,zq,nt,LX,qC,bj⟩
     case measure=>simp[intOf];omega
  ·obtain rfl:k=N:=by omega
   have uj:R=some L:=by rw[<-HR.out];exact uY.out
   subst uj;go_wp2_with fail;go_ret2;exact zaO.mk' gO cO rs an.out ak.out ho hb
end
end Go.Proofs.YtlgcmaoimpgedaaGreatDoor

/- ChS Cno Dtd Symh Sym1 Sym2 -/
import Derived.Test.YtlgcmaoimpgedaaGreatDoorT45
set_option maxHeartbeats 4000000
set_option maxRecDepth 100000
set_option linter.unusedSimpArgs false
namespace Go.Proofs.YtlgcmaoimpgedaaGreatDoor
open Go.Value renaming slice->qS
section
open Go.RowKit Game Stb
theorem zhw(gc oc n cc g o m cv:Nat)(c:LL)(v:LI)(l:List Wt)(b:Bool)(w:World)(hn:c.length=n)(hm:v.length=m)(aS:m<=cv)(hS:zbi c v)(dm:ChM c v l b)
 (ah:gc<w.heap.size) (hg:g<w.heap.size) (hr:zal w gc oc c) (hv:zag w g o v):
 Calls Tryz.prog 43 #[(qS (some ⟨gc,oc,none⟩) n cc),(qS (some ⟨g,o,none⟩) m cv)] w (zaO w l b):=by
 have hP:=zcJ hS.fin;have aR:=hS.hC.2.1;obtain⟨W,bW,out0,bO,hW,hO,aY⟩:=dm;have aN:Below w.heap.size w (w.alloc (.cells #[] 36)):=(Below.refl _ _).alloc (qr _) _;have h1:=zow gc oc n cc g o m cv c v W bW (w.alloc (.cells #[] 36)) hn hm aS hS hP hW (qL ah aN.size) (qL hg aN.size) (hr.below aN ah) (hv.below aN hg);have h2:=fun V (hV:Below w.heap.size w V)=>zhn gc oc n cc g o m cv c v V hn hm aS hS (qL ah hV.size) (qL hg hV.size) (hr.below hV ah) (hv.below hV hg)
 subst hn;subst hm;have H1:=qd h1;have H2:=qd h2;have HS:=qd hS;have HP:=qd hP;have HW:=qd hW;have HO:=qd hO;have lW:=qd aY;clear h1 h2 hS hP hW hO aY hv hg
 go_enter Tryz.func43,Tryz.ntmps43
 go_wp2_with fail;refine H1.out.mono ?_;rintro e w1 ⟨gW,cW,rsW,rfl,lT,lX,ad⟩;have dc:=aN.trans (ad.mono aN.size);have iG:zas w1 w.heap.size w.heap.size 0 []:=(zas.empty (w:=w) (qr _)).below ad;have fi:=qd (H2.out w1 dc);clear H1 H2 aN ad;go_wp2_with fail;refine fi.out.mono ?_;rintro e w2 ⟨out,bO2,mN,gM,cM,rsM,rfl,tk,fR,ae⟩;have az:=dc.trans (ae.mono dc.size);obtain⟨Lg,tl⟩:=mN.uniq HS.out HP.out HO.out;subst Lg;have tm:=lX.below ae;have ia:=iG.below ae;have OH:gM≠w.heap.size:=by have h1:=fR.1.base;have h2:=iG.1.lt;omega
 obtain⟨f1,f2,f3,f4⟩:=zof mN;have vB:=zoi f1 f2 aR;have jd:=fR.mono (qz _);have Ac:=qd tk;have EA:=qd mN;have Ad:=qd tl;have Lh:=qd vB;clear fi dc ae lX mN tl vB f1 f2 f4 fR iG
 cases bW with
 |false=>
  have md:l=[]/\b=false:=by
   rcases lW.out with⟨h,-⟩|⟨-,h⟩
   ·cases h
   ·exact h
  obtain⟨rfl,rfl⟩:=md;go_wp2_with fail;go_ret2;exact zaO.mk' _ _ [] rfl rfl ia az
 |true=>
  cases bO2 with
  |false=>
   have md:l=[]/\b=false:=by
    rcases lW.out with⟨-,h,-⟩|⟨-,h⟩
    ·cases h
    ·exact h
   obtain⟨rfl,rfl⟩:=md;go_wp2_with fail;go_ret2;exact zaO.mk' _ _ [] rfl rfl ia az
  |true=>
   have md:l=zfX c W out0/\b=true:=by
    rcases lW.out with⟨-,-,h⟩|⟨h,-⟩
    ·exact h
    ·rcases h with h|h <;> cases h
   obtain⟨rfl,rfl⟩:=md;have hF:=znA HS.out HP.out (f3 rfl) HW.out;have EB:=hF.few;have mT:=qd hF.dom;have wg:rsW.length=W.length:=by rw[<-lT,zac]
   have Li:=qd lT;have Lj:=qd wg;have EV:=tm.mono (qz _);clear hF lW f3 HO HW lT wg tm;go_wp2_with fail;go_loopw [6,11] (fun ov kv wr=>∃(k gO cO:Nat) (rs:List WRef),k<=W.length/\kv= .int .i64 k/\ov=(qS (some ⟨gO,0,none⟩) k cO)/\Hid (rs.length=k)/\Hid (zaz rs=zfX c (W.take k) out)/\zas wr w.heap.size gO cO rs/\zab wr 0 gW cW rsW/\zas wr 0 gM cM rsM/\gM≠gO/\Below w.heap.size w wr) (fun _ kv _=>W.length-(intOf kv).toNat)
   case atStart=>exact⟨0,w.heap.size,0,[],qz _,rfl,rfl,rfl,rfl,ia,EV,jd,OH,az⟩
   case round=>
    clear EV jd az OH ia;obtain⟨k,gO,cO,rs,hk,rfl,rfl,an,ak,ho,lX,fR,ao,hb⟩:=hrel;by_cases ac:k<W.length
    ·have cH:k<rsW.length:=by rw[Lj.out];exact ac
     have hq:wr.cell? ⟨gW,k,none⟩=some (zah rsW[k]):=by
      rw[lX.1.cell k (by simpa using cH)];simp
     have lm:=lX.2.1 _ (List.getElem_mem cH);have e1:=zck cH;rw[Li.out] at e1;have lY:=mT.out _ (zfO ac);have bQ:=zqK c W out ac;rw[e1] at lY bQ;have EC:=qd (fun V (h:zab V 0 gW cW rsW)=>h.2.1 _ (List.getElem_mem cH));have Hq:=qd (fun V (h:zab V 0 gW cW rsW)=>show V.cell? ⟨gW,k,none⟩=some (zah rsW[k]) from by rw[h.1.cell k (by simpa using cH)];simp);generalize rsW[k]=ru at*;obtain⟨bu,cu,u⟩:=ru;dsimp only at lm lY bQ EC;have fp:=lY.len;have eK:wr.cell? ⟨gW,k,none⟩=some (qS (some ⟨bu,0,none⟩) c.length cu):=by rw[<-fp];exact hq
     have OI:Hid (∀V,zab V 0 gW cW rsW->V.cell? ⟨gW,k,none⟩=some (qS (some ⟨bu,0,none⟩) c.length cu)):=qd (fun V hV=>by rw[<-fp];exact Hq.out V hV);have aa:=zea gc oc _ cc bu 0 _ cu c u wr rfl fp lY (qL ah hb.size) lm.lt (hr.below hb ah) lm.cells;have bU:=(zjh lY.hC lY.fin fp (fun j hj=>lY.small j (by omega))).len;have ab:=qd aa;have eS:=qd fp;have fS:=qd bQ;have xe:=qd bU;clear aa fp bQ bU hq lm lY e1 Hq;go_wp2_with fail;refine ab.out.mono ?_;rintro e w3 ⟨g3,c3,g4,c4,rfl,al,-,ag⟩;have ap:=hb.trans (ag.mono hb.size);have jL:=ho.below ag;have mU:=lX.below ag;have oL:=fR.below ag;have nV:=EC.out w3 mU;have ua:=OI.out w3 mU;have EW:=al.lt;have LF:∀o1,(w3.alloc o1).cell? ⟨gW,k,none⟩=some (qS (some ⟨bu,0,none⟩) c.length cu):=fun o1=>OI.out _ (mU.below ((Below.refl _ _).alloc (qr _) _))
     obtain⟨F,hF⟩:∃F,zaC out (zbd c u)=F:=⟨_,rfl⟩;rw[hF] at fS;have HF:=qd hF;clear ab hb ag ho lX fR hF eK;go_wp2_with (at_builtin;refine zaV (w:=w3) rfl _ _ rfl bu 0 _ cu u eS.out nV.lt nV.cells rfl rfl (by rw[eS.out];omega) ?_);intro g9 c9 w9 gX dt;have bk:=ap.trans (dt.mono ap.size);have EX:=jL.below dt;have EY:=mU.below dt;have Ar:=oL.below dt;have db:∀s∈rs,s.1.1≠g9:=fun s hs e=>by have h1:=(jL.ofMem hs).lt;have h2:=gX.base;omega
     have EZ:=gX.mono ap.size;have Fa:=al.below dt EW;have Ae:=Ar.wrows;rw[Ac.out] at Ae;have fT:=ziT gM 0 out.length cM g3 0 c.length c3 out (zbd c u) w9 rfl xe.out Lh.out Ae Fa.cells;rw[HF.out] at fT;have qK:=qd fT;clear ap dt jL mU oL nV ua LF al EW gX Fa Ae fT;go_wp2_with fail;refine qK.out.mono ?_;rintro e w5 ⟨rfl,kX⟩;have bj:=zaf bk kX;have dd:=EX.still kX;have qq:=EY.still kX;have eR:=Ar.still kX;have aD:=EZ.still kX;clear qK kX bk EX EY Ar EZ;go_wp2_with (at_builtin;refine zbj (w:=w5) rfl _ _ rfl w.heap.size gO cO k w5.heap.size g9 c9 c.length rs u F _ an.out eS.out rfl rfl dd aD db rfl rfl (by omega) ?_);intro g6 c6 w6 hY fG dR;have de:=bj.grown fG bj.size (by intro j hj;cases hj;exact dd.1.base);have Af:=qq.besideW dd fG;have oM:=eR.grown fG ao (fun r df e=>dd.ne (eR.ofMem df) e.symm)
     have ip:gM≠g6:=by
      rcases dR with h|h
      ·rw[h];exact ao
      ·have:=eR.1.lt;omega
     clear bj dd qq eR aD fG dR;go_wp2_with fail;go_roundw
     case rel=>
      refine⟨k+1,g6,c6,rs++[((g9,c9,u),F)],by omega,by go_num,rfl,?_,?_,hY,Af,oM,ip,de⟩
      ·show _=_;rw[qA,an.out];rfl
      ·show _=_;rw[fS.out,<-ak.out];simp[zaz]
     case measure=>simp[intOf];omega
    ·obtain rfl:k=W.length:=by omega
     have kZ:=ak.out;rw[qF (qr _),zvm (c:=c) (W:=W) Ad.out] at kZ;have sP:=qd kZ;clear kZ ak lX fR;go_wp2_with fail;go_ret2;exact zaO.mk' gO cO rs an.out sP.out ho hb
end
section
open Go.RowKit Game Stb
theorem zgy(gc oc n cc g o m cv:Nat)(c:LL)(v:LI)(w:World)(hn:c.length=n)(hm:v.length=m)(hx:c.length<=1048576)(eP:v.length<=1048576)(an:∀j,j<c.length->(c.getD j []).length<=1048576)
 (aJ:(zaN c&&decide (Sml c.length v))=false) (ah:gc<w.heap.size) (hg:g<w.heap.size) (hr:zal w gc oc c) (hv:zag w g o v):
 Calls Tryz.prog 74 #[(qS (some ⟨gc,oc,none⟩) n cc),(qS (some ⟨g,o,none⟩) m cv)] w (zaO w [] false):=by
 subst hn;subst hm;have aa:=fun V (hV:Below w.heap.size w V)=>zga gc oc _ cc g o _ cv c v V rfl rfl hx eP an aJ (qL ah hV.size) (qL hg hV.size) (hr.below hV ah) (hv.below hV hg)
 have aN:Below w.heap.size w ((w.alloc (.cells #[(qS (some ⟨gc,oc,none⟩) c.length cc)] 24)).alloc (.cells #[(qS (some ⟨g,o,none⟩) v.length cv)] 25)):=zgu
 have kc0:((w.alloc (.cells #[(qS (some ⟨gc,oc,none⟩) c.length cc)] 24)).alloc (.cells #[(qS (some ⟨g,o,none⟩) v.length cv)] 25)).cell? ⟨w.heap.size,0,none⟩=some (qS (some ⟨gc,oc,none⟩) c.length cc):=by
  have h1:=(zaI.new (w:=w) (B:=w.heap.size) (E:=24) (qS (some ⟨gc,oc,none⟩) c.length cc) rfl (qr _)).cell 0 (by simp);exact(((Below.refl _ _).alloc (qr _) _).cell (p:=⟨w.heap.size,0,none⟩) (by simp)).trans h1
 have kv0:((w.alloc (.cells #[(qS (some ⟨gc,oc,none⟩) c.length cc)] 24)).alloc (.cells #[(qS (some ⟨g,o,none⟩) v.length cv)] 25)).cell? ⟨w.heap.size+1,0,none⟩=some (qS (some ⟨g,o,none⟩) v.length cv):=by
  have h1:=(zaI.new (w:=w.alloc (.cells #[(qS (some ⟨gc,oc,none⟩) c.length cc)] 24)) (B:=0) (E:=25) (qS (some ⟨g,o,none⟩) v.length cv) rfl (qz _)).cell 0 (by simp);have e:(w.alloc (.cells #[(qS (some ⟨gc,oc,none⟩) c.length cc)] 24)).heap.size=w.heap.size+1:=by simp
  rw[e] at h1;exact h1
 have ab:=qd (aa _ aN);clear aa aJ an hr hv
 go_enter Tryz.func74,Tryz.ntmps74
 go_wp2_with fail;obtain⟨w0,ra⟩:∃w0,((w.alloc (.cells #[(qS (some ⟨gc,oc,none⟩) c.length cc)] 24)).alloc (.cells #[(qS (some ⟨g,o,none⟩) v.length cv)] 25))=w0:=⟨_,rfl⟩;rw[ra] at ab aN kc0 kv0 ⊢;clear ra;refine ab.out.mono ?_;rintro e w3 ⟨g3,c3,rs3,rfl,-,-,ag⟩;clear ab;have ap:Below w.heap.size w w3:=aN.trans (ag.mono aN.size);go_wp2_with fail;go_ret2;exact zaO.mk' _ _ [] rfl rfl (zas.empty ap.size) (ap.alloc ap.size _)
theorem zgz(gc oc n cc g o m cv:Nat)(c:LL)(v:LI)(w:World)(hn:c.length=n)(hm:v.length=m)(hx:c.length<=1048576)(eP:v.length<=1048576)(an:∀j,j<c.length->(c.getD j []).length<=1048576)
 (aJ:(zaN c&&decide (Sml c.length v))=false) (ah:gc<w.heap.size) (hg:g<w.heap.size) (hr:zal w gc oc c) (hv:zag w g o v):
 Calls Tryz.prog 88 #[(qS (some ⟨gc,oc,none⟩) n cc),(qS (some ⟨g,o,none⟩) m cv)] w (zaO w [] false):=by
 have aN:Below w.heap.size w (w.alloc (.cells #[] 36)):=(Below.refl _ _).alloc (qr _) _;have aa:=zfZ gc oc n cc g o m cv c v (w.alloc (.cells #[] 36)) hn hm hx eP an aJ (qL ah aN.size) (hr.below aN ah) (hv.below aN hg);have ab:=qd aa;clear aa aJ
 go_enter Tryz.func88,Tryz.ntmps88
 go_wp2_with fail;refine ab.out.mono ?_;rintro e w3 ⟨g3,c3,rs3,rfl,-,-,ag⟩;clear ab;have ap:Below w.heap.size w w3:=aN.trans (ag.mono aN.size);have qw:zas w3 w.heap.size w.heap.size 0 []:=(zas.empty (w:=w) (qr _)).below ag;go_wp2_with fail;go_ret2;exact zaO.mk' _ _ [] rfl rfl qw ap
theorem zkX(gc oc n cc g o m cv:Nat)(c:LL)(v:LI)(w:World)(hn:c.length=n)(hm:v.length=m)(hx:c.length<=1048576)(eP:v.length<=1048576)(an:∀j,j<c.length->(c.getD j []).length<=1048576)
 (aJ:(zaN c&&decide (Sml c.length v))=false) (ah:gc<w.heap.size) (hg:g<w.heap.size) (hr:zal w gc oc c) (hv:zag w g o v):
 Calls Tryz.prog 38 #[(qS (some ⟨gc,oc,none⟩) n cc),(qS (some ⟨g,o,none⟩) m cv)] w (zaO w [] false):=by
 have h1:=zmy gc oc n cc g o m cv c v w hn hm hx eP an aJ ah hg hr hv;have h2:=fun V (hV:Below w.heap.size w V)=>zgy gc oc n cc g o m cv c v V hn hm hx eP an aJ (qL ah hV.size) (qL hg hV.size) (hr.below hV ah) (hv.below hV hg)
 have H1:=qd h1;have H2:=qd h2;clear h1 h2 aJ
 go_enter Tryz.func38,Tryz.ntmps38
 go_wp2_with fail;refine H1.out.mono ?_;rintro e w3 ⟨g3,c3,rs3,rfl,-,-,ag⟩;have fi:=qd (H2.out w3 ag);clear H1 H2;go_wp2_with fail;refine fi.out.mono ?_;rintro e w4 ⟨g4,c4,rs4,rfl,-,-,aM⟩;have aG:=ag.trans (aM.mono ag.size);clear fi;go_wp2_with fail;go_ret2;exact zaO.mk' _ _ [] rfl rfl (zas.empty aG.size) (aG.alloc aG.size _)
theorem zkY(gc oc n cc g o m cv:Nat)(c:LL)(v:LI)(w:World)(hn:c.length=n)(hm:v.length=m)(hx:c.length<=1048576)(eP:v.length<=1048576)(an:∀j,j<c.length->(c.getD j []).length<=1048576)
 (aJ:(zaN c&&decide (Sml c.length v))=false) (ah:gc<w.heap.size) (hg:g<w.heap.size) (hr:zal w gc oc c) (hv:zag w g o v):
 Calls Tryz.prog 43 #[(qS (some ⟨gc,oc,none⟩) n cc),(qS (some ⟨g,o,none⟩) m cv)] w (zaO w [] false):=by
 have aN:Below w.heap.size w (w.alloc (.cells #[] 36)):=(Below.refl _ _).alloc (qr _) _;have h1:=zmx gc oc n cc g o m cv c v (w.alloc (.cells #[] 36)) hn hm hx eP an aJ (qL ah aN.size) (hr.below aN ah) (hv.below aN hg);have h2:=fun V (hV:Below w.heap.size w V)=>zgz gc oc n cc g o m cv c v V hn hm hx eP an aJ (qL ah hV.size) (qL hg hV.size) (hr.below hV ah) (hv.below hV hg)
 have H1:=qd h1;have H2:=qd h2;clear h1 h2 aJ
 go_enter Tryz.func43,Tryz.ntmps43
 go_wp2_with fail;refine H1.out.mono ?_;rintro e w3 ⟨g3,c3,rs3,rfl,-,-,ag⟩;have ap:Below w.heap.size w w3:=aN.trans (ag.mono aN.size);have qw:zas w3 w.heap.size w.heap.size 0 []:=(zas.empty (w:=w) (qr _)).below ag;have fi:=qd (H2.out w3 ap);clear H1 H2 ag;go_wp2_with fail;refine fi.out.mono ?_;rintro e w4 ⟨g4,c4,rs4,rfl,-,-,aM⟩;have aG:=ap.trans (aM.mono ap.size);have vR:=qw.below aM;clear fi;go_wp2_with fail;go_ret2;exact zaO.mk' _ _ [] rfl rfl vR aG
end
section
open Go.RowKit Game
def zim(w:World)(c:LL)(v:LI)(e:Ending)(w':World):Prop:=
 ∃g1 c1,e= .returned (.tuple #[(qS (some ⟨g1,0,none⟩) ((zdD c v).1.length) c1),.int .i64 (zdD c v).2,.bool true])/\Own w' w.heap.size g1 c1 (zdD c v).1/\Below w.heap.size w w'
theorem zim.mk'{w w':World}{c:LL}{v x:LI}{s:Int}{n:Nat}(g1 c1:Nat)(h:zdD c v=(x,s))(hn:x.length=n)(ho:Own w' w.heap.size g1 c1 x)(hb:Below w.heap.size w w'):zim w c v (.returned (.tuple #[(qS (some ⟨g1,0,none⟩) n c1),.int .i64 s,.bool true])) w':=by
 subst hn;exact⟨g1,c1,by rw[h],by rw[h];exact ho,hb⟩
theorem zmz(gc oc n cc g o cv:Nat)(c:LL)(v:LI)(w:World)(hn:c.length=n)(hD:zru c v)
 (ah:gc<w.heap.size) (hg:g<w.heap.size) (hr:zal w gc oc c) (hv:zag w g o v):
 Calls Tryz.prog 40 #[(qS (some ⟨gc,oc,none⟩) n cc),(qS (some ⟨g,o,none⟩) n cv)] w (zim w c v):=by
 subst hn;have hC:=hD.wt.1;have aR:=hC.2.1;have dq:=hD.wt.2.1;have bD:=hC.2.2.1;have HK:=ziv gc oc _ cc g o _ cv c v w rfl dq (by omega) (by omega) (fun j hj=>by rw[bD j hj];omega) hr hv;rw[decide_eq_true hD.wt] at HK;have HK:=qd HK;have HO:=qd (fun W'=>zmc c.length W' (by omega));have HP:=qd (fun g3 c3 W' (hB:Below w.heap.size w W') (ac:g3<W'.heap.size) (ho:zag W' g3 0 (zax c.length))=>zeb g o c.length cv g3 0 c3 v (zax c.length) W' dq (zda _) (by omega) (qL hg hB.size) ac (hv.below hB hg) ho);have bP:(addTo v (zax c.length) c.length)=zbz c.length v:=rfl;rw[bP] at HP;have HT:=qd (fun g3 c3 W' (hB:Below w.heap.size w W') (ac:g3<W'.heap.size) (ho:zag W' g3 0 (zbz c.length v))=>zhu gc oc c.length cc g3 0 c.length c3 c (zbz c.length v) W' rfl (zeU _ _) hD.dom (qL ah hB.size) ac (hr.below hB ah) ho);have HR:=qd (fun g3 c3 W' (ac:g3<W'.heap.size) (ho:zag W' g3 0 (zbd c (zbz c.length v)))=>zpn g3 0 c.length c3 (zbd c (zbz c.length v)) W' hD.len aR hD.box ac ho);have HS:=qd (fun g3 c3 W'=>zqD g3 0 (zcv c (zbz c.length v)).length c3 (zae (zcv c (zbz c.length v))) W' (zai _));have HW:=qd (fun k hk h0=>zsk (c:=c) (v:=v) (k:=k) hk h0);have HI:=qd (fun h=>zxu (c:=c) (v:=v) h);have fE:=qd (zeU c.length v);have eo:=qd hD.len;have fH:Hid ((zaS (zbd c (zbz c.length v)) (zax c.length) (-1)).length=c.length):=qd (by rw[zcU,hD.len]);clear hD bP hC bD dq
 go_enter Tryz.func40,Tryz.ntmps40
 go_wp2_with fail;refine HK.out.mono ?_;rintro e w1 ⟨rfl,bh⟩;have dc:=zaf (Below.refl w.heap.size w) bh;clear bh;go_wp2_with fail;refine(HO.out w1).mono ?_;rintro e w2 ⟨g3,c3,rfl,al,ae⟩;rw[zda];have az:=dc.trans (ae.mono dc.size);go_wp2_with fail;refine(HP.out g3 c3 w2 az al.lt al.cells).mono ?_;rintro e w3 ⟨g4,c4,rfl,aw,ag⟩;rw[fE.out];have ap:=az.trans (ag.mono az.size);clear al ae ag;go_wp2_with fail;refine(HT.out g4 c4 w3 ap aw.lt aw.cells).mono ?_;rintro e w4 ⟨g5,c5,g6,c6,rfl,aD,aO,aM⟩;have aG:=ap.trans (aM.mono ap.size);have aD:=aD.mono ap.size;have aO:=aO.mono ap.size;clear aw aM HK HO HP HT dc az ap;generalize zbd c (zbz c.length v)=x at*;generalize zcv c (zbz c.length v)=W at*;go_wp2_with fail;go_loopw [33] (fun kv wr=>∃k:Nat,k<=c.length/\kv= .int .i64 k/\Hid (∀j,j<k->x.getD j 0≠0)/\Own wr w.heap.size g5 c5 x/\Own wr w.heap.size g6 c6 (zae W)/\Below w.heap.size w wr) (fun kv _=>c.length-(intOf kv).toNat)
 case atStart=>exact⟨0,qz _,rfl,qd (fun j hj=>absurd hj (Nat.not_lt_zero j)),aD,aO,aG⟩
 case round=>
  clear aD aO aG;obtain⟨k,hk,rfl,As,ho,aO,hb⟩:=hrel;by_cases ac:k<c.length
  ·have q1:=ho.cell k (by rw[eo.out];exact ac);by_cases hz:x.getD k 0=0
   ·have mV:=HW.out k (by rw[eo.out];exact ac) hz;rw[hz] at q1;have tw:=qd mV;clear mV hz;go_wp2_with fail;go_ret3;exact zim.mk' _ _ tw.out rfl (Own.empty (qt hb.size (by simp[World.alloc]))) (hb.alloc hb.size _)
   ·have LG:Hid (∀j,j<k+1->x.getD j 0≠0):=qd (fun j hj=>by
     by_cases e:j=k
     ·subst e;exact hz
     ·exact As.out j (by omega))
    generalize x.getD k 0=y at*;have hy:decide (y=0)=false:=decide_eq_false hz;have Bu:(y==0)=false:=by simpa using hz
    go_wp2_with fail;go_roundw
    case rel=>exact⟨k+1,by omega,by go_num,LG,ho,aO,hb⟩
    case measure=>simp[intOf];omega
  ·obtain rfl:k=c.length:=by omega
   have mV:=HI.out (fun j hj=>As.out j (by rw[eo.out] at hj;exact hj));have tw:=qd mV;clear mV HI HW As;go_wp2_with fail;refine(HR.out g5 c5 wr ho.lt ho.cells).mono ?_;rintro e w5 ⟨g7,c7,rfl,bY,aQ⟩;rw[fH.out];have bj:=hb.trans (aQ.mono hb.size);have bY:=bY.mono hb.size;clear HR aQ ho;go_wp2_with fail;refine(HS.out g6 c6 w5).mono ?_;rintro e w6 ⟨rfl,fX⟩;have bJ:=zaf (Below.refl w5.heap.size w5) fX;have de:=bj.trans (bJ.mono bj.size);have Au:=bY.below bJ bY.lt;clear HS fX bJ bY;go_wp2_with fail;go_ret3;exact zim.mk' g7 c7 tw.out fH.out Au de
theorem zmA(gc oc n cc g o cv:Nat)(c:LL)(v:LI)(w:World)(hn:c.length=n)(hD:zru c v)
 (ah:gc<w.heap.size) (hg:g<w.heap.size) (hr:zal w gc oc c) (hv:zag w g o v):
 Calls Tryz.prog 45 #[(qS (some ⟨gc,oc,none⟩) n cc),(qS (some ⟨g,o,none⟩) n cv)] w (zim w c v):=by
 subst hn;have hC:=hD.wt.1;have aR:=hC.2.1;have dq:=hD.wt.2.1;have bD:=hC.2.2.1;have an:∀j,j<c.length->(c.getD j []).length<=1048576:=fun j hj=>by rw[bD j hj];omega
 have HK:=ziw gc oc _ cc g o _ cv c v w rfl dq (by omega) (by omega) an hr hv;rw[decide_eq_true hD.wt] at HK;have HK:=qd HK;have HF:=fun W' (hB:Below w.heap.size w W')=>zcE gc oc c.length cc c W' rfl (by omega) an (qL ah hB.size) (hr.below hB ah)
 rw[hD.dom.fin] at HF;have HF:=qd HF;have HO:=qd (fun W' (hB:Below w.heap.size w W')=>zsI gc oc c.length cc c W' rfl hC (qL ah hB.size) (hr.below hB ah));have HP:=qd (fun g3 c3 W' (hB:Below w.heap.size w W') (ac:g3<W'.heap.size) (ho:zag W' g3 0 (zax c.length))=>zhr g o c.length cv g3 0 c3 v (zax c.length) W' dq (zda _) (by omega) (qL hg hB.size) ac (hv.below hB hg) ho);have bP:(addTo v (zax c.length) c.length)=zbz c.length v:=rfl;rw[bP] at HP;have HT:=qd (fun g3 c3 W' (hB:Below w.heap.size w W') (ac:g3<W'.heap.size) (ho:zag W' g3 0 (zbz c.length v))=>zea gc oc c.length cc g3 0 c.length c3 c (zbz c.length v) W' rfl (zeU _ _) hD.dom (qL ah hB.size) ac (hr.below hB ah) ho);have HR:=qd (fun g3 c3 g4 c4 W' (ac:g3<W'.heap.size) (vD:g4<W'.heap.size) (ho:zag W' g3 0 (zbd c (zbz c.length v))) (aw:zag W' g4 0 (zax c.length))=>zgh g3 0 c.length c3 g4 0 c4 (zbd c (zbz c.length v)) (zax c.length) (-1) W' hD.len (zda _) (by omega) (fun j hj=>by have:=hD.box j hj;omega) (fun j hj=>by simp[zax,List.getD,hj]) (by omega) ac vD ho aw);have HS:=qd (fun g3 c3 W'=>zqE g3 0 (zcv c (zbz c.length v)).length c3 (zae (zcv c (zbz c.length v))) W' (zai _));have HW:=qd (fun k hk h0=>zsk (c:=c) (v:=v) (k:=k) hk h0);have HI:=qd (fun h=>zxu (c:=c) (v:=v) h);have fE:=qd (zeU c.length v);have eo:=qd hD.len;have fH:Hid ((zaS (zbd c (zbz c.length v)) (zax c.length) (-1)).length=c.length):=qd (by rw[zcU,hD.len]);clear hD bP hC bD dq an
 go_enter Tryz.func45,Tryz.ntmps45
 go_wp2_with fail;refine HK.out.mono ?_;rintro e w0 ⟨rfl,bh⟩;have pM:=zaf (Below.refl w.heap.size w) bh;clear bh;go_wp2_with fail;refine(HF.out w0 pM).mono ?_;rintro e w1 ⟨rfl,ad⟩;have dc:=pM.trans (ad.mono pM.size);clear ad pM;go_wp2_with fail;refine(HO.out w1 dc).mono ?_;rintro e w2 ⟨g3,c3,rfl,al,ae⟩;rw[zda];have az:=dc.trans (ae.mono dc.size);go_wp2_with fail;refine(HP.out g3 c3 w2 az al.lt al.cells).mono ?_;rintro e w3 ⟨g4,c4,rfl,aw,ag⟩;rw[fE.out];have ap:=az.trans (ag.mono az.size);clear al ae ag;go_wp2_with fail;refine(HT.out g4 c4 w3 ap aw.lt aw.cells).mono ?_;rintro e w4 ⟨g5,c5,g6,c6,rfl,aD,aO,aM⟩;have aG:=ap.trans (aM.mono ap.size);have aD:=aD.mono ap.size;have aO:=aO.mono ap.size;clear aw aM HK HP HT HF dc az ap;generalize zbd c (zbz c.length v)=x at*;generalize zcv c (zbz c.length v)=W at*;go_wp2_with fail;go_loopw [10] (fun kv wr=>∃k:Nat,k<=c.length/\kv= .int .i64 k/\Hid (∀j,j<k->x.getD j 0≠0)/\Own wr w.heap.size g5 c5 x/\Own wr w.heap.size g6 c6 (zae W)/\Below w.heap.size w wr) (fun kv _=>c.length-(intOf kv).toNat)
 case atStart=>exact⟨0,qz _,rfl,qd (fun j hj=>absurd hj (Nat.not_lt_zero j)),aD,aO,aG⟩
 case round=>
  clear aD aO aG;obtain⟨k,hk,rfl,As,ho,aO,hb⟩:=hrel;by_cases ac:k<c.length
  ·have q1:=ho.cell k (by rw[eo.out];exact ac);by_cases hz:x.getD k 0=0
   ·have mV:=HW.out k (by rw[eo.out];exact ac) hz;rw[hz] at q1;have tw:=qd mV;clear mV hz;go_wp2_with fail;go_ret3;exact zim.mk' _ _ tw.out rfl (Own.empty (qt hb.size (by simp[World.alloc]))) (hb.alloc hb.size _)
   ·have LG:Hid (∀j,j<k+1->x.getD j 0≠0):=qd (fun j hj=>by
     by_cases e:j=k
     ·subst e;exact hz
     ·exact As.out j (by omega))
    generalize x.getD k 0=y at*;have hy:decide (y=0)=false:=decide_eq_false hz;have Bu:(y==0)=false:=by simpa using hz
    go_wp2_with fail;go_roundw
    case rel=>exact⟨k+1,by omega,by go_num,LG,ho,aO,hb⟩
    case measure=>simp[intOf];omega
  ·obtain rfl:k=c.length:=by omega
   have mV:=HI.out (fun j hj=>As.out j (by rw[eo.out] at hj;exact hj));have tw:=qd mV;clear mV HI HW As;go_wp2_with fail;refine(HO.out wr hb).mono ?_;rintro e w5 ⟨g8,c8,rfl,cI,aQ⟩;rw[zda];have bj:=hb.trans (aQ.mono hb.size);have LH:=ho.below aQ ho.lt;have SC:=aO.below aQ aO.lt;clear ho aQ aO;go_wp2_with fail;refine(HR.out g5 c5 g8 c8 w5 LH.lt cI.lt LH.cells cI.cells).mono ?_;rintro e w6 ⟨g7,c7,rfl,bY,bJ⟩;rw[fH.out];have de:=bj.trans (bJ.mono bj.size);have bY:=bY.mono bj.size;clear HR bJ LH;go_wp2_with fail;refine(HS.out g6 c6 w6).mono ?_;rintro e w7 ⟨rfl,Ag⟩;have dA:=zaf (Below.refl w6.heap.size w6) Ag;have iy:=de.trans (dA.mono de.size);have Au:=bY.below dA bY.lt;clear HS Ag dA bY;go_wp2_with fail;go_ret3;exact zim.mk' g7 c7 tw.out fH.out Au iy
end
section
open Go.RowKit Game Stb
open Go.Sort (grow SWO)
theorem SSt.two{w W:World}{B G cap N:Nat}{d:Nat->zaH}(h:SSt w W B G cap N d){i j:Nat}(hi:i<N)(hj:j<N):∃x y:zaH,Hid (d i=x)/\Hid (d j=y)/\
 (∀n os,(grow (W.drewN n) os).cell? ⟨G,i*2,none⟩=some (qS (some ⟨x.g,x.o,none⟩) x.n x.c))/\(∀n os,(grow (W.drewN n) os).cell? ⟨G,i*2+1,none⟩=some (.int .i64 x.ct))/\
 (∀n os,(grow (W.drewN n) os).cell? ⟨G,j*2,none⟩=some (qS (some ⟨y.g,y.o,none⟩) y.n y.c))/\(∀n os,(grow (W.drewN n) os).cell? ⟨G,j*2+1,none⟩=some (.int .i64 y.ct))/\
 (∀n os,Calls Tryz.prog 82 #[.agg #[(qS (some ⟨x.g,x.o,none⟩) x.n x.c),.int .i64 x.ct],.agg #[(qS (some ⟨y.g,y.o,none⟩) y.n y.c),.int .i64 y.ct]] (grow (W.drewN n) os) fun e w'=>e= .returned (.int .i64 (cfW (d i) (d j)))/\∃q os',w'=grow ((grow (W.drewN n) os).drewN q) os'):=
 ⟨d i,d j,rfl,rfl,fun n os=>(h.cellsC hi n os).1,fun n os=>(h.cellsC hi n os).2,fun n os=>(h.cellsC hj n os).1,fun n os=>(h.cellsC hj n os).2,h.cmpC hi hj⟩
theorem SSt.exch{w W:World}{B G cap N:Nat}{d:Nat->zaH}(h:SSt w W B G cap N d){i j:Nat}(hi:i<N)(hj:j<N)(ao:i≠j):∃x y:zaH,
 W.cell? ⟨G,i*2,none⟩=some (qS (some ⟨x.g,x.o,none⟩) x.n x.c)/\W.cell? ⟨G,i*2+1,none⟩=some (.int .i64 x.ct)/\W.cell? ⟨G,j*2,none⟩=some (qS (some ⟨y.g,y.o,none⟩) y.n y.c)/\W.cell? ⟨G,j*2+1,none⟩=some (.int .i64 y.ct)/\
 W.frozen? ⟨G,i*2,none⟩=false/\W.frozen? ⟨G,i*2+1,none⟩=false/\
 ((W.setCell ⟨G,i*2,none⟩ (qS (some ⟨y.g,y.o,none⟩) y.n y.c)).setCell ⟨G,i*2+1,none⟩ (.int .i64 y.ct)).frozen? ⟨G,j*2,none⟩=false/\((W.setCell ⟨G,i*2,none⟩ (qS (some ⟨y.g,y.o,none⟩) y.n y.c)).setCell ⟨G,i*2+1,none⟩ (.int .i64 y.ct)).frozen? ⟨G,j*2+1,none⟩=false/\
 ((W.setCell ⟨G,i*2,none⟩ (qS (some ⟨y.g,y.o,none⟩) y.n y.c)).setCell ⟨G,i*2+1,none⟩ (.int .i64 y.ct)).cell? ⟨G,j*2,none⟩=some (qS (some ⟨y.g,y.o,none⟩) y.n y.c)/\((W.setCell ⟨G,i*2,none⟩ (qS (some ⟨y.g,y.o,none⟩) y.n y.c)).setCell ⟨G,i*2+1,none⟩ (.int .i64 y.ct)).cell? ⟨G,j*2+1,none⟩=some (.int .i64 y.ct)/\
 Hid (SSt w (((((W.setCell ⟨G,i*2,none⟩ (qS (some ⟨y.g,y.o,none⟩) y.n y.c)).setCell ⟨G,i*2+1,none⟩ (.int .i64 y.ct)).setCell ⟨G,j*2,none⟩ (qS (some ⟨x.g,x.o,none⟩) x.n x.c)).setCell ⟨G,j*2+1,none⟩ (.int .i64 x.ct)).drew) B G cap N (swp d i j)):=by
 obtain⟨f1,f2,k3,k4⟩:=h.swapF hi hj ao (d j);obtain⟨c1,c2⟩:=h.cells hi;obtain⟨c3,c4⟩:=h.cells hj;exact⟨d i,d j,c1,c2,c3,c4,f1 _,f1 _,f2 _,f2 _,k3,k4,(h.swap hi hj).drew⟩
end
section
open Go.RowKit Game Stb
open Go.Sort (grow SWO)
theorem zIY(B G cap N:Nat)(hN:N<=1048576)(a m b:Nat)(d:Nat->zaH)(w:World)(jc:a<m)(kt:m<b)(hb:b<=N)(S:SSt w w B G cap N d)(hl:Srt ltW d a m)(hr:Srt ltW d m b)(e1:m=a+1):
 Calls Tryz.prog 174 #[(qS (some ⟨G,0,none⟩) N cap),.int .i64 a,.int .i64 m,.int .i64 b,.func (.func 82) #[] #[]] w fun e w'=>e= .returned (.tuple #[])/\∃d',SSt w w' B G cap N d'/\Srt ltW d' a b/\Res N a b d d':=by
 have S0:=qd S;have HL:=qd hl;have HR:=qd hr;have mixed:Tryz.prog.follows .mixedOrders=true:=by kernel_rfl
 clear S hl hr
 go_enter Tryz.func174,Tryz.ntmps174
 have E1:=qd e1;have t1':(m:Int)-(a:Int)=1:=by omega
 clear e1;go_wp2_with fail;go_loopg [10,11] (b-m) (fun gk iv jv wr=>∃i j:Nat,m<=i/\i<=j/\j<=b/\j-i<=gk/\iv= .int .i64 i/\jv= .int .i64 j/\Hid (i=m∨ltW (d (i-1)) (d a)=true)/\Hid (j=b∨ltW (d j) (d a)=false)/\Hid (SSt w wr B G cap N d))
 case atStart=>exact⟨m,b,qr _,by omega,qr _,qr _,rfl,rfl,qd (.inl rfl),qd (.inl rfl),S0⟩
 case round=>
  clear S0 t1';obtain⟨i,j,hi,iP,hj,hg,rfl,rfl,ms,oG,S⟩:=hrel;by_cases ac:i<j
  ·have fA:(i:Int)<(j:Int):=by omega
   obtain⟨h,hh⟩:∃h,h=(i+j) / 2:=⟨_,rfl⟩;have eh:((i:Int)+(j:Int)) / 2=(h:Int):=by omega
   have bh1:i<=h:=by omega
   have bh2:h<j:=by omega
   clear hh;have b1:(h:Int)<(N:Int):=by omega
   have b2:(a:Int)<(N:Int):=by omega
   obtain⟨x,y,-,-,c1,c2,c3,c4,Ub⟩:=S.out.two (i:=h) (j:=a) (by omega) (by omega);have CLS:=qd S.out.cls;have LT:=qd (show ltW (d (h)) (d (a))=decide (cfW (d (h)) (d (a))<0) from rfl);generalize cfW (d (h)) (d (a))=z at*;by_cases fB:z<0
   ·have HN:=qd (show ltW (d h) (d a)=true from by rw[LT.out];exact decide_eq_true fB);clear LT;have fI:(!decide (z<0))=false:=by simp[fB]
    go_wp2_with fail
    go_quiet_grown (exact Calls.grown_of (Ub _ _))
    have HS:=qd (CLS.out nq osq);clear c1 c2 c3 c4 Ub CLS S;go_wp2_with fail
    go_roundg (j-(h+1))
    case measure=>omega
    case rel=>exact⟨h+1,j,by omega,by omega,hj,qr _,by go_num,rfl,qd (.inr (by rw[Nat.add_sub_cancel];exact HN.out)),oG,HS⟩
   ·have HN:=qd (show ltW (d h) (d a)=false from by rw[LT.out];exact decide_eq_false fB);clear LT;have fI:(!decide (z<0))=true:=by simp[fB]
    go_wp2_with fail
    go_quiet_grown (exact Calls.grown_of (Ub _ _))
    have HS:=qd (CLS.out nq osq);clear c1 c2 c3 c4 Ub CLS S;go_wp2_with fail
    go_roundg (h-i)
    case measure=>omega
    case rel=>exact⟨i,h,hi,bh1,by omega,qr _,rfl,rfl,ms,qd (.inr HN.out),HS⟩
  ·obtain rfl:i=j:=by omega
   have HF:=qd (zvr zrs (N:=N) (d:=d) (a:=a) (b:=b) (i:=i) (by rw[<-E1.out];exact HR.out) (by rw[<-E1.out];exact hi) hj hb (by rw[<-E1.out];exact ms.out) oG.out);have H0:=qd (zcF d (s:=a) (m:=a+1) (e:=a+1) (by omega) (qr _) (.inr rfl));obtain⟨q,hq⟩:∃q,q+1=i:=⟨i-1,by omega⟩;have Hq:=qd hq;have eq1:(i:Int)-1=(q:Int):=by omega
   have GH:a<=q:=by omega
   have CS:q<i:=by omega
   clear ms oG HL HR hq;go_wp2_with fail;go_loopw [13] (fun kv wr=>∃k:Nat,a<=k/\k<=q/\kv= .int .i64 k/\Hid (SSt w wr B G cap N (rot d a (a+1) (k+1)))) (fun kv _=>q-(intOf kv).toNat)
   case atStart=>exact⟨a,qr _,GH,rfl,by rw[H0.out];exact S⟩
   case round=>
    clear S H0;obtain⟨k,pe,ma,rfl,S⟩:=hrel;by_cases xq:k<q
    ·have Bm:(k:Int)<(q:Int):=by omega
     have wk:IntKind.i64.wrap ((k:Int)+1)=(k:Int)+1:=IntWalk.i64_in _ ⟨by omega,by omega⟩;have b1:(0:Int)<=(k:Int)+1:=by omega
     have b2:(k:Int)+1<(N:Int):=by omega
     have b3:(k:Int)<(N:Int):=by omega
     have b4:((k:Int)+1).toNat=k+1:=by omega
     obtain⟨x,y,c1,c2,c3,c4,g1,g2,g3,g4,k3,k4,HS⟩:=S.out.exch (i:=k) (j:=k+1) (by omega) (by omega) (by omega);rw[zGJ d pe] at HS;clear S;go_wp2_with fail
     go_region
     go_wp2_with fail;go_roundw
     case rel=>exact⟨k+1,by omega,by omega,by go_num,HS⟩
     case measure=>simp[intOf];omega
    ·obtain rfl:k=q:=by omega
     go_wp2_with fail
     (try simp only[Exit.inBlock,Exit.then])
     refine bodyPost_ret (results_none rfl _ _ _) rfl ?_;rw[Hq.out] at S;exact⟨rfl,_,S.out,HF.out.1,HF.out.2⟩
end
section
open Go.RowKit Game Stb
open Go.Sort (grow SWO)
theorem zIZ(B G cap N:Nat)(hN:N<=1048576)(a m b:Nat)(d:Nat->zaH)(w:World)(jc:a<m)(kt:m<b)(hb:b<=N)(S:SSt w w B G cap N d)(hl:Srt ltW d a m)(hr:Srt ltW d m b)(e1:¬m=a+1)(e2:b=m+1):
 Calls Tryz.prog 174 #[(qS (some ⟨G,0,none⟩) N cap),.int .i64 a,.int .i64 m,.int .i64 b,.func (.func 82) #[] #[]] w fun e w'=>e= .returned (.tuple #[])/\∃d',SSt w w' B G cap N d'/\Srt ltW d' a b/\Res N a b d d':=by
 have S0:=qd S;have HL:=qd hl;have HR:=qd hr;have mixed:Tryz.prog.follows .mixedOrders=true:=by kernel_rfl
 clear S hl hr
 go_enter Tryz.func174,Tryz.ntmps174
 have t1':¬(m:Int)-(a:Int)=1:=by omega
 have E2:=qd e2;have DY:m+1<=N:=by omega
 have t2':(b:Int)-(m:Int)=1:=by omega
 clear e2;go_wp2_with fail;generalize ((m:Int)-(a:Int)==1)=bb1;generalize ((b:Int)-(m:Int)==1)=bb2;go_loopg [14,15] (m-a) (fun gk iv jv wr=>∃i j:Nat,a<=i/\i<=j/\j<=m/\j-i<=gk/\iv= .int .i64 i/\jv= .int .i64 j/\Hid (i=a∨ltW (d m) (d (i-1))=false)/\Hid (j=m∨ltW (d m) (d j)=true)/\Hid (SSt w wr B G cap N d))
 case atStart=>exact⟨a,m,qr _,by omega,qr _,qr _,rfl,rfl,qd (.inl rfl),qd (.inl rfl),S0⟩
 case round=>
  clear S0 t1' t2';obtain⟨i,j,hi,iP,hj,hg,rfl,rfl,ms,oG,S⟩:=hrel;by_cases ac:i<j
  ·have fA:(i:Int)<(j:Int):=by omega
   obtain⟨h,hh⟩:∃h,h=(i+j) / 2:=⟨_,rfl⟩;have eh:((i:Int)+(j:Int)) / 2=(h:Int):=by omega
   have bh1:i<=h:=by omega
   have bh2:h<j:=by omega
   clear hh;have b1:(h:Int)<(N:Int):=by omega
   have b2:(m:Int)<(N:Int):=by omega
   obtain⟨x,y,-,-,c1,c2,c3,c4,Ub⟩:=S.out.two (i:=m) (j:=h) (by omega) (by omega);have CLS:=qd S.out.cls;have LT:=qd (show ltW (d (m)) (d (h))=decide (cfW (d (m)) (d (h))<0) from rfl);generalize cfW (d (m)) (d (h))=z at*;by_cases fB:z<0
   ·have HN:=qd (show ltW (d m) (d h)=true from by rw[LT.out];exact decide_eq_true fB);clear LT;have fI:(!decide (z<0))=false:=by simp[fB]
    go_wp2_with fail
    go_quiet_grown (exact Calls.grown_of (Ub _ _))
    have HS:=qd (CLS.out nq osq);clear c1 c2 c3 c4 Ub CLS S;go_wp2_with fail
    go_roundg (h-i)
    case measure=>omega
    case rel=>exact⟨i,h,hi,bh1,by omega,qr _,rfl,rfl,ms,qd (.inr HN.out),HS⟩
   ·have HN:=qd (show ltW (d m) (d h)=false from by rw[LT.out];exact decide_eq_false fB);clear LT;have fI:(!decide (z<0))=true:=by simp[fB]
    go_wp2_with fail
    go_quiet_grown (exact Calls.grown_of (Ub _ _))
    have HS:=qd (CLS.out nq osq);clear c1 c2 c3 c4 Ub CLS S;go_wp2_with fail
    go_roundg (j-(h+1))
    case measure=>omega
    case rel=>exact⟨h+1,j,by omega,by omega,hj,qr _,by go_num,rfl,qd (.inr (by rw[Nat.add_sub_cancel];exact HN.out)),oG,HS⟩
  ·obtain rfl:i=j:=by omega
   have HF:=qd (zsn zrs (N:=N) (d:=d) (a:=a) (m:=m) (i:=i) HL.out hi hj (by omega) ms.out oG.out);have H0:=qd (zcF d (s:=m) (m:=m) (e:=m+1) (qr _) (by omega) (.inl rfl));clear ms oG HL HR;go_wp2_with fail;go_loopg [17] (m-i) (fun gk kv wr=>∃k:Nat,i<=k/\k<=m/\k-i<=gk/\kv= .int .i64 k/\Hid (SSt w wr B G cap N (rot d k m (m+1))))
   case atStart=>exact⟨m,hj,qr _,qr _,rfl,by rw[H0.out];exact S⟩
   case round=>
    clear S H0;obtain⟨k,pe,ma,aP,rfl,S⟩:=hrel;by_cases xq:i<k
    ·obtain⟨kp,rfl⟩:∃kp,k=kp+1:=⟨k-1,by omega⟩;have Bm:(i:Int)<(kp:Int)+1:=by omega
     have wk:IntKind.i64.wrap (kp:Int)=(kp:Int):=IntWalk.i64_in _ ⟨by omega,by omega⟩;have b1:(0:Int)<=(kp:Int)+1:=by omega
     have b2:(kp:Int)+1<(N:Int):=by omega
     have b3:(kp:Int)<(N:Int):=by omega
     have b4:((kp:Int)+1).toNat=kp+1:=by omega
     obtain⟨x,y,c1,c2,c3,c4,g1,g2,g3,g4,k3,k4,HS⟩:=S.out.exch (i:=kp+1) (j:=kp) (by omega) (by omega) (by omega);rw[zGK d ma] at HS;clear S;go_wp2_with fail
     go_region
     go_wp2_with fail
     go_roundg (kp-i)
     case rel=>exact⟨kp,by omega,by omega,qr _,by go_num,HS⟩
     case measure=>omega
    ·obtain rfl:k=i:=by omega
     go_wp2_with fail
     (try simp only[Exit.inBlock,Exit.then])
     refine bodyPost_ret (results_none rfl _ _ _) rfl ?_;exact⟨rfl,_,S.out,by rw[E2.out];exact HF.out.1,by rw[E2.out];exact HF.out.2⟩
end
end Go.Proofs.YtlgcmaoimpgedaaGreatDoor

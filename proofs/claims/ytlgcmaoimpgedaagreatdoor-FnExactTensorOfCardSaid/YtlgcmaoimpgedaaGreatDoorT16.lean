/- IsoC Cpy TyS Got TyS2 TyI2 FmtS Strs -/
import Derived.Test.YtlgcmaoimpgedaaGreatDoorT15
import Derived.Lib.Join
import Derived.Lib.ItoaLen
import Derived.Laws.Concat
import Derived.Laws.BytesString
set_option maxHeartbeats 2000000
set_option maxRecDepth 100000
set_option linter.unusedSimpArgs false
namespace Go.Proofs.YtlgcmaoimpgedaaGreatDoor
open Go.Value renaming slice->qS
section
open Go.RowKit
def zhD(a b:LL):LI:=((zfb a b).map zae).getD []
theorem zJr{c:LL}{n:Nat}(hn:c.length=n)(hC:IsC c):SqN n c:=⟨hn,fun k hk=>by rw[hC.2.2.1 k (by omega)];exact hn⟩
theorem zkK(ga oa na ca gb ob nb cb:Nat)(a b:LL)(w:World)(lR:a.length=na)(fI:b.length=nb)(ha:IsC a)(hb:IsC b)(li:ga<w.heap.size)(oZ:gb<w.heap.size)(jW:zal w ga oa a)(jj:zal w gb ob b):
 Calls Tryz.prog 240 #[(qS (some ⟨ga,oa,none⟩) na ca),(qS (some ⟨gb,ob,none⟩) nb cb)] w (zbl w (zhD a b) (zdm a b)):=by
 have yq:=zbD ga oa na ca a w lR (by have:=ha.2.1;omega) (fun j hj=>by have:=ha.2.2.1 j hj;have:=ha.2.1;omega) jW;have yr:=fun W (hW:∃q,W=w.drewN q)=>zbD gb ob nb cb b W fI (by have:=hb.2.1;omega) (fun j hj=>by have:=hb.2.2.1 j hj;have:=hb.2.1;omega) (jj.still hW)
 rw[decide_eq_true ha] at yq;rw[decide_eq_true hb] at yr;have uP:=qd yq;have uQ:=qd yr;clear yq yr;by_cases hl:na=nb
 ·subst hl;have aR:na<=4:=by have:=ha.2.1;omega
  have HO:=qd (fun W=>zpf na W aR);have PR:=qd ha;have MC:=qd hb;have PS:=qd lR;have Co:=qd fI;have Ge:=qd jW;have Gf:=qd jj;have PT:=ztR (n:=na) (i:=na) aR (qr _);have pF:Hid (∀k,k<(zbP na na).length->((zbP na na).getD k []).length=na/\((zbP na na).getD k []).Nodup/\∀x∈(zbP na na).getD k [],x<na):=qd (fun k hk=>zgD (by simp[List.getD,hk]))
  have wE:Hid (∀i,i<(zbP na na).length->((zbP na na).take i).find? (agr a b)=none->agr a b ((zbP na na).getD i [])=true->zfb a b=some ((zbP na na).getD i [])):=qd (fun i hi h1 h2=>by
   have:=zJp (a:=a) (b:=b) (lR.trans fI.symm) (i:=i) (by rw[lR];exact hi) (by rw[lR];exact h1) (by rw[lR];exact h2)
   rwa [lR] at this)
  have mA:Hid ((zbP na na).find? (agr a b)=none->zfb a b=none):=qd (fun h=>by unfold zfb;rw[if_pos (lR.trans fI.symm),lR];exact h);generalize zbP na na=L at*;clear ha hb lR fI jW jj
  go_enter Tryz.func240,Tryz.ntmps240
  go_wp2_with fail;refine uP.out.mono ?_;rintro e w1 ⟨rfl,bh⟩;have qU:=qd (uQ.out _ bh);go_wp2_with fail;refine qU.out.mono ?_;rintro e w2 ⟨rfl,aB⟩;have ae:=zaf (Below.refl w.heap.size w) (zbg bh aB);have Ho:=qd (HO.out w2);clear uP uQ qU bh aB HO;go_wp2_with fail;refine Ho.out.mono ?_;rintro e w3 ⟨gl,cl,rl,rfl,bD,mB,ji⟩;rw[List.length_map];have ag:=ae.trans (ji.mono ae.size);have uR:=mB.mono ae.size;have dY:=qd bD;have nl:Hid (rl.length=L.length):=qd (by rw[<-zac,bD,List.length_map]);clear Ho mB ji ae bD;go_wp2_with fail;go_loopw [7,8,9] (fun iv _ _ wr=>∃i:Nat,i<=L.length/\iv= .int .i64 i/\Hid ((L.take i).find? (agr a b)=none)/\Below w3.heap.size w3 wr) (fun iv _ _ _=>L.length-(intOf iv).toNat)
  case atStart=>exact⟨0,qz _,rfl,rfl,Below.refl _ _⟩
  case round=>
   obtain⟨i,hi,rfl,hf,hb⟩:=hrel;have dM:=ag.trans (hb.mono ag.size);by_cases ac:i<L.length
   ·obtain⟨m1,m2,m3⟩:=pF.out i ac;have mC:i<rl.length:=by rw[nl.out];exact ac
    have aC:rl[i].2.2=zae (L.getD i []):=by
     rw[<-zei rl i mC,dY.out];simp[List.getD,ac]
    have aV:=uR.2.1 _ (List.getElem_mem mC);have aA:=uR.1.cell i (by simpa using mC);rw[aC] at aV;have kr:zah rl[i]=(qS (some ⟨(rl[i].1),0,none⟩) na (rl[i].2.1)):=by unfold zah;rw[aC,zai,m1]
    simp only[List.getElem_map,kr] at aA;have aS:na<=rl[i].2.1:=by have:=aV.capLe;rw[zai,m1] at this;exact this
    generalize rl[i].1=gk at*;generalize rl[i].2.1=ck at*;have MD:=wE.out i ac hf.out;have uK:=fun h=>zzC (p:=agr a b) (d:=[]) ac hf.out h
    have tW:=zDr (a:=a) (b:=b) (o:=L.getD i []) (by rw[m1,Co.out]) (fun k hk=>by exact MC.out.2.2.1 k hk);generalize L.getD i []=o at*;have yu:=aV.below hb aV.lt;have oh:=(hb.cell (p:=⟨gl,i,none⟩) uR.lt).trans aA;have hrel:=zqs ga oa na ca gk 0 na ck a o wr PS.out m1 rfl PR.out m2 m3 aS (qL li dM.size) yu.lt (Ge.out.below dM li) yu.cells;have Cp:=qd hrel;have IG:=qd MD;have uL:=qd uK;have ME:=qd tW;have yw:=qd m1;have Gh:=qd aV;have dQ:=qd aA;clear aC kr hrel MD uK tW yu aA m1 m2 m3 aV;go_wp2_with fail;refine Cp.out.mono ?_;rintro e w5 ⟨g5,c5,rs5,rfl,fK,aD,aQ⟩;have fW:=dM.trans (aQ.mono dM.size);have iZ:=hb.trans (aQ.mono hb.size);have bP:(zaW a (zae o)).length=na:=by rw[<-fK,zac];have:=yw.out;have h9:=congrArg List.length fK;rw[zac] at h9;rw[h9];simp[zaW,zae,this]
    have Gi:=zkJ g5 0 na c5 gb ob na cb (zaW a (zae o)) b w5 bP Co.out (by omega) (fun j hj=>by
     have:(zaW a (zae o)).getD j []=o.map fun q=>ent a (o.getD j 0) q:=zmX a o j (by rw[yw.out,<-bP];exact hj)
     rw[this,List.length_map,yw.out];omega) (fun j hj=>by have:=MC.out.2.2.1 j hj;have:=Co.out;omega) (by rw[<-fK];exact aD.rows2) (Gf.out.below fW oZ)
    have Bc:=qd Gi;clear Cp Gi bP fK aD aQ dM hb
    cases hag:agr a b o with
    |true=>
     have pH:decide (zaW a (zae o)=b)=true:=decide_eq_true (ME.out.2 hag);have jt:=qd (IG.out hag);rw[pH] at Bc;clear pH hag;go_wp2_with fail;refine Bc.out.mono ?_;rintro e w6 ⟨rfl,fX⟩;have rJ:=zaf iZ fX;have II:=(rJ.cell (p:=⟨gl,i,none⟩) uR.lt).trans dQ.out;have aO:=(Gh.out.below rJ Gh.out.lt);have bJ:=ag.trans (rJ.mono ag.size);clear Bc fX iZ fW;go_wp2_with fail;go_ret2;have e1:zhD a b=zae o:=by unfold zhD;rw[jt.out];rfl
     have e2:zdm a b=true:=by unfold zdm;rw[jt.out];rfl
     rw[e1,e2];exact zbl.mk' gk ck (by rw[zai];exact yw.out) aO bJ
    |false=>
     have pH:decide (zaW a (zae o)=b)=false:=decide_eq_false (fun h=>by rw[ME.out.1 h] at hag;cases hag);have PU:=qd (uL.out hag);rw[pH] at Bc;clear pH hag;go_wp2_with fail;refine Bc.out.mono ?_;rintro e w6 ⟨rfl,fX⟩;have rJ:=zaf iZ fX;clear Bc fX iZ fW;go_wp2_with fail;go_roundw
     case rel=>exact⟨i+1,by omega,by go_num,PU,rJ⟩
     case measure=>simp[intOf];omega
   ·obtain rfl:i=L.length:=by omega
    have wh:=hf.out;rw[List.take_length] at wh;have jt:=qd (mA.out wh);clear hf wh;go_wp2_with fail;go_ret2;have e1:zhD a b=[]:=by unfold zhD;rw[jt.out];rfl
    have e2:zdm a b=false:=by unfold zdm;rw[jt.out];rfl
    rw[e1,e2];exact zbl.mk' _ 0 rfl (Own.empty dM.size) (dM.alloc dM.size _)
 ·have e0:zfb a b=none:=by unfold zfb;rw[if_neg (by omega)]
  have e1:zhD a b=[]:=by unfold zhD;rw[e0];rfl
  have e2:zdm a b=false:=by unfold zdm;rw[e0];rfl
  rw[e1,e2];have ao:((na:Int) != (nb:Int))=true:=by rw[bne_iff_ne];omega
  clear e0 e1 e2 hl lR fI
  go_enter Tryz.func240,Tryz.ntmps240
  go_wp2_with fail;refine uP.out.mono ?_;rintro e w1 ⟨rfl,bh⟩;have qU:=qd (uQ.out _ bh);go_wp2_with fail;refine qU.out.mono ?_;rintro e w2 ⟨rfl,aB⟩;have ae:=zaf (Below.refl w.heap.size w) (zbg bh aB);clear bh aB;go_wp2_with fail;go_ret2;exact zbl.mk' _ 0 rfl (Own.empty ae.size) (ae.alloc ae.size _)
theorem zkL(ga oa na ca gb ob nb cb:Nat)(a b:LL)(w:World)(lR:a.length=na)(fI:b.length=nb)(ha:IsC a)(hb:IsC b)(li:ga<w.heap.size)(oZ:gb<w.heap.size)(jW:zal w ga oa a)(jj:zal w gb ob b):
 Calls Tryz.prog 232 #[(qS (some ⟨ga,oa,none⟩) na ca),(qS (some ⟨gb,ob,none⟩) nb cb)] w (zbl w (zhD a b) (zdm a b)):=by
 have yq:=zcz ga oa na ca a w lR (by have:=ha.2.1;omega) (fun j hj=>by have:=ha.2.2.1 j hj;have:=ha.2.1;omega) jW;have yr:=fun W (hW:∃q,W=w.drewN q)=>zcz gb ob nb cb b W fI (by have:=hb.2.1;omega) (fun j hj=>by have:=hb.2.2.1 j hj;have:=hb.2.1;omega) (jj.still hW)
 rw[decide_eq_true ha] at yq;rw[decide_eq_true hb] at yr;have uP:=qd yq;have uQ:=qd yr;clear yq yr;by_cases hl:na=nb
 ·subst hl;have aR:na<=4:=by have:=ha.2.1;omega
  have dL:1<=na:=by have:=ha.1;omega
  have hT:=zJo ha hb (lR.trans fI.symm);rw[fI] at hT;have HM:=qd (fun W (hW:Below w.heap.size w W)=>zqr a b na dL aR (zJr lR ha) (zJr fI hb) na ga oa ca gb ob cb none 0 0 0 [] 1 W (by simp) rfl (by simp) (qr _) (by omega) (qL li hW.size) (qL oZ hW.size) (jW.below hW li) (jj.below hW oZ) (.inl ⟨rfl,rfl⟩));rw[hT] at HM;have hm:=fun o (h:zfb a b=some o)=>(zHO h).trans lR
  have Hm:=qd hm;have e1:zhD a b=((zfb a b).map zae).getD []:=rfl;have e2:zdm a b=(zfb a b).isSome:=rfl;rw[e1,e2];clear hT lR fI ha hb jW jj hm e1 e2;generalize zfb a b=R at*
  cases R with
  |none=>
   show Calls _ _ _ _ (zbl w [] false)
   go_enter Tryz.func232,Tryz.ntmps232
   go_wp2_with fail;refine uP.out.mono ?_;rintro e w1 ⟨rfl,bh⟩;have qU:=qd (uQ.out _ bh);go_wp2_with fail;refine qU.out.mono ?_;rintro e w2 ⟨rfl,aB⟩;have ae:=zaf (Below.refl w.heap.size w) (zbg bh aB);have yz:=qd (HM.out w2 ae);clear bh aB qU HM uP uQ;go_wp2_with fail;refine yz.out.mono ?_;rintro e w3 ⟨g3,c3,r3,rfl,eE,al,ag⟩;have aM:=ae.trans (ag.mono ae.size);clear yz eE al ag;go_wp2_with fail;go_ret2;exact zbl.mk' _ 0 rfl (Own.empty aM.size) (aM.alloc aM.size _)
  |some o=>
   show Calls _ _ _ _ (zbl w (zae o) true);have mB:=qd (Hm.out o rfl)
   go_enter Tryz.func232,Tryz.ntmps232
   go_wp2_with fail;refine uP.out.mono ?_;rintro e w1 ⟨rfl,bh⟩;have qU:=qd (uQ.out _ bh);go_wp2_with fail;refine qU.out.mono ?_;rintro e w2 ⟨rfl,aB⟩;have ae:=zaf (Below.refl w.heap.size w) (zbg bh aB);have yz:=qd (HM.out w2 ae);clear bh aB qU HM uP uQ;go_wp2_with fail;refine yz.out.mono ?_;rintro e w3 ⟨g3,c3,r3,rfl,eE,al,ag⟩;have aM:=ae.trans (ag.mono ae.size);have ol:r3.length=1:=by rw[<-zac,eE];rfl
   have qV:r3[0].2.2=zae o:=by
    rw[<-zei r3 0 (by omega),eE];rfl
   have aV:=al.2.1 _ (List.getElem_mem (show 0<r3.length by omega));have aA:=al.1.cell 0 (by simp;omega);rw[qV] at aV;have kr:zah r3[0]=(qS (some ⟨(r3[0].1),0,none⟩) na (r3[0].2.1)):=by unfold zah;rw[qV,zai,mB.out]
   simp only[List.getElem_map,kr] at aA;generalize r3[0].1=gk at*;generalize r3[0].2.1=ck at*;have ju:=aV.mono ae.size;have PV:=qd aM;have PW:=qd ju;clear yz eE al ag ol qV kr aV ju aM ae;go_wp2_with fail;go_ret2;exact zbl.mk' gk ck (by rw[zai];exact mB.out) PW.out PV.out
 ·have e0:zfb a b=none:=by unfold zfb;rw[if_neg (by omega)]
  have e1:zhD a b=[]:=by unfold zhD;rw[e0];rfl
  have e2:zdm a b=false:=by unfold zdm;rw[e0];rfl
  rw[e1,e2];have ao:((na:Int) != (nb:Int))=true:=by rw[bne_iff_ne];omega
  clear e0 e1 e2 hl lR fI
  go_enter Tryz.func232,Tryz.ntmps232
  go_wp2_with fail;refine uP.out.mono ?_;rintro e w1 ⟨rfl,bh⟩;have qU:=qd (uQ.out _ bh);go_wp2_with fail;refine qU.out.mono ?_;rintro e w2 ⟨rfl,aB⟩;have ae:=zaf (Below.refl w.heap.size w) (zbg bh aB);clear bh aB;go_wp2_with fail;go_ret2;exact zbl.mk' _ 0 rfl (Own.empty ae.size) (ae.alloc ae.size _)
end
section
open Go.RowKit
theorem zjT(g o n cp:Nat)(rows:LL)(w:World)(hn:rows.length=n)(hx:rows.length<=1048576)(an:∀j,j<rows.length->(rows.getD j []).length<=1048576)(hg:g<w.heap.size)(hr:zal w g o rows):
 Calls Tryz.prog 199 #[(qS (some ⟨g,o,none⟩) n cp)] w (zbC w rows):=by
 subst hn
 go_enter Tryz.func199,Tryz.ntmps199
 go_wp2;go_loopw [3,4] (fun ov kv wr=>∃(k g2 c2:Nat) (rs:List RowRef),k<=rows.length/\kv= .int .i64 k/\ov=(qS (some ⟨g2,0,none⟩) k c2)/\Hid (rs.length=k)/\Hid (zaa rs=rows.take k)/\zab wr w.heap.size g2 c2 rs/\Below w.heap.size w wr) (fun _ kv _=>rows.length-(intOf kv).toNat)
 case atStart=>exact⟨0,w.heap.size,0,[],qz _,rfl,rfl,rfl,rfl,zab.empty (qr _),(Below.refl _ _).alloc (qr _) _⟩
 case round=>
  obtain⟨k,g2,c2,rs,hk,rfl,rfl,dK,br,hO,hb⟩:=hrel;by_cases ac:k<rows.length
  ·obtain⟨gj,oj,cj,q1,q2,q3,q4⟩:=(hr.below hb hg) k ac;have nU:=an k ac
   have ht:rows.take (k+1)=rows.take k++[rows.getD k []]:=by
    rw[qT ac];simp[List.getD,ac]
   generalize rows.getD k []=x at*;obtain⟨lx,fY⟩:∃lx,x.length=lx:=⟨_,rfl⟩;rw[fY] at q1 q2 nU;have Ht:=qd ht;have yA:=qd fY;have Q4:=qd q4;have hE:=(Below.refl wr.heap.size wr).alloc (qr _) (.cells #[] 3);have q1':=(hE.cell (p:=⟨g,o+k,none⟩) (qL hg hb.size)).trans q1;clear ht fY q4 hE;go_wp2_with (at_builtin;refine zaV rfl _ _ rfl gj oj lx cj x yA.out q3 Q4.out rfl rfl (by rw[yA.out];omega) ?_);intro g3 c3 w3 al ag;have bg:=hO.below ag;have ap:=hb.trans (ag.mono hb.size);have ao:∀s∈rs,s.1≠g3:=fun s hs e=>by have h1:=(hO.2.1 s hs).lt;have h2:=al.base;omega
   have uJ:=qd ao;clear hO ao q1 q1' q3 ag;go_wp2_with (at_builtin;refine zao (w:=w3) rfl _ _ rfl w.heap.size g2 c2 k w3.heap.size rs (g3,c3,x) _ dK.out (by unfold zah;rw[yA.out]) rfl bg (al.mono hb.size) uJ.out rfl rfl (by omega) ?_);intro g4 c4 w4 cV aT bq;have aG:Below w.heap.size w w4:=ap.grown aT ap.size (by intro t ht;cases ht;exact bg.base);have dV:Hid ((rs++[(g3,c3,x)]).length=k+1):=qd (by rw[qA,dK.out];rfl);have jo:Hid (zaa (rs++[(g3,c3,x)])=rows.take (k+1)):=qd (by rw[Ht.out,<-br.out];simp[zaa]);clear bg ap aT bq hb;go_wp2_with fail;go_roundw
   case rel=>exact⟨k+1,g4,c4,_,by omega,by go_num,rfl,dV.out,jo.out,cV,aG⟩
   case measure=>simp[intOf];omega
  ·obtain rfl:k=rows.length:=by omega
   have hc:=br.out;rw[List.take_length] at hc;have Hc:=qd hc;clear hc;go_wp2_with fail;go_ret;exact⟨g2,c2,rs,rfl,Hc.out,hO,hb⟩
end
section
open Go.RowKit
theorem zbr(gc oc n cc i j:Nat)(a b:Int)(c:LL)(w:World)(hn:c.length=n)(aR:n<=4)(bC:∀k,k<c.length->(c.getD k []).length=n)(hi:i<n)(hj:j<n)(iP:i≠j)(ah:gc<w.heap.size)(hr:zal w gc oc c):
 Calls Tryz.prog 156 #[(qS (some ⟨gc,oc,none⟩) n cc),.int .i64 i,.int .i64 j,.int .i64 a,.int .i64 b] w (zbC w (zbe (zbe c i j a) j i b)):=by
 have H:=qd (zjT gc oc n cc c w hn (by omega) (fun k hk=>by have:=bC k hk;omega) ah hr);have Hn:=qd hn;have Gb:=qd bC;clear hr bC ah hn
 go_enter Tryz.func156,Tryz.ntmps156
 go_wp2_with fail;refine H.out.mono ?_;rintro e w1 ⟨g1,c1,rs,rfl,hc,ho,hb⟩;obtain⟨gr,cr,-,ie,qP,ao,q1,q2,q3⟩:=ho.setMat hc i (by rw[Hn.out];exact hi);rw[Gb.out i (by rw[Hn.out];exact hi)] at q1 q2;obtain⟨q4,q5⟩:=q2 j hj;obtain⟨rs2,-,aH,fc,ar,aP⟩:=q3 j a;have ae:=hb.grown aP hb.size (by intro t ht;cases ht;exact ie);have rK:(zbe c i j a).length=n:=by rw[zkr];exact Hn.out
 obtain⟨gs,cs,-,kn,Ta,ky,r1,r2,r3⟩:=ar.setMat aH j (by rw[rK];exact hj);have aC:(zbe c i j a).getD j []=c.getD j []:=by simp[zbe,List.getD,iP]
 rw[aC,Gb.out j (by rw[Hn.out];exact hj)] at r1 r2;obtain⟨r4,r5⟩:=r2 i hi;obtain⟨rs3,-,eE,ol,al,aK⟩:=r3 i b;have ag:=ae.grown aK ae.size (by intro t ht;cases ht;exact kn);have hl:c.length=n:=Hn.out;rw[hl];have HO:=qd al;have HC:=qd eE;have HB:=qd ag;have cg:Hid ((zbe (zbe c i j a) j i b).length=n):=qd (by rw[zkr];exact rK);clear q2 q3 r2 r3 ho ar al hb ae ag hc aH eE aP aK aC rK hl H fc ol;generalize (c.getD j []).getD i 0=y1 at*;generalize (c.getD i []).getD j 0=y2 at*;go_wp2_with fail;go_ret;exact⟨g1,c1,rs3,congrArg (fun z=>Ending.returned (qS (some ⟨g1,0,none⟩) z c1)) cg.out.symm,HC.out,HO.out,HB.out⟩
end
section
open Go.RowKit Game
theorem zbV.neOwn{w:World}{b n m g cap B:Nat}{ks:LL}{xs:LI}(h:zbV w b n m ks)(ho:Own w B g cap xs):b≠g:=by
 rintro rfl;obtain⟨D,⟨es,clock,hh,-⟩,-⟩:=h;obtain⟨cur,h2,-⟩:=ho.toV.row;rw[hh] at h2;simp at h2
theorem ztS(c:LL)(i:Nat)(v:LI):WfV (refl c i v):=by
 intro j _;by_cases h:j<v.length
 ·have e:(refl c i v).getD j 0=zdT c i v j:=by simp[refl,List.getD,h]
  rw[e];exact wrap64_wf _
 ·have e:(refl c i v).getD j 0=0:=by simp[refl,List.getD,h]
  rw[e];decide
def zaj(w:World)(rows:LL)(b:Bool)(e:Ending)(w':World):Prop:=
 ∃g cap rs,e= .returned (.tuple #[(qS (some ⟨g,0,none⟩) rows.length cap),.bool b])/\zaa rs=rows/\zab w' w.heap.size g cap rs/\Below w.heap.size w w'
theorem zaj.mk'{w w':World}{rows:LL}{b:Bool}{n:Nat}(g cap:Nat)(rs:List RowRef)(hl:rs.length=n)(hc:zaa rs=rows)(ho:zab w' w.heap.size g cap rs)(hb:Below w.heap.size w w'):
 zaj w rows b (.returned (.tuple #[(qS (some ⟨g,0,none⟩) n cap),.bool b])) w':=by
 subst hl;subst hc;exact⟨g,cap,rs,by rw[zac],rfl,ho,hb⟩
end
section
open Go.RowKit
theorem zvZ(w:World):Calls Tryz.prog 114 #[.string ⟨#[65,49]⟩] w (zaj w (zaw.getD 0 tyD).2 true):=by
 have h0:=qd (fun W=>zaY 1 W (by omega));have aZ:=zat 1
 go_enter Tryz.func114,Tryz.ntmps114
 go_wp2_with fail;refine(h0.out _).mono ?_;rintro e w1 ⟨g1,c1,rs1,rfl,aI,au,ad⟩;rw[aZ];clear aZ;have Hc:=qd aI;clear aI;go_wp2_with fail;go_ret2;exact zaj.mk' g1 c1 rs1 (by rw[<-zac,Hc.out];decide) (by rw[Hc.out];decide) au ad
theorem zwa(w:World):Calls Tryz.prog 114 #[.string ⟨#[65,50]⟩] w (zaj w (zaw.getD 1 tyD).2 true):=by
 have h0:=qd (fun W=>zaY 2 W (by omega));have aZ:=zat 2
 go_enter Tryz.func114,Tryz.ntmps114
 go_wp2_with fail;refine(h0.out _).mono ?_;rintro e w1 ⟨g1,c1,rs1,rfl,aI,au,ad⟩;rw[aZ];clear aZ;have Hc:=qd aI;clear aI;go_wp2_with fail;go_ret2;exact zaj.mk' g1 c1 rs1 (by rw[<-zac,Hc.out];decide) (by rw[Hc.out];decide) au ad
theorem zwb(w:World):Calls Tryz.prog 114 #[.string ⟨#[65,51]⟩] w (zaj w (zaw.getD 2 tyD).2 true):=by
 have h0:=qd (fun W=>zaY 3 W (by omega));have aZ:=zat 3
 go_enter Tryz.func114,Tryz.ntmps114
 go_wp2_with fail;refine(h0.out _).mono ?_;rintro e w1 ⟨g1,c1,rs1,rfl,aI,au,ad⟩;rw[aZ];clear aZ;have Hc:=qd aI;clear aI;go_wp2_with fail;go_ret2;exact zaj.mk' g1 c1 rs1 (by rw[<-zac,Hc.out];decide) (by rw[Hc.out];decide) au ad
theorem zwc(w:World):Calls Tryz.prog 114 #[.string ⟨#[65,52]⟩] w (zaj w (zaw.getD 3 tyD).2 true):=by
 have h0:=qd (fun W=>zaY 4 W (by omega));have aZ:=zat 4
 go_enter Tryz.func114,Tryz.ntmps114
 go_wp2_with fail;refine(h0.out _).mono ?_;rintro e w1 ⟨g1,c1,rs1,rfl,aI,au,ad⟩;rw[aZ];clear aZ;have Hc:=qd aI;clear aI;go_wp2_with fail;go_ret2;exact zaj.mk' g1 c1 rs1 (by rw[<-zac,Hc.out];decide) (by rw[Hc.out];decide) au ad
theorem zwd(w:World):Calls Tryz.prog 114 #[.string ⟨#[66,50]⟩] w (zaj w (zaw.getD 4 tyD).2 true):=by
 have h0:=qd (fun W=>zaY 2 W (by omega));have aZ:=zat 2
 go_enter Tryz.func114,Tryz.ntmps114
 go_wp2_with fail;refine(h0.out _).mono ?_;rintro e w1 ⟨g1,c1,rs1,rfl,aI,au,ad⟩;rw[aZ];clear aZ;have h1:=qd (zbr g1 0 2 c1 0 1 (-1) (-2) (zaJ 2) w1 (by decide) (by omega) (by decide) (by omega) (by omega) (by omega) au.lt (by rw[<-aI];exact au.rows2));clear au aI;go_wp2_with fail;refine h1.out.mono ?_;rintro e w2 ⟨g2,c2,rs2,rfl,aH,ar,aF⟩;rw[show(zbe (zbe (zaJ 2) 0 1 (-1)) 1 0 (-2)).length=2 from by decide];have ae:=ad.trans (aF.mono ad.size)
 replace ar:=ar.mono ad.size
 clear aF h1;have Hc:=qd aH;clear aH;go_wp2_with fail;go_ret2;exact zaj.mk' g2 c2 rs2 (by rw[<-zac,Hc.out];decide) (by rw[Hc.out];decide) ar ae
theorem zwe(w:World):Calls Tryz.prog 114 #[.string ⟨#[66,51]⟩] w (zaj w (zaw.getD 5 tyD).2 true):=by
 have h0:=qd (fun W=>zaY 3 W (by omega));have aZ:=zat 3
 go_enter Tryz.func114,Tryz.ntmps114
 go_wp2_with fail;refine(h0.out _).mono ?_;rintro e w1 ⟨g1,c1,rs1,rfl,aI,au,ad⟩;rw[aZ];clear aZ;have h1:=qd (zbr g1 0 3 c1 1 2 (-1) (-2) (zaJ 3) w1 (by decide) (by omega) (by decide) (by omega) (by omega) (by omega) au.lt (by rw[<-aI];exact au.rows2));clear au aI;go_wp2_with fail;refine h1.out.mono ?_;rintro e w2 ⟨g2,c2,rs2,rfl,aH,ar,aF⟩;rw[show(zbe (zbe (zaJ 3) 1 2 (-1)) 2 1 (-2)).length=3 from by decide];have ae:=ad.trans (aF.mono ad.size)
 replace ar:=ar.mono ad.size
 clear aF h1;have Hc:=qd aH;clear aH;go_wp2_with fail;go_ret2;exact zaj.mk' g2 c2 rs2 (by rw[<-zac,Hc.out];decide) (by rw[Hc.out];decide) ar ae
theorem zwf(w:World):Calls Tryz.prog 114 #[.string ⟨#[66,52]⟩] w (zaj w (zaw.getD 6 tyD).2 true):=by
 have h0:=qd (fun W=>zaY 4 W (by omega));have aZ:=zat 4
 go_enter Tryz.func114,Tryz.ntmps114
 go_wp2_with fail;refine(h0.out _).mono ?_;rintro e w1 ⟨g1,c1,rs1,rfl,aI,au,ad⟩;rw[aZ];clear aZ;have h1:=qd (zbr g1 0 4 c1 2 3 (-1) (-2) (zaJ 4) w1 (by decide) (by omega) (by decide) (by omega) (by omega) (by omega) au.lt (by rw[<-aI];exact au.rows2));clear au aI;go_wp2_with fail;refine h1.out.mono ?_;rintro e w2 ⟨g2,c2,rs2,rfl,aH,ar,aF⟩;rw[show(zbe (zbe (zaJ 4) 2 3 (-1)) 3 2 (-2)).length=4 from by decide];have ae:=ad.trans (aF.mono ad.size)
 replace ar:=ar.mono ad.size
 clear aF h1;have Hc:=qd aH;clear aH;go_wp2_with fail;go_ret2;exact zaj.mk' g2 c2 rs2 (by rw[<-zac,Hc.out];decide) (by rw[Hc.out];decide) ar ae
theorem zwg(w:World):Calls Tryz.prog 114 #[.string ⟨#[67,51]⟩] w (zaj w (zaw.getD 7 tyD).2 true):=by
 have h0:=qd (fun W=>zaY 3 W (by omega));have aZ:=zat 3
 go_enter Tryz.func114,Tryz.ntmps114
 go_wp2_with fail;refine(h0.out _).mono ?_;rintro e w1 ⟨g1,c1,rs1,rfl,aI,au,ad⟩;rw[aZ];clear aZ;have h1:=qd (zbr g1 0 3 c1 1 2 (-2) (-1) (zaJ 3) w1 (by decide) (by omega) (by decide) (by omega) (by omega) (by omega) au.lt (by rw[<-aI];exact au.rows2));clear au aI;go_wp2_with fail;refine h1.out.mono ?_;rintro e w2 ⟨g2,c2,rs2,rfl,aH,ar,aF⟩;rw[show(zbe (zbe (zaJ 3) 1 2 (-2)) 2 1 (-1)).length=3 from by decide];have ae:=ad.trans (aF.mono ad.size)
 replace ar:=ar.mono ad.size
 clear aF h1;have Hc:=qd aH;clear aH;go_wp2_with fail;go_ret2;exact zaj.mk' g2 c2 rs2 (by rw[<-zac,Hc.out];decide) (by rw[Hc.out];decide) ar ae
theorem zwh(w:World):Calls Tryz.prog 114 #[.string ⟨#[67,52]⟩] w (zaj w (zaw.getD 8 tyD).2 true):=by
 have h0:=qd (fun W=>zaY 4 W (by omega));have aZ:=zat 4
 go_enter Tryz.func114,Tryz.ntmps114
 go_wp2_with fail;refine(h0.out _).mono ?_;rintro e w1 ⟨g1,c1,rs1,rfl,aI,au,ad⟩;rw[aZ];clear aZ;have h1:=qd (zbr g1 0 4 c1 2 3 (-2) (-1) (zaJ 4) w1 (by decide) (by omega) (by decide) (by omega) (by omega) (by omega) au.lt (by rw[<-aI];exact au.rows2));clear au aI;go_wp2_with fail;refine h1.out.mono ?_;rintro e w2 ⟨g2,c2,rs2,rfl,aH,ar,aF⟩;rw[show(zbe (zbe (zaJ 4) 2 3 (-2)) 3 2 (-1)).length=4 from by decide];have ae:=ad.trans (aF.mono ad.size)
 replace ar:=ar.mono ad.size
 clear aF h1;have Hc:=qd aH;clear aH;go_wp2_with fail;go_ret2;exact zaj.mk' g2 c2 rs2 (by rw[<-zac,Hc.out];decide) (by rw[Hc.out];decide) ar ae
theorem zwi(w:World):Calls Tryz.prog 114 #[.string ⟨#[68,52]⟩] w (zaj w (zaw.getD 9 tyD).2 true):=by
 have h0:=qd (fun W=>zaY 4 W (by omega));have aZ:=zat 4
 go_enter Tryz.func114,Tryz.ntmps114
 go_wp2_with fail;refine(h0.out _).mono ?_;rintro e w1 ⟨g1,c1,rs1,rfl,aI,au,ad⟩;rw[aZ];clear aZ;have h1:=qd (zbr g1 0 4 c1 2 3 0 0 (zaJ 4) w1 (by decide) (by omega) (by decide) (by omega) (by omega) (by omega) au.lt (by rw[<-aI];exact au.rows2));clear au aI;go_wp2_with fail;refine h1.out.mono ?_;rintro e w2 ⟨g2,c2,rs2,rfl,aH,ar,aF⟩;rw[show(zbe (zbe (zaJ 4) 2 3 0) 3 2 0).length=4 from by decide];have ae:=ad.trans (aF.mono ad.size)
 replace ar:=ar.mono ad.size
 clear aF h1;have h2:=qd (zbr g2 0 4 c2 1 3 (-1) (-1) (zbe (zbe (zaJ 4) 2 3 0) 3 2 0) w2 (by decide) (by omega) (by decide) (by omega) (by omega) (by omega) ar.lt (by rw[<-aH];exact ar.rows2));clear ar aH;go_wp2_with fail;refine h2.out.mono ?_;rintro e w3 ⟨g3,c3,rs3,rfl,eE,al,ir⟩;rw[show(zbe (zbe (zbe (zbe (zaJ 4) 2 3 0) 3 2 0) 1 3 (-1)) 3 1 (-1)).length=4 from by decide];have ag:=ae.trans (ir.mono ae.size)
 replace al:=al.mono ae.size
 clear ir h2;have Hc:=qd eE;clear eE;go_wp2_with fail;go_ret2;exact zaj.mk' g3 c3 rs3 (by rw[<-zac,Hc.out];decide) (by rw[Hc.out];decide) al ag
theorem ztT(w:World):Calls Tryz.prog 114 #[.string ⟨#[70,52]⟩] w (zaj w (zaw.getD 10 tyD).2 true):=by
 have h0:=qd (fun W=>zaY 4 W (by omega));have aZ:=zat 4
 go_enter Tryz.func114,Tryz.ntmps114
 go_wp2_with fail;refine(h0.out _).mono ?_;rintro e w1 ⟨g1,c1,rs1,rfl,aI,au,ad⟩;rw[aZ];clear aZ;have h1:=qd (zbr g1 0 4 c1 1 2 (-1) (-2) (zaJ 4) w1 (by decide) (by omega) (by decide) (by omega) (by omega) (by omega) au.lt (by rw[<-aI];exact au.rows2));clear au aI;go_wp2_with fail;refine h1.out.mono ?_;rintro e w2 ⟨g2,c2,rs2,rfl,aH,ar,aF⟩;rw[show(zbe (zbe (zaJ 4) 1 2 (-1)) 2 1 (-2)).length=4 from by decide];have ae:=ad.trans (aF.mono ad.size)
 replace ar:=ar.mono ad.size
 clear aF h1;have Hc:=qd aH;clear aH;go_wp2_with fail;go_ret2;exact zaj.mk' g2 c2 rs2 (by rw[<-zac,Hc.out];decide) (by rw[Hc.out];decide) ar ae
theorem ztU(w:World):Calls Tryz.prog 114 #[.string ⟨#[71,50]⟩] w (zaj w (zaw.getD 11 tyD).2 true):=by
 have h0:=qd (fun W=>zaY 2 W (by omega));have aZ:=zat 2
 go_enter Tryz.func114,Tryz.ntmps114
 go_wp2_with fail;refine(h0.out _).mono ?_;rintro e w1 ⟨g1,c1,rs1,rfl,aI,au,ad⟩;rw[aZ];clear aZ;have h1:=qd (zbr g1 0 2 c1 0 1 (-1) (-3) (zaJ 2) w1 (by decide) (by omega) (by decide) (by omega) (by omega) (by omega) au.lt (by rw[<-aI];exact au.rows2));clear au aI;go_wp2_with fail;refine h1.out.mono ?_;rintro e w2 ⟨g2,c2,rs2,rfl,aH,ar,aF⟩;rw[show(zbe (zbe (zaJ 2) 0 1 (-1)) 1 0 (-3)).length=2 from by decide];have ae:=ad.trans (aF.mono ad.size)
 replace ar:=ar.mono ad.size
 clear aF h1;have Hc:=qd aH;clear aH;go_wp2_with fail;go_ret2;exact zaj.mk' g2 c2 rs2 (by rw[<-zac,Hc.out];decide) (by rw[Hc.out];decide) ar ae
theorem ztV(w:World):Calls Tryz.prog 114 #[.string ⟨#[65,49,126]⟩] w (zaj w (zaw.getD 12 tyD).2 true):=by
 have h0:=qd (fun W=>zaY 2 W (by omega));have aZ:=zat 2
 go_enter Tryz.func114,Tryz.ntmps114
 go_wp2_with fail;refine(h0.out _).mono ?_;rintro e w1 ⟨g1,c1,rs1,rfl,aI,au,ad⟩;rw[aZ];clear aZ;have h1:=qd (zbr g1 0 2 c1 0 1 (-2) (-2) (zaJ 2) w1 (by decide) (by omega) (by decide) (by omega) (by omega) (by omega) au.lt (by rw[<-aI];exact au.rows2));clear au aI;go_wp2_with fail;refine h1.out.mono ?_;rintro e w2 ⟨g2,c2,rs2,rfl,aH,ar,aF⟩;rw[show(zbe (zbe (zaJ 2) 0 1 (-2)) 1 0 (-2)).length=2 from by decide];have ae:=ad.trans (aF.mono ad.size)
 replace ar:=ar.mono ad.size
 clear aF h1;have Hc:=qd aH;clear aH;go_wp2_with fail;go_ret2;exact zaj.mk' g2 c2 rs2 (by rw[<-zac,Hc.out];decide) (by rw[Hc.out];decide) ar ae
theorem ztW(w:World):Calls Tryz.prog 114 #[.string ⟨#[65,50,126]⟩] w (zaj w (zaw.getD 13 tyD).2 true):=by
 have h0:=qd (fun W=>zaY 3 W (by omega));have aZ:=zat 3
 go_enter Tryz.func114,Tryz.ntmps114
 go_wp2_with fail;refine(h0.out _).mono ?_;rintro e w1 ⟨g1,c1,rs1,rfl,aI,au,ad⟩;rw[aZ];clear aZ;have h1:=qd (zbr g1 0 3 c1 0 2 (-1) (-1) (zaJ 3) w1 (by decide) (by omega) (by decide) (by omega) (by omega) (by omega) au.lt (by rw[<-aI];exact au.rows2));clear au aI;go_wp2_with fail;refine h1.out.mono ?_;rintro e w2 ⟨g2,c2,rs2,rfl,aH,ar,aF⟩;rw[show(zbe (zbe (zaJ 3) 0 2 (-1)) 2 0 (-1)).length=3 from by decide];have ae:=ad.trans (aF.mono ad.size)
 replace ar:=ar.mono ad.size
 clear aF h1;have Hc:=qd aH;clear aH;go_wp2_with fail;go_ret2;exact zaj.mk' g2 c2 rs2 (by rw[<-zac,Hc.out];decide) (by rw[Hc.out];decide) ar ae
theorem ztX(w:World):Calls Tryz.prog 114 #[.string ⟨#[65,51,126]⟩] w (zaj w (zaw.getD 14 tyD).2 true):=by
 have h0:=qd (fun W=>zaY 4 W (by omega));have aZ:=zat 4
 go_enter Tryz.func114,Tryz.ntmps114
 go_wp2_with fail;refine(h0.out _).mono ?_;rintro e w1 ⟨g1,c1,rs1,rfl,aI,au,ad⟩;rw[aZ];clear aZ;have h1:=qd (zbr g1 0 4 c1 0 3 (-1) (-1) (zaJ 4) w1 (by decide) (by omega) (by decide) (by omega) (by omega) (by omega) au.lt (by rw[<-aI];exact au.rows2));clear au aI;go_wp2_with fail;refine h1.out.mono ?_;rintro e w2 ⟨g2,c2,rs2,rfl,aH,ar,aF⟩;rw[show(zbe (zbe (zaJ 4) 0 3 (-1)) 3 0 (-1)).length=4 from by decide];have ae:=ad.trans (aF.mono ad.size)
 replace ar:=ar.mono ad.size
 clear aF h1;have Hc:=qd aH;clear aH;go_wp2_with fail;go_ret2;exact zaj.mk' g2 c2 rs2 (by rw[<-zac,Hc.out];decide) (by rw[Hc.out];decide) ar ae
theorem ztY(w:World):Calls Tryz.prog 114 #[.string ⟨#[67,50,126]⟩] w (zaj w (zaw.getD 15 tyD).2 true):=by
 have h0:=qd (fun W=>zaY 3 W (by omega));have aZ:=zat 3
 go_enter Tryz.func114,Tryz.ntmps114
 go_wp2_with fail;refine(h0.out _).mono ?_;rintro e w1 ⟨g1,c1,rs1,rfl,aI,au,ad⟩;rw[aZ];clear aZ;have h1:=qd (zbr g1 0 3 c1 0 1 (-1) (-2) (zaJ 3) w1 (by decide) (by omega) (by decide) (by omega) (by omega) (by omega) au.lt (by rw[<-aI];exact au.rows2));clear au aI;go_wp2_with fail;refine h1.out.mono ?_;rintro e w2 ⟨g2,c2,rs2,rfl,aH,ar,aF⟩;rw[show(zbe (zbe (zaJ 3) 0 1 (-1)) 1 0 (-2)).length=3 from by decide];have ae:=ad.trans (aF.mono ad.size)
 replace ar:=ar.mono ad.size
 clear aF h1;have h2:=qd (zbr g2 0 3 c2 1 2 (-2) (-1) (zbe (zbe (zaJ 3) 0 1 (-1)) 1 0 (-2)) w2 (by decide) (by omega) (by decide) (by omega) (by omega) (by omega) ar.lt (by rw[<-aH];exact ar.rows2));clear ar aH;go_wp2_with fail;refine h2.out.mono ?_;rintro e w3 ⟨g3,c3,rs3,rfl,eE,al,ir⟩;rw[show(zbe (zbe (zbe (zbe (zaJ 3) 0 1 (-1)) 1 0 (-2)) 1 2 (-2)) 2 1 (-1)).length=3 from by decide];have ag:=ae.trans (ir.mono ae.size)
 replace al:=al.mono ae.size
 clear ir h2;have Hc:=qd eE;clear eE;go_wp2_with fail;go_ret2;exact zaj.mk' g3 c3 rs3 (by rw[<-zac,Hc.out];decide) (by rw[Hc.out];decide) al ag
theorem ztZ(w:World):Calls Tryz.prog 114 #[.string ⟨#[71,50,126]⟩] w (zaj w (zaw.getD 16 tyD).2 true):=by
 have h0:=qd (fun W=>zaY 3 W (by omega));have aZ:=zat 3
 go_enter Tryz.func114,Tryz.ntmps114
 go_wp2_with fail;refine(h0.out _).mono ?_;rintro e w1 ⟨g1,c1,rs1,rfl,aI,au,ad⟩;rw[aZ];clear aZ;have h1:=qd (zbr g1 0 3 c1 1 2 (-1) (-3) (zaJ 3) w1 (by decide) (by omega) (by decide) (by omega) (by omega) (by omega) au.lt (by rw[<-aI];exact au.rows2));clear au aI;go_wp2_with fail;refine h1.out.mono ?_;rintro e w2 ⟨g2,c2,rs2,rfl,aH,ar,aF⟩;rw[show(zbe (zbe (zaJ 3) 1 2 (-1)) 2 1 (-3)).length=3 from by decide];have ae:=ad.trans (aF.mono ad.size)
 replace ar:=ar.mono ad.size
 clear aF h1;have Hc:=qd aH;clear aH;go_wp2_with fail;go_ret2;exact zaj.mk' g2 c2 rs2 (by rw[<-zac,Hc.out];decide) (by rw[Hc.out];decide) ar ae
theorem zmZ(k:Nat)(hk:k<17)(w:World):Calls Tryz.prog 114 #[.string ⟨(zaw.getD k tyD).1.toArray⟩] w (zaj w (zaw.getD k tyD).2 true):=by
 have:k=0∨k=1∨k=2∨k=3∨k=4∨k=5∨k=6∨k=7∨k=8∨k=9∨k=10∨k=11∨k=12∨k=13∨k=14∨k=15∨k=16:=by omega
 rcases this with rfl|rfl|rfl|rfl|rfl|rfl|rfl|rfl|rfl|rfl|rfl|rfl|rfl|rfl|rfl|rfl|rfl
 ·exact zvZ w
 ·exact zwa w
 ·exact zwb w
 ·exact zwc w
 ·exact zwd w
 ·exact zwe w
 ·exact zwf w
 ·exact zwg w
 ·exact zwh w
 ·exact zwi w
 ·exact ztT w
 ·exact ztU w
 ·exact ztV w
 ·exact ztW w
 ·exact ztX w
 ·exact ztY w
 ·exact ztZ w
end
section
open Go.RowKit
theorem zwj(w:World):Calls Tryz.prog 231 #[.string ⟨#[65,49]⟩] w (zaj w (zaw.getD 0 tyD).2 true):=by
 have h0:=qd (fun W=>zba 1 W (by omega));have aZ:=zat 1
 go_enter Tryz.func231,Tryz.ntmps231
 go_wp2_with fail;refine(h0.out _).mono ?_;rintro e w1 ⟨g1,c1,rs1,rfl,aI,au,ad⟩;rw[aZ];clear aZ;have Hc:=qd aI;clear aI;go_wp2_with fail;go_ret2;exact zaj.mk' g1 c1 rs1 (by rw[<-zac,Hc.out];decide) (by rw[Hc.out];decide) au ad
theorem zwk(w:World):Calls Tryz.prog 231 #[.string ⟨#[65,50]⟩] w (zaj w (zaw.getD 1 tyD).2 true):=by
 have h0:=qd (fun W=>zba 2 W (by omega));have aZ:=zat 2
 go_enter Tryz.func231,Tryz.ntmps231
 go_wp2_with fail;refine(h0.out _).mono ?_;rintro e w1 ⟨g1,c1,rs1,rfl,aI,au,ad⟩;rw[aZ];clear aZ;have Hc:=qd aI;clear aI;go_wp2_with fail;go_ret2;exact zaj.mk' g1 c1 rs1 (by rw[<-zac,Hc.out];decide) (by rw[Hc.out];decide) au ad
theorem zwl(w:World):Calls Tryz.prog 231 #[.string ⟨#[65,51]⟩] w (zaj w (zaw.getD 2 tyD).2 true):=by
 have h0:=qd (fun W=>zba 3 W (by omega));have aZ:=zat 3
 go_enter Tryz.func231,Tryz.ntmps231
 go_wp2_with fail;refine(h0.out _).mono ?_;rintro e w1 ⟨g1,c1,rs1,rfl,aI,au,ad⟩;rw[aZ];clear aZ;have Hc:=qd aI;clear aI;go_wp2_with fail;go_ret2;exact zaj.mk' g1 c1 rs1 (by rw[<-zac,Hc.out];decide) (by rw[Hc.out];decide) au ad
theorem zwm(w:World):Calls Tryz.prog 231 #[.string ⟨#[65,52]⟩] w (zaj w (zaw.getD 3 tyD).2 true):=by
 have h0:=qd (fun W=>zba 4 W (by omega));have aZ:=zat 4
 go_enter Tryz.func231,Tryz.ntmps231
 go_wp2_with fail;refine(h0.out _).mono ?_;rintro e w1 ⟨g1,c1,rs1,rfl,aI,au,ad⟩;rw[aZ];clear aZ;have Hc:=qd aI;clear aI;go_wp2_with fail;go_ret2;exact zaj.mk' g1 c1 rs1 (by rw[<-zac,Hc.out];decide) (by rw[Hc.out];decide) au ad
theorem zwn(w:World):Calls Tryz.prog 231 #[.string ⟨#[66,50]⟩] w (zaj w (zaw.getD 4 tyD).2 true):=by
 have h0:=qd (fun W=>zba 2 W (by omega));have aZ:=zat 2
 go_enter Tryz.func231,Tryz.ntmps231
 go_wp2_with fail;refine(h0.out _).mono ?_;rintro e w1 ⟨g1,c1,rs1,rfl,aI,au,ad⟩;rw[aZ];clear aZ;have h1:=qd (fun W ce (hW:Below w1.heap.size w1 W) (hE:Own W w1.heap.size w1.heap.size ce [1,0,(-2)])=>zbT w.heap.size g1 2 c1 w1.heap.size 3 ce (zaJ 2) [(1,0,(-2))] [1,0,(-2)] rs1 W (qt ad.size hW.size) rfl (by decide) ⟨by decide,by decide⟩ (by decide) (by decide) rfl aI (au.below hW) (fun r hr e=>by have:=(au.2.1 r hr).lt;omega) hE.cells);clear au aI;go_wp2_with fail;refine(h1.out _ 3 ((Below.refl _ _).alloc (qr _) _) (World.ownsRow_lit w1 _ 3 (qr _) (by decide) rfl)).mono ?_;rintro e w2 ⟨rs2,rfl,aH,ar,aF⟩;have ae:=(ad.alloc ad.size _).trans aF;clear aF h1;have Hc:=qd aH;clear aH;go_wp2_with fail;go_ret2;exact zaj.mk' g1 c1 rs2 (by rw[<-zac,Hc.out];decide) (by rw[Hc.out];decide) ar ae
theorem zwo(w:World):Calls Tryz.prog 231 #[.string ⟨#[66,51]⟩] w (zaj w (zaw.getD 5 tyD).2 true):=by
 have h0:=qd (fun W=>zba 3 W (by omega));have aZ:=zat 3
 go_enter Tryz.func231,Tryz.ntmps231
 go_wp2_with fail;refine(h0.out _).mono ?_;rintro e w1 ⟨g1,c1,rs1,rfl,aI,au,ad⟩;rw[aZ];clear aZ;have h1:=qd (fun W ce (hW:Below w1.heap.size w1 W) (hE:Own W w1.heap.size w1.heap.size ce [2,1,(-2)])=>zbT w.heap.size g1 3 c1 w1.heap.size 3 ce (zaJ 3) [(2,1,(-2))] [2,1,(-2)] rs1 W (qt ad.size hW.size) rfl (by decide) ⟨by decide,by decide⟩ (by decide) (by decide) rfl aI (au.below hW) (fun r hr e=>by have:=(au.2.1 r hr).lt;omega) hE.cells);clear au aI;go_wp2_with fail;refine(h1.out _ 3 ((Below.refl _ _).alloc (qr _) _) (World.ownsRow_lit w1 _ 3 (qr _) (by decide) rfl)).mono ?_;rintro e w2 ⟨rs2,rfl,aH,ar,aF⟩;have ae:=(ad.alloc ad.size _).trans aF;clear aF h1;have Hc:=qd aH;clear aH;go_wp2_with fail;go_ret2;exact zaj.mk' g1 c1 rs2 (by rw[<-zac,Hc.out];decide) (by rw[Hc.out];decide) ar ae
theorem zwp(w:World):Calls Tryz.prog 231 #[.string ⟨#[66,52]⟩] w (zaj w (zaw.getD 6 tyD).2 true):=by
 have h0:=qd (fun W=>zba 4 W (by omega));have aZ:=zat 4
 go_enter Tryz.func231,Tryz.ntmps231
 go_wp2_with fail;refine(h0.out _).mono ?_;rintro e w1 ⟨g1,c1,rs1,rfl,aI,au,ad⟩;rw[aZ];clear aZ;have h1:=qd (fun W ce (hW:Below w1.heap.size w1 W) (hE:Own W w1.heap.size w1.heap.size ce [3,2,(-2)])=>zbT w.heap.size g1 4 c1 w1.heap.size 3 ce (zaJ 4) [(3,2,(-2))] [3,2,(-2)] rs1 W (qt ad.size hW.size) rfl (by decide) ⟨by decide,by decide⟩ (by decide) (by decide) rfl aI (au.below hW) (fun r hr e=>by have:=(au.2.1 r hr).lt;omega) hE.cells);clear au aI;go_wp2_with fail;refine(h1.out _ 3 ((Below.refl _ _).alloc (qr _) _) (World.ownsRow_lit w1 _ 3 (qr _) (by decide) rfl)).mono ?_;rintro e w2 ⟨rs2,rfl,aH,ar,aF⟩;have ae:=(ad.alloc ad.size _).trans aF;clear aF h1;have Hc:=qd aH;clear aH;go_wp2_with fail;go_ret2;exact zaj.mk' g1 c1 rs2 (by rw[<-zac,Hc.out];decide) (by rw[Hc.out];decide) ar ae
theorem zwq(w:World):Calls Tryz.prog 231 #[.string ⟨#[67,51]⟩] w (zaj w (zaw.getD 7 tyD).2 true):=by
 have h0:=qd (fun W=>zba 3 W (by omega));have aZ:=zat 3
 go_enter Tryz.func231,Tryz.ntmps231
 go_wp2_with fail;refine(h0.out _).mono ?_;rintro e w1 ⟨g1,c1,rs1,rfl,aI,au,ad⟩;rw[aZ];clear aZ;have h1:=qd (fun W ce (hW:Below w1.heap.size w1 W) (hE:Own W w1.heap.size w1.heap.size ce [1,2,(-2)])=>zbT w.heap.size g1 3 c1 w1.heap.size 3 ce (zaJ 3) [(1,2,(-2))] [1,2,(-2)] rs1 W (qt ad.size hW.size) rfl (by decide) ⟨by decide,by decide⟩ (by decide) (by decide) rfl aI (au.below hW) (fun r hr e=>by have:=(au.2.1 r hr).lt;omega) hE.cells);clear au aI;go_wp2_with fail;refine(h1.out _ 3 ((Below.refl _ _).alloc (qr _) _) (World.ownsRow_lit w1 _ 3 (qr _) (by decide) rfl)).mono ?_;rintro e w2 ⟨rs2,rfl,aH,ar,aF⟩;have ae:=(ad.alloc ad.size _).trans aF;clear aF h1;have Hc:=qd aH;clear aH;go_wp2_with fail;go_ret2;exact zaj.mk' g1 c1 rs2 (by rw[<-zac,Hc.out];decide) (by rw[Hc.out];decide) ar ae
theorem zwr(w:World):Calls Tryz.prog 231 #[.string ⟨#[67,52]⟩] w (zaj w (zaw.getD 8 tyD).2 true):=by
 have h0:=qd (fun W=>zba 4 W (by omega));have aZ:=zat 4
 go_enter Tryz.func231,Tryz.ntmps231
 go_wp2_with fail;refine(h0.out _).mono ?_;rintro e w1 ⟨g1,c1,rs1,rfl,aI,au,ad⟩;rw[aZ];clear aZ;have h1:=qd (fun W ce (hW:Below w1.heap.size w1 W) (hE:Own W w1.heap.size w1.heap.size ce [2,3,(-2)])=>zbT w.heap.size g1 4 c1 w1.heap.size 3 ce (zaJ 4) [(2,3,(-2))] [2,3,(-2)] rs1 W (qt ad.size hW.size) rfl (by decide) ⟨by decide,by decide⟩ (by decide) (by decide) rfl aI (au.below hW) (fun r hr e=>by have:=(au.2.1 r hr).lt;omega) hE.cells);clear au aI;go_wp2_with fail;refine(h1.out _ 3 ((Below.refl _ _).alloc (qr _) _) (World.ownsRow_lit w1 _ 3 (qr _) (by decide) rfl)).mono ?_;rintro e w2 ⟨rs2,rfl,aH,ar,aF⟩;have ae:=(ad.alloc ad.size _).trans aF;clear aF h1;have Hc:=qd aH;clear aH;go_wp2_with fail;go_ret2;exact zaj.mk' g1 c1 rs2 (by rw[<-zac,Hc.out];decide) (by rw[Hc.out];decide) ar ae
theorem zws(w:World):Calls Tryz.prog 231 #[.string ⟨#[68,52]⟩] w (zaj w (zaw.getD 9 tyD).2 true):=by
 have h0:=qd (fun W=>zba 4 W (by omega));have aZ:=zat 4
 go_enter Tryz.func231,Tryz.ntmps231
 go_wp2_with fail;refine(h0.out _).mono ?_;rintro e w1 ⟨g1,c1,rs1,rfl,aI,au,ad⟩;rw[aZ];clear aZ;have h1:=qd (fun W ce (hW:Below w1.heap.size w1 W) (hE:Own W w1.heap.size w1.heap.size ce [2,3,0,3,2,0,1,3,(-1),3,1,(-1)])=>zbT w.heap.size g1 4 c1 w1.heap.size 12 ce (zaJ 4) [(2,3,0),(3,2,0),(1,3,(-1)),(3,1,(-1))] [2,3,0,3,2,0,1,3,(-1),3,1,(-1)] rs1 W (qt ad.size hW.size) rfl (by decide) ⟨by decide,by decide⟩ (by decide) (by decide) rfl aI (au.below hW) (fun r hr e=>by have:=(au.2.1 r hr).lt;omega) hE.cells);clear au aI;go_wp2_with fail;refine(h1.out _ 12 ((Below.refl _ _).alloc (qr _) _) (World.ownsRow_lit w1 _ 12 (qr _) (by decide) rfl)).mono ?_;rintro e w2 ⟨rs2,rfl,aH,ar,aF⟩;have ae:=(ad.alloc ad.size _).trans aF;clear aF h1;have Hc:=qd aH;clear aH;go_wp2_with fail;go_ret2;exact zaj.mk' g1 c1 rs2 (by rw[<-zac,Hc.out];decide) (by rw[Hc.out];decide) ar ae
theorem zua(w:World):Calls Tryz.prog 231 #[.string ⟨#[70,52]⟩] w (zaj w (zaw.getD 10 tyD).2 true):=by
 have h0:=qd (fun W=>zba 4 W (by omega));have aZ:=zat 4
 go_enter Tryz.func231,Tryz.ntmps231
 go_wp2_with fail;refine(h0.out _).mono ?_;rintro e w1 ⟨g1,c1,rs1,rfl,aI,au,ad⟩;rw[aZ];clear aZ;have h1:=qd (fun W ce (hW:Below w1.heap.size w1 W) (hE:Own W w1.heap.size w1.heap.size ce [2,1,(-2)])=>zbT w.heap.size g1 4 c1 w1.heap.size 3 ce (zaJ 4) [(2,1,(-2))] [2,1,(-2)] rs1 W (qt ad.size hW.size) rfl (by decide) ⟨by decide,by decide⟩ (by decide) (by decide) rfl aI (au.below hW) (fun r hr e=>by have:=(au.2.1 r hr).lt;omega) hE.cells);clear au aI;go_wp2_with fail;refine(h1.out _ 3 ((Below.refl _ _).alloc (qr _) _) (World.ownsRow_lit w1 _ 3 (qr _) (by decide) rfl)).mono ?_;rintro e w2 ⟨rs2,rfl,aH,ar,aF⟩;have ae:=(ad.alloc ad.size _).trans aF;clear aF h1;have Hc:=qd aH;clear aH;go_wp2_with fail;go_ret2;exact zaj.mk' g1 c1 rs2 (by rw[<-zac,Hc.out];decide) (by rw[Hc.out];decide) ar ae
theorem zub(w:World):Calls Tryz.prog 231 #[.string ⟨#[71,50]⟩] w (zaj w (zaw.getD 11 tyD).2 true):=by
 have h0:=qd (fun W=>zba 2 W (by omega));have aZ:=zat 2
 go_enter Tryz.func231,Tryz.ntmps231
 go_wp2_with fail;refine(h0.out _).mono ?_;rintro e w1 ⟨g1,c1,rs1,rfl,aI,au,ad⟩;rw[aZ];clear aZ;have h1:=qd (fun W ce (hW:Below w1.heap.size w1 W) (hE:Own W w1.heap.size w1.heap.size ce [1,0,(-3)])=>zbT w.heap.size g1 2 c1 w1.heap.size 3 ce (zaJ 2) [(1,0,(-3))] [1,0,(-3)] rs1 W (qt ad.size hW.size) rfl (by decide) ⟨by decide,by decide⟩ (by decide) (by decide) rfl aI (au.below hW) (fun r hr e=>by have:=(au.2.1 r hr).lt;omega) hE.cells);clear au aI;go_wp2_with fail;refine(h1.out _ 3 ((Below.refl _ _).alloc (qr _) _) (World.ownsRow_lit w1 _ 3 (qr _) (by decide) rfl)).mono ?_;rintro e w2 ⟨rs2,rfl,aH,ar,aF⟩;have ae:=(ad.alloc ad.size _).trans aF;clear aF h1;have Hc:=qd aH;clear aH;go_wp2_with fail;go_ret2;exact zaj.mk' g1 c1 rs2 (by rw[<-zac,Hc.out];decide) (by rw[Hc.out];decide) ar ae
theorem zuc(w:World):Calls Tryz.prog 231 #[.string ⟨#[65,49,126]⟩] w (zaj w (zaw.getD 12 tyD).2 true):=by
 have h0:=qd (fun W=>zba 2 W (by omega));have aZ:=zat 2
 go_enter Tryz.func231,Tryz.ntmps231
 go_wp2_with fail;refine(h0.out _).mono ?_;rintro e w1 ⟨g1,c1,rs1,rfl,aI,au,ad⟩;rw[aZ];clear aZ;have h1:=qd (fun W ce (hW:Below w1.heap.size w1 W) (hE:Own W w1.heap.size w1.heap.size ce [0,1,(-2),1,0,(-2)])=>zbT w.heap.size g1 2 c1 w1.heap.size 6 ce (zaJ 2) [(0,1,(-2)),(1,0,(-2))] [0,1,(-2),1,0,(-2)] rs1 W (qt ad.size hW.size) rfl (by decide) ⟨by decide,by decide⟩ (by decide) (by decide) rfl aI (au.below hW) (fun r hr e=>by have:=(au.2.1 r hr).lt;omega) hE.cells);clear au aI;go_wp2_with fail;refine(h1.out _ 6 ((Below.refl _ _).alloc (qr _) _) (World.ownsRow_lit w1 _ 6 (qr _) (by decide) rfl)).mono ?_;rintro e w2 ⟨rs2,rfl,aH,ar,aF⟩;have ae:=(ad.alloc ad.size _).trans aF;clear aF h1;have Hc:=qd aH;clear aH;go_wp2_with fail;go_ret2;exact zaj.mk' g1 c1 rs2 (by rw[<-zac,Hc.out];decide) (by rw[Hc.out];decide) ar ae
theorem zud(w:World):Calls Tryz.prog 231 #[.string ⟨#[65,50,126]⟩] w (zaj w (zaw.getD 13 tyD).2 true):=by
 have h0:=qd (fun W=>zba 3 W (by omega));have aZ:=zat 3
 go_enter Tryz.func231,Tryz.ntmps231
 go_wp2_with fail;refine(h0.out _).mono ?_;rintro e w1 ⟨g1,c1,rs1,rfl,aI,au,ad⟩;rw[aZ];clear aZ;have h1:=qd (fun W ce (hW:Below w1.heap.size w1 W) (hE:Own W w1.heap.size w1.heap.size ce [0,2,(-1),2,0,(-1)])=>zbT w.heap.size g1 3 c1 w1.heap.size 6 ce (zaJ 3) [(0,2,(-1)),(2,0,(-1))] [0,2,(-1),2,0,(-1)] rs1 W (qt ad.size hW.size) rfl (by decide) ⟨by decide,by decide⟩ (by decide) (by decide) rfl aI (au.below hW) (fun r hr e=>by have:=(au.2.1 r hr).lt;omega) hE.cells);clear au aI;go_wp2_with fail;refine(h1.out _ 6 ((Below.refl _ _).alloc (qr _) _) (World.ownsRow_lit w1 _ 6 (qr _) (by decide) rfl)).mono ?_;rintro e w2 ⟨rs2,rfl,aH,ar,aF⟩;have ae:=(ad.alloc ad.size _).trans aF;clear aF h1;have Hc:=qd aH;clear aH;go_wp2_with fail;go_ret2;exact zaj.mk' g1 c1 rs2 (by rw[<-zac,Hc.out];decide) (by rw[Hc.out];decide) ar ae
theorem zue(w:World):Calls Tryz.prog 231 #[.string ⟨#[65,51,126]⟩] w (zaj w (zaw.getD 14 tyD).2 true):=by
 have h0:=qd (fun W=>zba 4 W (by omega));have aZ:=zat 4
 go_enter Tryz.func231,Tryz.ntmps231
 go_wp2_with fail;refine(h0.out _).mono ?_;rintro e w1 ⟨g1,c1,rs1,rfl,aI,au,ad⟩;rw[aZ];clear aZ;have h1:=qd (fun W ce (hW:Below w1.heap.size w1 W) (hE:Own W w1.heap.size w1.heap.size ce [0,3,(-1),3,0,(-1)])=>zbT w.heap.size g1 4 c1 w1.heap.size 6 ce (zaJ 4) [(0,3,(-1)),(3,0,(-1))] [0,3,(-1),3,0,(-1)] rs1 W (qt ad.size hW.size) rfl (by decide) ⟨by decide,by decide⟩ (by decide) (by decide) rfl aI (au.below hW) (fun r hr e=>by have:=(au.2.1 r hr).lt;omega) hE.cells);clear au aI;go_wp2_with fail;refine(h1.out _ 6 ((Below.refl _ _).alloc (qr _) _) (World.ownsRow_lit w1 _ 6 (qr _) (by decide) rfl)).mono ?_;rintro e w2 ⟨rs2,rfl,aH,ar,aF⟩;have ae:=(ad.alloc ad.size _).trans aF;clear aF h1;have Hc:=qd aH;clear aH;go_wp2_with fail;go_ret2;exact zaj.mk' g1 c1 rs2 (by rw[<-zac,Hc.out];decide) (by rw[Hc.out];decide) ar ae
theorem zuf(w:World):Calls Tryz.prog 231 #[.string ⟨#[67,50,126]⟩] w (zaj w (zaw.getD 15 tyD).2 true):=by
 have h0:=qd (fun W=>zba 3 W (by omega));have aZ:=zat 3
 go_enter Tryz.func231,Tryz.ntmps231
 go_wp2_with fail;refine(h0.out _).mono ?_;rintro e w1 ⟨g1,c1,rs1,rfl,aI,au,ad⟩;rw[aZ];clear aZ;have h1:=qd (fun W ce (hW:Below w1.heap.size w1 W) (hE:Own W w1.heap.size w1.heap.size ce [1,0,(-2),1,2,(-2)])=>zbT w.heap.size g1 3 c1 w1.heap.size 6 ce (zaJ 3) [(1,0,(-2)),(1,2,(-2))] [1,0,(-2),1,2,(-2)] rs1 W (qt ad.size hW.size) rfl (by decide) ⟨by decide,by decide⟩ (by decide) (by decide) rfl aI (au.below hW) (fun r hr e=>by have:=(au.2.1 r hr).lt;omega) hE.cells);clear au aI;go_wp2_with fail;refine(h1.out _ 6 ((Below.refl _ _).alloc (qr _) _) (World.ownsRow_lit w1 _ 6 (qr _) (by decide) rfl)).mono ?_;rintro e w2 ⟨rs2,rfl,aH,ar,aF⟩;have ae:=(ad.alloc ad.size _).trans aF;clear aF h1;have Hc:=qd aH;clear aH;go_wp2_with fail;go_ret2;exact zaj.mk' g1 c1 rs2 (by rw[<-zac,Hc.out];decide) (by rw[Hc.out];decide) ar ae
theorem zug(w:World):Calls Tryz.prog 231 #[.string ⟨#[71,50,126]⟩] w (zaj w (zaw.getD 16 tyD).2 true):=by
 have h0:=qd (fun W=>zba 3 W (by omega));have aZ:=zat 3
 go_enter Tryz.func231,Tryz.ntmps231
 go_wp2_with fail;refine(h0.out _).mono ?_;rintro e w1 ⟨g1,c1,rs1,rfl,aI,au,ad⟩;rw[aZ];clear aZ;have h1:=qd (fun W ce (hW:Below w1.heap.size w1 W) (hE:Own W w1.heap.size w1.heap.size ce [2,1,(-3)])=>zbT w.heap.size g1 3 c1 w1.heap.size 3 ce (zaJ 3) [(2,1,(-3))] [2,1,(-3)] rs1 W (qt ad.size hW.size) rfl (by decide) ⟨by decide,by decide⟩ (by decide) (by decide) rfl aI (au.below hW) (fun r hr e=>by have:=(au.2.1 r hr).lt;omega) hE.cells);clear au aI;go_wp2_with fail;refine(h1.out _ 3 ((Below.refl _ _).alloc (qr _) _) (World.ownsRow_lit w1 _ 3 (qr _) (by decide) rfl)).mono ?_;rintro e w2 ⟨rs2,rfl,aH,ar,aF⟩;have ae:=(ad.alloc ad.size _).trans aF;clear aF h1;have Hc:=qd aH;clear aH;go_wp2_with fail;go_ret2;exact zaj.mk' g1 c1 rs2 (by rw[<-zac,Hc.out];decide) (by rw[Hc.out];decide) ar ae
theorem zna(k:Nat)(hk:k<17)(w:World):Calls Tryz.prog 231 #[.string ⟨(zaw.getD k tyD).1.toArray⟩] w (zaj w (zaw.getD k tyD).2 true):=by
 have:k=0∨k=1∨k=2∨k=3∨k=4∨k=5∨k=6∨k=7∨k=8∨k=9∨k=10∨k=11∨k=12∨k=13∨k=14∨k=15∨k=16:=by omega
 rcases this with rfl|rfl|rfl|rfl|rfl|rfl|rfl|rfl|rfl|rfl|rfl|rfl|rfl|rfl|rfl|rfl|rfl
 ·exact zwj w
 ·exact zwk w
 ·exact zwl w
 ·exact zwm w
 ·exact zwn w
 ·exact zwo w
 ·exact zwp w
 ·exact zwq w
 ·exact zwr w
 ·exact zws w
 ·exact zua w
 ·exact zub w
 ·exact zuc w
 ·exact zud w
 ·exact zue w
 ·exact zuf w
 ·exact zug w
end
section
open Go.RowKit
open Go.Lib (join decDigits itoa)
theorem zyc(W:World)(x y z:List UInt8)(hz:x++y=z)(h:z.length<=9223372036854775807):(Op.stringOp .add ⟨x.toArray⟩ ⟨y.toArray⟩).run Tryz.prog W= .ok (.string ⟨z.toArray⟩) W:=by
 subst hz;rw[qA] at h;rw[run_string_add_sum W _ _ (by simp[ByteArray.size];omega),ByteArray.mk_append_mk]
end
section
open Go.RowKit
theorem zHR:(Tryz.prog.info? 9).map (fun i=>(i.zero,i.size,i.bytes))=some (some (.string ⟨#[]⟩),1,16):=by kernel_rfl
def zbp(w:World)(B g cap:Nat)(xs:List ByteArray):Prop:=zaE w B 9 1 g cap xs.length (xs.map Value.string)
section
variable {w w':World} {B g cap:Nat} {xs:List ByteArray}
theorem zbp.empty(hB:B<=w.heap.size):zbp (w.alloc (.cells #[] 9)) B w.heap.size 0 []:=World.ownsRow_lit w #[] 0 hB (by decide) rfl
theorem zbp.one(x:ByteArray)(hB:B<=w.heap.size):zbp (w.alloc (.cells #[.string x] 9)) B w.heap.size 1 [x]:=World.ownsRow_lit w #[.string x] 1 hB (by decide) rfl
theorem zbp.cell(h:zbp w B g cap xs):∀(j:Nat) x,xs[j]? =some x->w.cell? ⟨g,0+j,none⟩=some (.string x):=by
 intro j x hx;have hj:j<xs.length:=(List.getElem?_eq_some_iff.1 hx).1;rw[Nat.zero_add,zaE.cell h j (by rw[List.length_map];exact hj)];have:xs[j]=x:=by rw[List.getElem?_eq_getElem hj] at hx;exact Option.some.inj hx
 simp[this]
theorem zbp.capLe(h:zbp w B g cap xs):xs.length<=cap:=by obtain⟨cur,-,h2,-⟩:=zaE.row h;exact h2
theorem zgg{ops:Array Oper}{rest:List Oper}{o:Oper}{a:Act}{Q:Exit->Act->World->Prop}(dH:o.guard=none)(s x:Operand)
 (ho:o.op= .call {callee:= .builtin .append,args:=#[s,x],argTypes:=#[99,99]})
 (B g cap n H:Nat) (xs:List ByteArray) (z:ByteArray) (w W:World) (hn:xs.length=n) (hW:W=w.alloc (.cells #[.string z] 9)) (hH:w.heap.size=H) (ai:zbp w B g cap xs)
 (hs:a.eval s=(qS (some ⟨g,0,none⟩) n cap)) (hx:a.eval x=(qS (some ⟨H,0,none⟩) 1 1)) (am:n+1<=1048576)
 (h:∀g' cap' w',zbp w' B g' cap' (xs++[z])->w.grownBy w' (some g)->(g'=g∨w.heap.size<g')->wpList Tryz.prog ops Q rest (a.put o.dst (qS (some ⟨g',0,none⟩) (n+1) cap')) w'):
 wpList Tryz.prog ops Q (o::rest) a W:=by
 subst hn;subst hW;subst hH;have db:=zbp.one (w:=w) (B:=w.heap.size) z (qr _);refine zfs zHR Tryz.underlying99 rfl (by decide) (by decide) dH s x ho B g cap xs.length (xs.map Value.string) (zaE.alloc ai _) w.heap.size 0 1 1 [.string z] rfl ?_ ?_ hs hx am ?_
 ·intro j u hu;have hj:j=0:=by have:=(List.getElem?_eq_some_iff.1 hu).1;simp at this;exact this
  subst hj;have:=db.cell 0 z rfl;rw[this];simpa using hu
 ·intro u hu;simp at hu;subst hu;rfl
 ·intro g' cap' w' h2 h3 h4;refine h g' cap' w' ?_ ⟨h3.os,h3.tape,h3.output,qt (by simp) h3.size,fun k hk ao=>(h3.block k (by simp;omega) ao).trans (Below.heap_alloc _ _ _ hk)⟩ (h4.imp id (by simp;omega));unfold zbp;rw[List.map_append,qA];exact h2
end
end
end Go.Proofs.YtlgcmaoimpgedaaGreatDoor

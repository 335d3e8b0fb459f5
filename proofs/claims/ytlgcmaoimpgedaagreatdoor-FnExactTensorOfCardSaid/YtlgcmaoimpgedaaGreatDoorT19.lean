/- Grow Conn Nam NamO -/
import Derived.Test.YtlgcmaoimpgedaaGreatDoorT18
set_option maxHeartbeats 2000000
set_option maxRecDepth 100000
set_option linter.unusedSimpArgs false
namespace Go.Proofs.YtlgcmaoimpgedaaGreatDoor
open Go.Value renaming slice->qS
section
open Go.RowKit
theorem zuo(c:LL)(s:LI)(i j:Nat)(hi:i<s.length)(hj:j<s.length):ent (zaW c s) i j=ent c (s.getD i 0).toNat (s.getD j 0).toNat:=by
 unfold zaW
 conv=>lhs;unfold ent
 simp[List.getD,hi,hj,zaP]
theorem zzM{l:List Nat}(h:zxK l=true):l.Pairwise (·<·):=by
 induction l with
 |nil=>simp
 |cons x l ih=>
  cases l with
  |nil=>simp
  |cons y l=>
   unfold zxK at h;rw[Bool.and_eq_true,decide_eq_true_eq] at h;have h2:=ih h.2;rw[List.pairwise_cons];refine⟨fun z hz=>?_,h2⟩
   rcases List.mem_cons.1 hz with e|e
   ·omega
   ·have:=(List.pairwise_cons.1 h2).1 z e;omega
structure zgp(n:Nat)(p:List Nat):Prop where
 asc:p.Pairwise (·<·)
 l1:1<=p.length
 l4:p.length<=4
 lt:∀x∈p,x<n
theorem zHW{n:Nat}{p:List Nat}(h:znL n p=true):zgp n p:=by
 unfold znL at h;simp only[Bool.and_eq_true,decide_eq_true_eq] at h;exact⟨zzM h.1,h.2.1,h.2.2.1,fun x hx=>of_decide_eq_true (List.all_eq_true.1 h.2.2.2 x hx)⟩
theorem zgp.at{n:Nat}{p:List Nat}(h:zgp n p){t:Nat}(ht:t<p.length):(zae p).getD t 0=(p[t]:Int)/\p[t]<n:=
 ⟨by simp[zae,List.getD,ht],h.lt _ (List.getElem_mem _)⟩
theorem zgp.in{n:Nat}{p:List Nat}(h:zgp n p)(t:Nat)(ht:t<(zae p).length):0<=(zae p).getD t 0/\(zae p).getD t 0<n:=by
 rw[zai] at ht;have:=h.at ht;rw[this.1];omega
theorem zgp.asc2{n:Nat}{p:List Nat}(h:zgp n p)(t:Nat)(ht:t+1<(zae p).length):(zae p).getD t 0<(zae p).getD (t+1) 0:=by
 rw[zai] at ht;rw[(h.at (t:=t) (by omega)).1,(h.at ht).1];have:=List.pairwise_iff_getElem.1 h.asc t (t+1) (by omega) ht (by omega);omega
theorem zDy{c:LL}(hC:IsC c){p:List Nat}(h:zgp c.length p):IsC (zaW c (zae p)):=by
 have hl:(zaW c (zae p)).length=p.length:=by simp[zaW,zae]
 refine⟨by rw[hl];exact h.l1,by rw[hl];exact h.l4,fun i hi=>?_,fun i hi j hj=>?_⟩
 ·have kl:i<(zae p).length:=by rw[zai];omega
  rw[hl];simp only[zaW,List.getD,List.getElem?_map];rw[List.getElem?_eq_getElem kl];simp[zaP,zai]
 ·rw[hl] at hi hj;have e1:=h.at hi;have e2:=h.at hj;unfold zcG;rw[zuo _ _ _ _ (by rw[zai];exact hi) (by rw[zai];exact hj),zuo _ _ _ _ (by rw[zai];exact hj) (by rw[zai];exact hi),e1.1,e2.1,Int.toNat_natCast,Int.toNat_natCast];have hc:=hC.2.2.2 p[i] e1.2 p[j] e2.2;unfold zcG at hc;by_cases e:i=j
  ·subst e;rw[if_pos rfl] at hc ⊢;exact hc
  ·rw[if_neg e]
   have ao:p[i]≠p[j]:=by
    intro e3
    rcases Nat.lt_or_gt_of_ne e with h1|h1
    ·have:=List.pairwise_iff_getElem.1 h.asc i j hi hj h1;omega
    ·have:=List.pairwise_iff_getElem.1 h.asc j i hj hi h1;omega
   rw[if_neg ao] at hc;exact hc
def zaL(c:LL):List (List Nat):=(zcL (zbx c) c.length).getD []
structure zDz(c:LL)(seen:List Bool)(P:List (List Nat)):Prop where
 i:zbA (zbx c) c.length=some (seen,P)
 s:zcL (zbx c) c.length=some P
 g:∀p∈P,zgp c.length p
 p:∀i,i<c.length->∃p,ziD (zbx c) i=some p/\1<=p.length/\p.length<=4
 e:zaL c=P
 len:P.length<=4
theorem zwy{tab:List (List Nat)}:∀{t:Nat} {out:List (List Nat)},zcL tab t=some out->out.length<=t:=by
 intro t
 induction t with
 |zero=>intro out h;simp[zcL] at h;simp[<-h]
 |succ t ih=>
  intro out h;unfold zcL at h
  split at h
  ·rename_i o p h1 h2
   have:=ih h1;simp only[Option.some.injEq] at h;rw[<-h]
   split <;> simp <;> omega
  ·simp at h
theorem zgF{c:LL}(hC:IsC c):∃seen,zDz c seen (zaL c):=by
 obtain⟨seen,P,h1,h2,h3,h4⟩:=zpa hC;have e:zaL c=P:=by unfold zaL;rw[h2];rfl
 rw[e];exact⟨seen,h1,h2,fun p hp=>zHW (h3 p hp),h4,e,qt (zwy h2) hC.2.1⟩
abbrev sFinite:ByteArray:=⟨#[102,105,110,105,116,101]⟩
abbrev sExp:ByteArray:=⟨#[101,120,112,111,110,101,110,116,105,97,108]⟩
abbrev sPoly:ByteArray:=⟨#[112,111,108,121,110,111,109,105,97,108]⟩
abbrev sNone:ByteArray:=⟨#[]⟩
end
section
theorem zzN(F:LL->Bool)(f1:F [[1]]=true)(f2:(Z2.all fun a=>F (zm2 a))=true)(f3:(Z2.all fun a=>Z2.all fun b=>Z2.all fun e=>F (zm3 a b e))=true)
 (f4:(Z2.all fun a=>Z2.all fun b=>Z2.all fun d=>Z2.all fun e=>Z2.all fun f=>Z2.all fun g=>F (zm4 a b d e f g))=true) {c:LL} (hC:IsC c):F (zo c)=true:=by
 have:c.length=1∨c.length=2∨c.length=3∨c.length=4:=by have:=hC.1;have:=hC.2.1;omega
 rcases this with hn|hn|hn|hn
 ·obtain⟨r0,rfl⟩:=zxL hn;obtain⟨x00,rfl⟩:=zxL (hC.2.2.1 0 (by simp));have d0:x00=2:=dg hC (i:=0) (by simp);subst d0;exact f1
 ·obtain⟨r0,r1,rfl⟩:=zqV hn;obtain⟨x00,x01,rfl⟩:=zqV (hC.2.2.1 0 (by simp));obtain⟨x10,x11,rfl⟩:=zqV (hC.2.2.1 1 (by simp));have d0:x00=2:=dg hC (i:=0) (by simp);have d1:x11=2:=dg hC (i:=1) (by simp);subst d0;subst d1;have s10:(if x10=0 then(0:Int) else 1)=if x01=0 then 0 else 1:=zeP hC (i:=1) (j:=0) (by simp) (by simp) (by decide);have e:zo [[2,x01],[x10,2]]=zm2 (if x01=0 then 0 else 1):=by simp[zo,zm2,s10]
  rw[e];exact List.all_eq_true.1 f2 _ (zeO x01)
 ·obtain⟨r0,r1,r2,rfl⟩:=zmL hn;obtain⟨x00,x01,x02,rfl⟩:=zmL (hC.2.2.1 0 (by simp));obtain⟨x10,x11,x12,rfl⟩:=zmL (hC.2.2.1 1 (by simp));obtain⟨x20,x21,x22,rfl⟩:=zmL (hC.2.2.1 2 (by simp));have d0:x00=2:=dg hC (i:=0) (by simp);have d1:x11=2:=dg hC (i:=1) (by simp);have d2:x22=2:=dg hC (i:=2) (by simp);subst d0;subst d1;subst d2;have s10:(if x10=0 then(0:Int) else 1)=if x01=0 then 0 else 1:=zeP hC (i:=1) (j:=0) (by simp) (by simp) (by decide);have s20:(if x20=0 then(0:Int) else 1)=if x02=0 then 0 else 1:=zeP hC (i:=2) (j:=0) (by simp) (by simp) (by decide);have s21:(if x21=0 then(0:Int) else 1)=if x12=0 then 0 else 1:=zeP hC (i:=2) (j:=1) (by simp) (by simp) (by decide);have e:zo [[2,x01,x02],[x10,2,x12],[x20,x21,2]]=zm3 (if x01=0 then 0 else 1) (if x02=0 then 0 else 1) (if x12=0 then 0 else 1):=by simp[zo,zm3,s10,s20,s21]
  rw[e];exact List.all_eq_true.1 (List.all_eq_true.1 (List.all_eq_true.1 f3 _ (zeO x01)) _ (zeO x02)) _ (zeO x12)
 ·obtain⟨r0,r1,r2,r3,rfl⟩:=zkl hn;obtain⟨x00,x01,x02,x03,rfl⟩:=zkl (hC.2.2.1 0 (by simp));obtain⟨x10,x11,x12,x13,rfl⟩:=zkl (hC.2.2.1 1 (by simp));obtain⟨x20,x21,x22,x23,rfl⟩:=zkl (hC.2.2.1 2 (by simp));obtain⟨x30,x31,x32,x33,rfl⟩:=zkl (hC.2.2.1 3 (by simp));have d0:x00=2:=dg hC (i:=0) (by simp);have d1:x11=2:=dg hC (i:=1) (by simp);have d2:x22=2:=dg hC (i:=2) (by simp);have d3:x33=2:=dg hC (i:=3) (by simp);subst d0;subst d1;subst d2;subst d3;have s10:(if x10=0 then(0:Int) else 1)=if x01=0 then 0 else 1:=zeP hC (i:=1) (j:=0) (by simp) (by simp) (by decide);have s20:(if x20=0 then(0:Int) else 1)=if x02=0 then 0 else 1:=zeP hC (i:=2) (j:=0) (by simp) (by simp) (by decide);have s30:(if x30=0 then(0:Int) else 1)=if x03=0 then 0 else 1:=zeP hC (i:=3) (j:=0) (by simp) (by simp) (by decide);have s21:(if x21=0 then(0:Int) else 1)=if x12=0 then 0 else 1:=zeP hC (i:=2) (j:=1) (by simp) (by simp) (by decide);have s31:(if x31=0 then(0:Int) else 1)=if x13=0 then 0 else 1:=zeP hC (i:=3) (j:=1) (by simp) (by simp) (by decide);have s32:(if x32=0 then(0:Int) else 1)=if x23=0 then 0 else 1:=zeP hC (i:=3) (j:=2) (by simp) (by simp) (by decide);have e:zo [[2,x01,x02,x03],[x10,2,x12,x13],[x20,x21,2,x23],[x30,x31,x32,2]]=zm4 (if x01=0 then 0 else 1) (if x02=0 then 0 else 1) (if x03=0 then 0 else 1) (if x12=0 then 0 else 1) (if x13=0 then 0 else 1) (if x23=0 then 0 else 1):=by simp[zo,zm4,s10,s20,s30,s21,s31,s32]
  rw[e];exact List.all_eq_true.1 (List.all_eq_true.1 (List.all_eq_true.1 (List.all_eq_true.1 (List.all_eq_true.1 (List.all_eq_true.1 f4 _ (zeO x01)) _ (zeO x02)) _ (zeO x03)) _ (zeO x12)) _ (zeO x13)) _ (zeO x23)
theorem zne(c:LL):zaL (zo c)=zaL c:=by unfold zaL;rw[ztA,zjJ]
theorem zHX(c:LL)(s:LI):zaW (zo c) s=zo (zaW c s):=by
 simp only[zaW,zaP,zo,List.map_map];apply List.map_congr_left;intro i _;simp only[Function.comp,List.map_map];apply List.map_congr_left;intro j _;exact zzp c i.toNat j.toNat
def znV(c:LL):Bool:=(zaL c).all fun p=>(zaL (zaW c (zae p))).length==1
theorem zJs:znV [[1]]=true:=by kernel_rfl
theorem zJt:(Z2.all fun a=>znV (zm2 a))=true:=by kernel_rfl
theorem zJu:(Z2.all fun a=>Z2.all fun b=>Z2.all fun e=>znV (zm3 a b e))=true:=by kernel_rfl
theorem zJv:(Z2.all fun a=>Z2.all fun b=>Z2.all fun d=>Z2.all fun e=>Z2.all fun f=>Z2.all fun g=>znV (zm4 a b d e f g))=true:=by kernel_rfl
theorem zDA{c:LL}(hC:IsC c):∀p∈zaL c,(zaL (zaW c (zae p))).length=1:=by
 have h:=zzN znV zJs zJt zJu zJv hC;unfold znV at h;rw[zne] at h;intro p hp;have:=List.all_eq_true.1 h p hp;rw[zHX,zne] at this;simpa using this
end
section
open Go.RowKit
open Go.Lib (join)
def zhE:List Bs:=zaw.map (·.1)
theorem zDB:zhE.length=17:=rfl
theorem zup{k:Nat}(hk:k<17):(zbs zhE)[k]? =some ⟨(zaw.getD k tyD).1.toArray⟩:=by
 have hl:k<zaw.length:=hk;unfold zbs zhE;simp[List.getD,hl]
theorem zzO:(⟨(join zhE [32]).toArray⟩:ByteArray)=⟨#[65,49,32,65,50,32,65,51,32,65,52,32,66,50,32,66,51,32,66,52,32,67,51,32,67,52,32,68,52,32,70,52,32,71,50,32,65,49,126,32,65,50,126,32,65,51,126,32,67,50,126,32,71,50,126]⟩:=by kernel_rfl
theorem zDC:∀x∈zhE,(32:UInt8) ∉ x:=by decide
theorem zDD:zhE≠[]:=by decide
theorem zwz(w:World)(hm:zeR w):Calls Tryz.prog 211 #[.string ⟨#[65,49,32,65,50,32,65,51,32,65,52,32,66,50,32,66,51,32,66,52,32,67,51,32,67,52,32,68,52,32,70,52,32,71,50,32,65,49,126,32,65,50,126,32,65,51,126,32,67,50,126,32,71,50,126]⟩,.string ⟨#[32]⟩] w fun e w'=>∃g cap,e= .returned (qS (some ⟨g,0,none⟩) 17 cap)/\zbp w' w.heap.size g cap (zbs zhE)/\Below w.heap.size w w':=by
 have h:=zuh 32 zhE w zDD (by rw[zDB];omega) zDC (by decide) hm;rw[zzO] at h;exact h.mono fun e w' ⟨g,h1,h2,h3⟩=>⟨g,17,h1,h2,h3⟩
theorem zqv(w:World):Calls Tryz.prog 239 #[] w fun e w'=>∃g cap,e= .returned (qS (some ⟨g,0,none⟩) 17 cap)/\zbp w' w.heap.size g cap (zbs zhE)/\Below w.heap.size w w':=by
 have ho:zbp (w.alloc (.cells ((zbs zhE).map Value.string).toArray 9)) w.heap.size w.heap.size 17 (zbs zhE):=World.ownsRow_lit w ((zbs zhE).map Value.string).toArray 17 (qr _) (by decide) rfl;have hb:Below w.heap.size w (w.alloc (.cells ((zbs zhE).map Value.string).toArray 9)):=(Below.refl _ _).alloc (qr _) _;have HO:=qd ho;have HB:=qd hb;clear ho hb
 go_enter Tryz.func239,Tryz.ntmps239
 go_wp2_with fail;go_ret;exact⟨_,17,rfl,HO.out,HB.out⟩
theorem znf(gc oc n cc:Nat)(c:LL)(w:World)(hn:c.length=n)(hC:IsC c)(mG:(zaL c).length=1)(ah:gc<w.heap.size)(hr:zal w gc oc c):
 Calls Tryz.prog 219 #[(qS (some ⟨gc,oc,none⟩) n cc)] w (zbb w (.string ⟨(zdY c).toArray⟩)):=by
 obtain⟨seen,hP⟩:=zgF hC;have HA:=qd (fun W (hW:Below w.heap.size w W) k (hk:k<17) gt ct (hg:gt<W.heap.size) (ht:zal W gt 0 (zaw.getD k tyD).2)=>zkK gc oc n cc gt 0 _ ct c (zaw.getD k tyD).2 W hn rfl hC (zql hk) (qL ah hW.size) hg (hr.below hW ah) ht);have HT:=qd (fun k (hk:k<17) W=>zmZ k hk W);have io:=fun W (hW:Below w.heap.size w W)=>zmq gc oc n cc c (zaL c) W hn hC hP.s hP.p (qL ah hW.size) (hr.below hW ah)
 rw[show((zaL c).length==1)=true by rw[mG];rfl] at io;have AX:=qd io;have ot:=qd (fun k (hk:k<17) h=>zoL (c:=c) hk h);have dO:=qd (fun k (hk:k<17) h=>zkq (c:=c) hk h);have mA:=qd (fun h=>zqm (c:=c) h);have HS:=qd (fun W=>zqv W);clear hr hC mG hP io hn;generalize zdY c=R at*
 go_enter Tryz.func219,Tryz.ntmps219
 go_wp2_with fail;have ad:=Below.refl w.heap.size w;have Hs:=qd (HS.out w);clear HS;refine Hs.out.mono ?_;rintro e w3 ⟨gN,cN,rfl,kB,ja⟩;have ag:=ad.trans (ja.mono ad.size);clear ja Hs ad;go_wp2_with fail;go_loopw [4,5,6,7,8] (fun kv _ _ _ _ wr=>∃k:Nat,k<=17/\kv= .int .i64 k/\Hid (zeQ c k=none)/\Below w3.heap.size w3 wr) (fun kv _ _ _ _ _=>17-(intOf kv).toNat)
 case atStart=>exact⟨0,by omega,rfl,rfl,Below.refl _ _⟩
 case round=>
  obtain⟨k,hk,rfl,aJ,hb⟩:=hrel;have dM:=ag.trans (hb.mono ag.size);by_cases ac:k<17
  ·have Hf:=qd (ot.out k ac aJ.out);have aL:=dO.out k ac aJ.out;have eU:=kB.cell k _ (zup ac);rw[Nat.zero_add] at eU;have dQ:=qd eU;have aA:=(hb.cell (p:=⟨gN,k,none⟩) (zaE.lt kB)).trans eU;have wn:=qd (HT.out k ac wr);have CE:=qd (fun W hW=>HA.out W hW k ac);have gI:=qd aL;clear aL aJ eU;generalize zaw.getD k tyD=T at*;obtain⟨nm,mt⟩:=T;have rP:Hid (Calls Tryz.prog 114 #[.string ⟨nm.toArray⟩] wr (zaj wr mt true)):=wn;have fU:wr.cell? ⟨gN,k,none⟩=some (.string ⟨nm.toArray⟩):=aA;have ow:Hid (w3.cell? ⟨gN,k,none⟩=some (.string ⟨nm.toArray⟩)):=dQ;clear wn aA dQ;go_wp2_with fail;refine rP.out.mono ?_;rintro e w4 ⟨g4,c4,r4,rfl,jo,aw,aM⟩;have jw:=dM.trans (aM.mono dM.size);have it:=hb.trans (aM.mono hb.size);have fe:zal w4 g4 0 mt:=by rw[<-jo];exact aw.rows2
   have jt:=qd (CE.out w4 jw g4 c4 aw.lt fe);have eQ:Hid (Calls Tryz.prog 240 #[(qS (some ⟨gc,oc,none⟩) n cc),(qS (some ⟨g4,0,none⟩) mt.length c4)] w4 (zbl w4 (zhD c mt) (zdm c mt))):=jt;have IT:Hid (zdm c mt=true->R=nm):=Hf;have yH:Hid (zeQ c (k+1)=if zdm c mt=true then some nm else none):=gI;clear rP CE jo aw aM fe jt Hf gI dM hb fU
   cases hi:zdm c mt with
   |true=>
    rw[hi] at eQ;have Hr:=qd (IT.out hi);clear hi;go_wp2_with fail;refine eQ.out.mono ?_;rintro e w5 ⟨g5,c5,rfl,aD,aQ⟩;have iZ:=it.trans (aQ.mono it.size);have yI:=(iZ.cell (p:=⟨gN,k,none⟩) (zaE.lt kB)).trans ow.out;have fW:=jw.trans (aQ.mono jw.size);clear eQ aD aQ it jw;go_wp2_with fail;go_ret;rw[Hr.out];exact⟨rfl,fW⟩
   |false=>
    rw[hi] at eQ;have da:=yH.out;rw[hi] at da;have qO:Hid (zeQ c (k+1)=none):=qd (by simpa using da);clear hi da;go_wp2_with fail;refine eQ.out.mono ?_;rintro e w5 ⟨g5,c5,rfl,aD,aQ⟩;have iZ:=it.trans (aQ.mono it.size);clear eQ aD aQ it jw;go_wp2_with fail;go_roundw
    case rel=>exact⟨k+1,by omega,by go_num,qO,iZ⟩
    case measure=>simp[intOf];omega
  ·obtain rfl:17=k:=by omega
   have Hr:Hid (R=[63]):=qd (mA.out aJ.out);have qK:=qd (AX.out wr dM);go_wp2_with fail;refine qK.out.mono ?_;rintro e w5 ⟨rfl,aQ⟩;have fW:=dM.trans (aQ.mono dM.size);clear dM aQ qK hb;go_wp2_with fail;go_ret;rw[Hr.out];exact⟨rfl,fW⟩
theorem zng(gc oc n cc:Nat)(c:LL)(w:World)(hn:c.length=n)(hC:IsC c)(mG:(zaL c).length=1)(ah:gc<w.heap.size)(hr:zal w gc oc c)(hm:zeR w):
 Calls Tryz.prog 213 #[(qS (some ⟨gc,oc,none⟩) n cc)] w (zbb w (.string ⟨(zdY c).toArray⟩)):=by
 obtain⟨seen,hP⟩:=zgF hC;have HA:=qd (fun W (hW:Below w.heap.size w W) k (hk:k<17) gt ct (hg:gt<W.heap.size) (ht:zal W gt 0 (zaw.getD k tyD).2)=>zkL gc oc n cc gt 0 _ ct c (zaw.getD k tyD).2 W hn rfl hC (zql hk) (qL ah hW.size) hg (hr.below hW ah) ht);have HT:=qd (fun k (hk:k<17) W=>zna k hk W);have io:=zmr gc oc n cc c (zaL c) seen w hn hC hP.i (fun p hp=>(hP.g p hp).l4) ah hr;rw[show((zaL c).length==1)=true by rw[mG];rfl] at io;have AX:=qd io;have ot:=qd (fun k (hk:k<17) h=>zoL (c:=c) hk h);have dO:=qd (fun k (hk:k<17) h=>zkq (c:=c) hk h);have mA:=qd (fun h=>zqm (c:=c) h);have HS:=qd (fun W (hW:Below w.heap.size w W)=>zwz W (hm.below hW));clear hr hC mG hP io hn hm;generalize zdY c=R at*
 go_enter Tryz.func213,Tryz.ntmps213
 go_wp2_with fail;refine AX.out.mono ?_;rintro e w1 ⟨rfl,ad⟩;have Hs:=qd (HS.out w1 ad);clear AX HS;go_wp2_with fail;refine Hs.out.mono ?_;rintro e w3 ⟨gN,cN,rfl,kB,ja⟩;have ag:=ad.trans (ja.mono ad.size);clear ja Hs ad;go_wp2_with fail;go_loopw [4,5,6,7,8,14] (fun _ _ _ _ _ kv wr=>∃k:Nat,k<=17/\kv= .int .i64 k/\Hid (zeQ c k=none)/\Below w3.heap.size w3 wr) (fun _ _ _ _ _ kv _=>17-(intOf kv).toNat)
 case atStart=>exact⟨0,by omega,rfl,rfl,Below.refl _ _⟩
 case round=>
  obtain⟨k,hk,rfl,aJ,hb⟩:=hrel;have dM:=ag.trans (hb.mono ag.size);by_cases ac:k<17
  ·have Hf:=qd (ot.out k ac aJ.out);have aL:=dO.out k ac aJ.out;have eU:=kB.cell k _ (zup ac);rw[Nat.zero_add] at eU;have dQ:=qd eU;have aA:=(hb.cell (p:=⟨gN,k,none⟩) (zaE.lt kB)).trans eU;have wn:=qd (HT.out k ac wr);have CE:=qd (fun W hW=>HA.out W hW k ac);have gI:=qd aL;clear aL aJ eU;generalize zaw.getD k tyD=T at*;obtain⟨nm,mt⟩:=T;have rP:Hid (Calls Tryz.prog 231 #[.string ⟨nm.toArray⟩] wr (zaj wr mt true)):=wn;have fU:wr.cell? ⟨gN,k,none⟩=some (.string ⟨nm.toArray⟩):=aA;have ow:Hid (w3.cell? ⟨gN,k,none⟩=some (.string ⟨nm.toArray⟩)):=dQ;clear wn aA dQ;go_wp2_with fail;refine rP.out.mono ?_;rintro e w4 ⟨g4,c4,r4,rfl,jo,aw,aM⟩;have jw:=dM.trans (aM.mono dM.size);have it:=hb.trans (aM.mono hb.size);have fe:zal w4 g4 0 mt:=by rw[<-jo];exact aw.rows2
   have jt:=qd (CE.out w4 jw g4 c4 aw.lt fe);have eQ:Hid (Calls Tryz.prog 232 #[(qS (some ⟨gc,oc,none⟩) n cc),(qS (some ⟨g4,0,none⟩) mt.length c4)] w4 (zbl w4 (zhD c mt) (zdm c mt))):=jt;have IT:Hid (zdm c mt=true->R=nm):=Hf;have yH:Hid (zeQ c (k+1)=if zdm c mt=true then some nm else none):=gI;clear rP CE jo aw aM fe jt Hf gI dM hb fU
   cases hi:zdm c mt with
   |true=>
    rw[hi] at eQ;have Hr:=qd (IT.out hi);clear hi;go_wp2_with fail;refine eQ.out.mono ?_;rintro e w5 ⟨g5,c5,rfl,aD,aQ⟩;have iZ:=it.trans (aQ.mono it.size);have yI:=(iZ.cell (p:=⟨gN,k,none⟩) (zaE.lt kB)).trans ow.out;have fW:=jw.trans (aQ.mono jw.size);clear eQ aD aQ it jw;go_wp2_with fail;go_ret;rw[Hr.out];exact⟨rfl,fW⟩
   |false=>
    rw[hi] at eQ;have da:=yH.out;rw[hi] at da;have qO:Hid (zeQ c (k+1)=none):=qd (by simpa using da);clear hi da;go_wp2_with fail;refine eQ.out.mono ?_;rintro e w5 ⟨g5,c5,rfl,aD,aQ⟩;have iZ:=it.trans (aQ.mono it.size);clear eQ aD aQ it jw;go_wp2_with fail;go_roundw
    case rel=>exact⟨k+1,by omega,by go_num,qO,iZ⟩
    case measure=>simp[intOf];omega
  ·obtain rfl:17=k:=by omega
   have Hr:Hid (R=[63]):=qd (mA.out aJ.out);go_wp2_with fail;go_ret;rw[Hr.out];exact⟨rfl,dM⟩
end
section
open Go.RowKit
open Go.Lib (join)
theorem zqw(c:UInt8)(x:List UInt8):∀A:List (List UInt8),A≠[]->join (A++[x]) [c]=join A [c]++[c]++x
 |[],h=>absurd rfl h
 |[a],_=>by simp[join,List.intercalate,List.intersperse]
 |a::b::A,_=>by
  have ih:=zqw c x (b::A) (by simp);have e1:join (a::b::A) [c]=a++c::join (b::A) [c]:=by simp[join,List.intercalate,List.intersperse]
  have e2:join (a::b::A++[x]) [c]=a++c::join (b::A++[x]) [c]:=by simp[join,List.intercalate,List.intersperse]
  rw[e2,ih,e1];simp
theorem zjp(c:UInt8):∀L:List (List UInt8),(∀x∈L,x.length<=3)->(join L [c]).length<=4*L.length
 |[],_=>by simp[join,List.intercalate]
 |[a],h=>by have:=h a (by simp);simp[join,List.intercalate];omega
 |a::b::L,h=>by
  have ih:=zjp c (b::L) fun x hx=>h x (by simp[hx])
  have ha:=h a (by simp);have e1:join (a::b::L) [c]=a++c::join (b::L) [c]:=by simp[join,List.intercalate,List.intersperse]
  rw[e1];simp only[qA,List.length_cons] at ih ⊢;omega
def zdc(c:LL):List Bs:=(zaL c).map fun p=>zdY (zaW c (zae p))
def zbq(c:LL)(k:Nat):List Bs:=((zaL c).take k).map fun p=>zdY (zaW c (zae p))
theorem zrV(c:LL)(k:Nat)(hk:k<(zaL c).length):zbq c (k+1)=zbq c k++[zdY (zaW c (zae ((zaL c).getD k [])))]:=by
 have e:(zaL c).take (k+1)=(zaL c).take k++[(zaL c)[k]]:=qT hk;have e2:(zaL c).getD k []=(zaL c)[k]:=by simp[List.getD,hk]
 unfold zbq;rw[e,e2,List.map_append];rfl
theorem zjq(c:LL)(k:Nat)(hk:k<=(zaL c).length):(zbq c k).length=k:=by unfold zbq;rw[List.length_map,List.length_take];omega
theorem zqx(c:LL)(k:Nat):∀x∈zbq c k,x.length<=3:=fun x hx=>by
 obtain⟨p,-,rfl⟩:=List.mem_map.1 hx;exact(zgE _ (zrP _)).2.1
theorem zuq(c:LL):zbq c (zaL c).length=zdc c:=by unfold zbq zdc;rw[List.take_length]
theorem zJw{w:World}{B g c n:Nat}{L:List (List UInt8)}(x:UInt8)(ho:zbp w B g c (zbs L))(hn:L.length=n)(hN:n<=1048576)(hl:(join L [x]).length<=140737488355328):
 Calls Tryz.prog 214 #[(qS (some ⟨g,0,none⟩) n c),.string ⟨#[x]⟩] w (zbb w (.string ⟨(join L [x]).toArray⟩)):=by
 subst hn;have e44:(⟨#[x]⟩:ByteArray).data.toList=[x]:=rfl;have cC:(zbs L).length=L.length:=by simp[zbs]
 have hj:=Any.strings_Join Tryz.lays156 Tryz.Builder_Extra_156 g 0 c (zbs L) ⟨#[x]⟩ w ho.cell (zaE.lt ho) (by omega) ho.capLe (by rw[zrR,e44];exact hl)
 change Calls Tryz.prog 214 _ _ _ at hj
 rw[zrR,e44,cC] at hj;exact hj
theorem zqy{c:LL}(hC:IsC c):∀k,k<(zaL c).length->zgp c.length ((zaL c).getD k [])/\(zaL (zaW c (zae ((zaL c).getD k [])))).length=1/\IsC (zaW c (zae ((zaL c).getD k []))):=fun k hk=>by
 obtain⟨seen,hP⟩:=zgF hC;have hm:(zaL c).getD k []∈zaL c:=by simp[List.getD,hk]
 exact⟨hP.g _ hm,zDA hC _ hm,zDy hC (hP.g _ hm)⟩
theorem zre(gc oc n cc:Nat)(c:LL)(w:World)(hn:c.length=n)(hC:IsC c)(ah:gc<w.heap.size)(hr:zal w gc oc c)(hm:zeR w):
 Calls Tryz.prog 163 #[(qS (some ⟨gc,oc,none⟩) n cc)] w (zbb w (.string ⟨(join (zdc c) [120]).toArray⟩)):=by
 obtain⟨seen,uV⟩:=zgF hC;have aN:Below w.heap.size w (w.alloc (.cells #[] 9)):=(Below.refl _ _).alloc (qr _) _;have MK:=zgZ gc oc n cc c (zaL c) seen _ hn hC uV.i (fun p hp=>(uV.g p hp).l4) (qL ah aN.size) (hr.below aN ah);have HO:=qd MK;have CF:=uV.len;have HP:=qd (zqy hC);have IU:=qd (fun W (hW:Below w.heap.size w W) gk ck (p:List Nat) (hp:zgp c.length p) (hg:gk<W.heap.size) (hc:zag W gk 0 (zae p))=>zjG gc oc n cc gk 0 p.length ck c (zae p) W hn (zai p) (by rw[zai];exact hp.l4) (fun j hj=>hC.2.2.1 j hj) hp.in (qL ah hW.size) hg (hr.below hW ah) hc);have Gl:=qd (fun W (hW:Below w.heap.size w W) gk m ck (c2:LL) (uI:c2.length=m) (h2:IsC c2) (h1:(zaL c2).length=1) (hg:gk<W.heap.size) (jf:zal W gk 0 c2)=>zng gk 0 m ck c2 W uI h2 h1 hg jf (hm.below hW));have HE:=qd (zbp.empty (w:=w) (B:=w.heap.size) (qr _));clear MK hn hC hr hm uV
 go_enter Tryz.func163,Tryz.ntmps163
 go_wp2_with fail;refine HO.out.mono ?_;rintro e w3 ⟨gp,cp,rp,rfl,tY,cS,IV⟩;rw[List.length_map];have ag:=aN.trans (IV.mono aN.size);have IW:zbp w3 w.heap.size w.heap.size 0 (zbs (zbq c 0)):=zaE.below HE.out IV (zaE.lt HE.out);have IX:=qd tY;have IY:Hid (rp.length=(zaL c).length):=qd (by rw[<-zac,tY,List.length_map]);have ry:w.heap.size<w3.heap.size:=zaE.lt IW;have Tf:w.heap.size<gp:=by have:=cS.base;simp at this;omega
 have yJ:Hid (∀r∈rp,w.heap.size<r.1/\r.1<w3.heap.size):=qd (fun r hr=>by have h1:=(cS.2.1 r hr).base;have h2:=(cS.2.1 r hr).lt;simp at h1;omega);have Qk:=cS.lt;clear HO aN HE IV tY;go_wp2_with fail;go_loopw [3,5,10] (fun ov _ kv wr=>∃k gO cO:Nat,k<=(zaL c).length/\kv= .int .i64 k/\ov=(qS (some ⟨gO,0,none⟩) k cO)/\zbp wr w.heap.size gO cO (zbs (zbq c k))/\(gO=w.heap.size∨w3.heap.size<=gO)/\zab wr w.heap.size gp cp rp/\w3.heap.size<=wr.heap.size/\Below w.heap.size w wr) (fun _ _ kv _=>(zaL c).length-(intOf kv).toNat)
 case atStart=>exact⟨0,w.heap.size,0,qz _,rfl,rfl,IW,.inl rfl,cS.mono (by simp),qr _,ag⟩
 case round=>
  clear IW cS ag;obtain⟨k,gO,cO,hk,rfl,rfl,ho,lu,cS,fJ,hb⟩:=hrel;by_cases ac:k<(zaL c).length
  ·obtain⟨Bl,fj,qX⟩:=HP.out k ac;have cH:k<rp.length:=by rw[IY.out];exact ac
   have aC:rp[k].2.2=zae ((zaL c).getD k []):=by
    rw[<-zei rp k cH,IX.out];simp[List.getD,ac]
   have aV:=cS.2.1 _ (List.getElem_mem cH);have aA:=cS.1.cell k (by simpa using cH);have iQ:=qd (zrV c k ac)
   have CG:∀r∈rp,r.1≠gO:=fun r hr e=>by
    have:=yJ.out r hr
    rcases lu with h|h <;> omega
   have nX:gp≠gO:=by rcases lu with h|h <;> omega
   rw[aC] at aV;have kr:zah rp[k]=(qS (some ⟨(rp[k].1),0,none⟩) (((zaL c).getD k []).length) (rp[k].2.1)):=by unfold zah;rw[aC,zai]
   simp only[List.getElem_map,kr] at aA;generalize rp[k].1=gk at*;generalize rp[k].2.1=ck at*;generalize (zaL c).getD k []=p at*;have dU:=qd (IU.out wr hb gk ck p Bl aV.lt aV.cells);have bP:(zaW c (zae p)).length=p.length:=by simp[zaW,zae]
   have uW:=qd fj;have uX:=qd qX;have fE:=qd bP;have IZ:=qd CG;have Ql:=qd (zjq c k (by omega));clear aC kr aV Bl fj qX cH CG bP;go_wp2_with fail;refine dU.out.mono ?_;rintro e w5 ⟨g5,c5,r5,rfl,fK,aD,aQ⟩;have bJ:=hb.trans (aQ.mono hb.size);have wL:=qd (Gl.out w5 bJ g5 p.length c5 (zaW c (zae p)) fE.out uX.out uW.out aD.lt (by rw[<-fK];exact aD.rows2));rw[fE.out];have aO:zbp w5 w.heap.size gO cO (zbs (zbq c k)):=zaE.below ho aQ (zaE.lt ho);have mH:=cS.below aQ;have CH:=qt fJ aQ.size;clear dU fK aD aQ ho cS fJ hb aA;generalize zdY (zaW c (zae p))=S at*;go_wp2_with fail;refine wL.out.mono ?_;rintro e w7 ⟨rfl,dA⟩;have eV:=bJ.trans (dA.mono bJ.size);have cI:zbp w7 w.heap.size gO cO (zbs (zbq c k)):=zaE.below aO dA (zaE.lt aO);have pL:=mH.below dA;have CI:=qt CH dA.size;clear wL bJ dA aO mH CH;go_wp2_with (at_builtin;refine zgg rfl _ _ rfl w.heap.size gO cO k w7.heap.size (zbs (zbq c k)) ⟨S.toArray⟩ w7 _ (by unfold zbs;rw[List.length_map];exact Ql.out) rfl rfl cI rfl rfl (by omega) ?_);intro g9 c9 w9 gX js kw;have dt:=eV.grown js eV.size (by intro t ht;cases ht;exact zaE.base cI);have Ja:=pL.grownK2 js nX IZ.out;have Jb:=qt CI js.size
   have Jc:g9=w.heap.size∨w3.heap.size<=g9:=by
    rcases kw with h|h
    ·rw[h];exact lu
    ·right;omega
   have fZ:zbp w9 w.heap.size g9 c9 (zbs (zbq c (k+1))):=by
    rw[iQ.out];have e:zbs (zbq c k++[S])=zbs (zbq c k)++[⟨S.toArray⟩]:=by simp[zbs]
    rw[e];exact gX
   clear eV cI pL CI gX js kw;go_wp2_with fail;go_roundw
   case rel=>exact⟨k+1,g9,c9,by omega,by go_num,rfl,fZ,Jc,Ja,Jb,dt⟩
   case measure=>simp[intOf];omega
  ·obtain rfl:k=(zaL c).length:=by omega
   have hj:=zJw 120 ho (zjq c _ (qr _)) (by omega) (by have:=zjp 120 _ (zqx c (zaL c).length);rw[zjq c _ (qr _)] at this;omega);rw[zuq] at hj;have Hj:=qd hj;clear hj ho cS;go_wp2_with fail;refine Hj.out.mono ?_;rintro e w9 ⟨rfl,dt⟩;have cX:=hb.trans (dt.mono hb.size);clear Hj hb dt;go_wp2_with fail;go_ret;exact⟨rfl,cX⟩
theorem zrf(gc oc n cc:Nat)(c:LL)(w:World)(hn:c.length=n)(hC:IsC c)(ah:gc<w.heap.size)(hr:zal w gc oc c):
 Calls Tryz.prog 178 #[(qS (some ⟨gc,oc,none⟩) n cc)] w (zbb w (.string ⟨(join (zdc c) [120]).toArray⟩)):=by
 obtain⟨seen,uV⟩:=zgF hC;have HO:=qd (zgX gc oc n cc c (zaL c) w hn hC uV.s uV.p ah hr);have CF:=uV.len;have HP:=qd (zqy hC);have IU:=qd (fun W (hW:Below w.heap.size w W) gk ck (p:List Nat) (hp:zgp c.length p) (hg:gk<W.heap.size) (hc:zag W gk 0 (zae p))=>ziu gc oc n cc gk 0 p.length ck c (zae p) W hn (zai p) hC (by rw[zai];exact hp.l4) (by rw[zai];exact hp.l1) hp.in hp.asc2 (qL ah hW.size) hg (hr.below hW ah) hc);have Gl:=qd (fun W (hW:Below w.heap.size w W) gk m ck (c2:LL) (uI:c2.length=m) (h2:IsC c2) (h1:(zaL c2).length=1) (hg:gk<W.heap.size) (jf:zal W gk 0 c2)=>znf gk 0 m ck c2 W uI h2 h1 hg jf);have cg:=qd (fun k (hk:k<=(zaL c).length)=>show(join (zbq c k) [120]).length<=16 from by have:=zjp 120 _ (zqx c k);rw[zjq c k hk] at this;omega);have aE:=zuq c;have gY:=qd aE;clear hn hC hr uV aE
 go_enter Tryz.func178,Tryz.ntmps178
 go_wp2_with fail;refine HO.out.mono ?_;rintro e w3 ⟨gp,cp,rp,rfl,tY,cS,ag⟩;rw[List.length_map];have IX:=qd tY;have IY:Hid (rp.length=(zaL c).length):=qd (by rw[<-zac,tY,List.length_map]);clear HO tY;go_wp2_with fail;go_loopw [4,5,6,7] (fun sv kv _ _ wr=>∃k:Nat,k<=(zaL c).length/\kv= .int .i64 k/\sv= .string ⟨(join (zbq c k) [120]).toArray⟩/\zab wr w.heap.size gp cp rp/\Below w.heap.size w wr) (fun _ kv _ _ _=>(zaL c).length-(intOf kv).toNat)
 case atStart=>exact⟨0,qz _,rfl,rfl,cS,ag⟩
 case round=>
  clear cS ag;obtain⟨k,hk,rfl,rfl,cS,hb⟩:=hrel;by_cases ac:k<(zaL c).length
  ·obtain⟨Bl,fj,qX⟩:=HP.out k ac;have cH:k<rp.length:=by rw[IY.out];exact ac
   have aC:rp[k].2.2=zae ((zaL c).getD k []):=by
    rw[<-zei rp k cH,IX.out];simp[List.getD,ac]
   have aV:=cS.2.1 _ (List.getElem_mem cH);have aA:=cS.1.cell k (by simpa using cH);have bw:=zrV c k ac;rw[aC] at aV;have kr:zah rp[k]=(qS (some ⟨(rp[k].1),0,none⟩) (((zaL c).getD k []).length) (rp[k].2.1)):=by unfold zah;rw[aC,zai]
   simp only[List.getElem_map,kr] at aA;generalize rp[k].1=gk at*;generalize rp[k].2.1=ck at*;generalize (zaL c).getD k []=p at*;have dU:=qd (IU.out wr hb gk ck p Bl aV.lt aV.cells);have bP:(zaW c (zae p)).length=p.length:=by simp[zaW,zae]
   have uW:=qd fj;have uX:=qd qX;have fE:=qd bP;have CJ:Hid ((zae p).length=p.length):=qd (zai p);have wM:=cg.out (k+1) ac;rw[bw] at wM;have iQ:=qd bw;by_cases h0:k=0
   ·subst h0;have dS:Hid (∀W,(Op.stringOp .add ⟨(join (zbq c 0) [120]).toArray⟩ ⟨(zdY (zaW c (zae p))).toArray⟩).run Tryz.prog W= .ok (.string ⟨(join (zbq c (0+1)) [120]).toArray⟩) W):=qd (fun W=>zyc W _ _ _ (by rw[iQ.out];simp[zbq,join,List.intercalate]) (by rw[iQ.out];omega));clear aC kr aV Bl fj qX cH bP bw wM;generalize join (zbq c 0) [120]=S0 at*;generalize CK:join (zbq c (0+1)) [120]=S1 at*;have Jd:=qd CK;clear CK;go_wp2_with fail;refine dU.out.mono ?_;rintro e w5 ⟨g5,c5,r5,rfl,fK,aD,aQ⟩;rw[CJ.out];have bJ:=hb.trans (aQ.mono hb.size);have wL:=qd (Gl.out w5 bJ g5 p.length c5 (zaW c (zae p)) fE.out uX.out uW.out aD.lt (by rw[<-fK];exact aD.rows2));have mH:=cS.below aQ;clear dU fK aD aQ cS hb aA;generalize zdY (zaW c (zae p))=S at*;go_wp2_with fail;refine wL.out.mono ?_;rintro e w7 ⟨rfl,dA⟩;have eV:=bJ.trans (dA.mono bJ.size);have pL:=mH.below dA;have e2:=dS.out w7;clear wL bJ dA mH;go_wp2_with fail;go_roundw
    case rel=>exact⟨0+1,by omega,by go_num,by rw[Jd.out],pL,eV⟩
    case measure=>simp[intOf];omega
   ·have wN:Hid (∀W,(Op.stringOp .add ⟨(join (zbq c k) [120]).toArray⟩ ⟨#[120]⟩).run Tryz.prog W= .ok (.string ⟨(join (zbq c k) [120]++[120]).toArray⟩) W):=qd (fun W=>zyc W _ [120] _ rfl (by have:=cg.out k hk;rw[qA];simp;omega))
    have dS:Hid (∀W,(Op.stringOp .add ⟨(join (zbq c k) [120]++[120]).toArray⟩ ⟨(zdY (zaW c (zae p))).toArray⟩).run Tryz.prog W= .ok (.string ⟨(join (zbq c (k+1)) [120]).toArray⟩) W):=qd (fun W=>zyc W _ _ _ (by
     rw[iQ.out,zqw 120 _ _ (fun e=>by have h9:=congrArg List.length e;rw[zjq c k hk] at h9;exact h0 h9)]) (by rw[iQ.out];omega))
    have Bm:(0:Int)<(k:Int):=by omega
    have e1:=wN.out wr;clear aC kr aV Bl fj qX cH bP bw wM wN;generalize Qm:join (zbq c k) [120]=S0 at*;generalize CK:join (zbq c (k+1)) [120]=S1 at*;have Jd:=qd CK;clear Qm CK;go_wp2_with fail;refine dU.out.mono ?_;rintro e w5 ⟨g5,c5,r5,rfl,fK,aD,aQ⟩;rw[CJ.out];have bJ:=hb.trans (aQ.mono hb.size);have wL:=qd (Gl.out w5 bJ g5 p.length c5 (zaW c (zae p)) fE.out uX.out uW.out aD.lt (by rw[<-fK];exact aD.rows2));have mH:=cS.below aQ;clear dU fK aD aQ cS hb aA;generalize zdY (zaW c (zae p))=S at*;go_wp2_with fail;refine wL.out.mono ?_;rintro e w7 ⟨rfl,dA⟩;have eV:=bJ.trans (dA.mono bJ.size);have pL:=mH.below dA;have e2:=dS.out w7;clear wL bJ dA mH;go_wp2_with fail;go_roundw
    case rel=>exact⟨k+1,by omega,by go_num,by rw[Jd.out],pL,eV⟩
    case measure=>simp[intOf];omega
  ·obtain rfl:k=(zaL c).length:=by omega
   rw[gY.out];go_wp2_with fail;go_ret;exact⟨rfl,hb⟩
end
end Go.Proofs.YtlgcmaoimpgedaaGreatDoor

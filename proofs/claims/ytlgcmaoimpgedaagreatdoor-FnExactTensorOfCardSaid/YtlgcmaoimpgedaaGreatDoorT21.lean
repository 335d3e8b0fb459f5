/- DetM Sml Shf Sm Crd Asr -/
import Derived.Test.YtlgcmaoimpgedaaGreatDoorT20
set_option maxHeartbeats 4000000
set_option maxRecDepth 100000
set_option linter.unusedSimpArgs false
namespace Go.Proofs.YtlgcmaoimpgedaaGreatDoor
open Go.Value renaming slice->qS
section
open Go.RowKit
def SqB(n:Nat)(m:LL):Prop:=m.length=n/\(∀i,i<n->(m.getD i []).length=n)/\∀i j,-2000<=ent m i j/\ent m i j<=2000
def zha:Nat->Int
 |0=>1
 |n+1=>(n+1)*(2000*zha n)
theorem Sq.toM{n:Nat}{m:LL}(h:Sq n m):SqB n m:=⟨h.1,h.2.1,fun i j=>by have:=h.2.2 i j;omega⟩
theorem zfm{n:Nat}{m:LL}{j:Nat}(h:SqB (n+1) m)(hj:j<n+1):SqB n (zar m j):=by
 obtain⟨h1,h2,h3⟩:=h
 have hg:∀i,(zar m j).getD i []=zdi (m.getD (i+1) []) j:=by
  intro i;unfold zar;simp only[List.getD,List.getElem?_map,List.getElem?_drop];rw[Nat.add_comm 1 i]
  cases m[i+1]? with
  |none=>simp[zdi]
  |some r=>simp
 refine⟨by simp[zar,h1],fun i hi=>?_,fun i k=>?_⟩
 ·rw[hg,zmF (by rw[h2 _ (by omega)];exact hj),h2 _ (by omega)];omega
 ·unfold ent;rw[hg,zle]
  split
  ·exact h3 _ _
  ·exact h3 _ _
theorem zxg{x d M D:Int}(hx:-M<=x/\x<=M)(hd:-D<=d/\d<=D):-(M*D)<=x*d/\x*d<=M*D:=by
 have h1:=Int.mul_nonneg (show 0<=M-x by omega) (show 0<=D+d by omega);have h2:=Int.mul_nonneg (show 0<=M+x by omega) (show 0<=D-d by omega);have h3:=Int.mul_nonneg (show 0<=M-x by omega) (show 0<=D-d by omega);have h4:=Int.mul_nonneg (show 0<=M+x by omega) (show 0<=D+d by omega);simp only[Int.sub_mul,Int.add_mul,Int.mul_add,Int.mul_sub] at h1 h2 h3 h4;omega
theorem zIe{x d M D:Int}(j:Nat)(hx:-M<=x/\x<=M)(hd:-D<=d/\d<=D):-(M*D)<=sgn j*x*d/\sgn j*x*d<=M*D:=by
 have h:=zxg hx hd;unfold sgn
 split
 ·rw[Int.one_mul];exact h
 ·rw[Int.neg_mul,Int.one_mul,Int.neg_mul];omega
theorem zhb:∀(n:Nat) (m:LL),SqB n m→-(zha n)<=det n m/\det n m<=zha n:=by
 intro n
 induction n with
 |zero=>intro m _;simp[det,zha]
 |succ n ih=>
  intro m hm;have:=zhP _ _ (n+1) (fun j hj=>zIe j (hm.2.2 0 j) (ih _ (zfm hm hj)));simpa [det,zha] using this
theorem zrh{n:Nat}(h:n<=3):0<=zha n/\zha n<=48000000000:=by
 have:n=0∨n=1∨n=2∨n=3:=by omega
 rcases this with rfl|rfl|rfl|rfl <;> simp[zha]
theorem zhT{G x d:Int}(hG:G=1∨G=-1)(hx:-2000<=x/\x<=2000)(hd:-48000000000<=d/\d<=48000000000):-96000000000000<=G*x*d/\G*x*d<=96000000000000∧-2000<=G*x/\G*x<=2000:=by
 have h:=zxg hx hd
 rcases hG with rfl|rfl
 ·rw[Int.one_mul];omega
 ·rw[Int.neg_mul,Int.one_mul,Int.neg_mul];omega
theorem zkN{n:Nat}{m:LL}(bC:SqB (n+1) m)(hn:n<=3){t:Nat}(ht:t<=n+1):
 -384000000000000<=(zaQ t fun j=>sgn j*ent m 0 j*det n (zar m j))/\(zaQ t fun j=>sgn j*ent m 0 j*det n (zar m j))<=384000000000000:=by
 have:=zhP (fun j=>sgn j*ent m 0 j*det n (zar m j)) 96000000000000 t (fun j hj=>by
  have h1:=zhb n _ (zfm bC (j:=j) (by omega));have h2:=zrh hn;have h3:=zhT (d:=det n (zar m j)) (zdK j) (bC.2.2 0 j) ⟨by omega,by omega⟩;exact⟨h3.1,h3.2.1⟩)
 omega
attribute [local go_sem ↓] Go.wp_at_zero Go.wp_at_succ
theorem zku(n:Nat)(dL:1<=n)(aR:n+1<=4)(ih:∀(g o cap:Nat) (m:LL) (w:World),SqB n m->g<w.heap.size->n<=cap->zal w g o m->Calls Tryz.prog 185 #[(qS (some ⟨g,o,none⟩) n cap)] w (zbb w (.int .i64 (det n m))))
 (g o cap:Nat) (m:LL) (w:World) (bC:SqB (n+1) m) (hg:g<w.heap.size) (aS:n+1<=cap) (hr:zal w g o m):
 Calls Tryz.prog 185 #[(qS (some ⟨g,o,none⟩) (n+1) cap)] w (zbb w (.int .i64 (det (n+1) m))):=by
 have IH:=qd ih;clear ih;obtain⟨g0,o0,c0,p1,p2,p3,p4⟩:=hr 0 (by rw[bC.1];omega);have fm:=bC.2.1 0 (by omega);rw[fm] at p1 p2;have ux:=qd fm;clear fm;rw[Nat.add_zero] at p1;have BM:¬cap=1:=by omega
 have BN:1<cap:=by omega
 have c1:(0:Int)<((n+1:Nat):Int):=by omega
 have hD:((n:Int)+1==0)=false:=by simp;omega
 go_enter Tryz.func185,Tryz.ntmps185
 go_wp2;go_loopw [3,4,17] (fun s sg i wr=>∃t:Nat,t<=n+1/\i= .int .i64 t/\s= .int .i64 (zaQ t fun j=>sgn j*ent m 0 j*det n (zar m j))/\sg= .int .i64 (sgn t)/\Below w.heap.size w wr) (fun _ _ i _=>n+1-(intOf i).toNat)
 case atStart=>exact⟨0,qz _,rfl,rfl,rfl,Below.refl _ _⟩
 case round=>
  obtain⟨t,ht,rfl,rfl,rfl,hb⟩:=hrel;by_cases ac:t<n+1
  ·have e0:=p4.below hb p3 t (by rw[ux.out];exact ac);have dI:(m.getD 0 []).getD t 0=ent m 0 t:=rfl;rw[dI] at e0;have bE:=bC.2.2 0 t;by_cases kj:ent m 0 t=0
   ·have cE:(zaQ (t+1) fun j=>sgn j*ent m 0 j*det n (zar m j))=zaQ t fun j=>sgn j*ent m 0 j*det n (zar m j):=by
     simp only[zaQ];rw[kj];simp
    have eN:=qd cE;clear cE dI bE;rw[kj] at e0;have Pe:=qd kj;clear kj;generalize (zaQ t fun j=>sgn j*ent m 0 j*det n (zar m j))=S at*;have rf:=zlg t;have xP:=qd rf;clear rf;have mg:=zdK t;generalize hG:sgn t=G at*;have HG:=qd hG;clear hG;have HJ:-1<=G/\G<=1:=by omega
    clear mg;go_wp2;go_roundw
    case rel=>exact⟨t+1,by omega,by go_num,by rw[eN.out],by rw[xP.out],hb⟩
    case measure=>simp[intOf];omega
   ·have Ia:(ent m 0 t != 0)=true:=by simpa using kj
    generalize qJ:ent m 0 t=x at*;have BO:=qd qJ;clear qJ dI;have ff:(t:Int)<(n:Int)+1:=by omega
    obtain⟨wo,rfl⟩:∃wo:World,wo=wr:=⟨_,rfl⟩;go_wp2;go_loopw [7,28] (fun mn i wr=>∃(k g' c':Nat) (rs:List RowRef),k<=n/\i= .int .i64 k/\mn=(qS (some ⟨g',0,none⟩) k c')/\Hid (rs.length=k)/\Hid (zaa rs=(zar m t).take k)/\zab wr wo.heap.size g' c' rs/\Below wo.heap.size wo wr) (fun _ i _=>n-(intOf i).toNat)
    case atStart=>exact⟨0,wo.heap.size,0,[],qz _,rfl,rfl,rfl,rfl,zab.empty (qr _),(Below.refl _ _).alloc (qr _) _⟩
    case round=>
     obtain⟨k,g',c',rs,hk,rfl,rfl,cK,ak,ho,ae⟩:=hrel;have du:=hb.trans (ae.mono hb.size);by_cases dN:k<n
     ·obtain⟨ga,oa,ca,q1,q2,q3,q4⟩:=hr (k+1) (by rw[bC.1];omega);have dK:=bC.2.1 (k+1) (by omega);rw[dK] at q1 q2;have oW:=(du.cell (p:=⟨g,o+(k+1),none⟩) hg).trans q1;have Ib:wr.cell? ⟨g,o+1+k,none⟩=some (qS (some ⟨ga,oa,none⟩) (n+1) ca):=by rw[show o+1+k=o+(k+1) by omega];exact oW
      have aC:=q4.below du q3;clear q1 oW;go_wp2;have b1:(0:Int)<=(t:Int):=by omega
      have b2:(t:Int)<=(ca:Int):=by omega
      have b3:(0:Int)<=(t:Int)+1:=by omega
      have b4:(t:Int)+1<=((n+1:Nat):Int):=by omega
      have b5:(t:Int)+1<=(n:Int)+1:=by omega
      have b6:(n:Int)+1<=(ca:Int):=by omega
      have b7:IntKind.i64.wrap ((t:Int)+1)=(t:Int)+1:=IntWalk.i64_in _ (by omega);have HN:Hid (n+1<=4):=aR;have an:(m.getD (k+1) []).length=n+1:=dK;generalize hR:m.getD (k+1) []=R at*;have l1:(R.take t).length=t:=by simp;omega
      have l2:(R.drop (t+1)).length=n-t:=by simp;omega
      have B0:Below wr.heap.size wr ((wr.alloc (.cells #[] 3)).drew):=Below.drew ((Below.refl _ _).alloc (qr _) _);have F1:∀w1,((wr.alloc (.cells #[] 3)).drew).grownBy w1 (some wr.heap.size)->Below wr.heap.size wr w1:=fun w1 h=>B0.grown h B0.size (by intro j hj;cases hj;exact qr _)
      have F2:∀(w1 w2:World) (g1:Nat),Below wr.heap.size wr w1->wr.heap.size<=g1->w1.grownBy w2 (some g1)->Below wr.heap.size wr w2:=fun w1 w2 g1 h hg h2=>h.grown h2 h.size (by intro j hj;cases hj;exact hg)
      have li:ga<wr.heap.size:=qL q3 du.size
      have FA:Hid (∀W,zag W ga oa R->∃g2 o2,(if ca=t+1 then some (⟨ga,oa,none⟩:Addr) else some ⟨ga,oa+(t+1),none⟩)=some ⟨g2,o2,none⟩/\zag W g2 o2 (R.drop (t+1))):=fun W hW=>by
       by_cases xQ:ca=t+1
       ·rw[if_pos xQ];refine⟨_,_,rfl,?_⟩;have:R.drop (t+1)=[]:=List.drop_eq_nil_of_le (by omega);rw[this];intro j hj;simp at hj
       ·rw[if_neg xQ];exact⟨_,_,rfl,hW.drop (t+1)⟩
      have l3:(([]++R.take t)++R.drop (t+1)).length=t+(n-t):=by simp;omega
      have kr:∀g2 c2:Nat,zah (g2,c2,([]++R.take t)++R.drop (t+1))=(qS (some ⟨g2,0,none⟩) (t+(n-t)) c2):=fun g2 c2=>by unfold zah;rw[l3]
      have Ic:=qd kr;have L3:=qd l3;clear kr l3
      have F3:Hid (∀(w2:World) (g2 c2:Nat),Below wr.heap.size wr w2->Own w2 wr.heap.size g2 c2 (([]++R.take t)++R.drop (t+1))->zab w2 wo.heap.size g' c' rs/\Own w2 wo.heap.size g2 c2 (([]++R.take t)++R.drop (t+1))/\∀s∈rs,s.1≠g2):=fun w2 g2 c2 hB hO=>
       ⟨ho.below hB,hO.mono ae.size,fun s hs=>by have h1:=(ho.2.1 s hs).lt;have h2:=hO.base;omega⟩
      have FB:∀w1,Below wr.heap.size wr w1->Below wo.heap.size wo w1:=fun w1 h=>ae.trans (h.mono ae.size)
      have lZ:wo.heap.size<=g':=ho.base
      go_region_held3 (fun W=>Below wo.heap.size wo W)
       (first|exact Below.drew ae|exact FB _ B0|exact(Below.drew ae).alloc ae.size _|exact FB _ (F1 _ bm)|exact FB _ (F2 _ _ _ (F1 _ bm) au.base aP)|exact(FB _ (F2 _ _ _ (F1 _ bm) au.base aP)).alloc (FB _ (F2 _ _ _ (F1 _ bm) au.base aP)).size _|exact(FB _ (F2 _ _ _ (F1 _ bm) au.base aP)).grown aK (FB _ (F2 _ _ _ (F1 _ bm) au.base aP)).size (by intro j hj;cases hj;exact lZ))
       (first
         |(refine zdU (by rfl) _ _ (by rfl) wr.heap.size wr.heap.size 0 0 ga oa t ca [] (R.take t) rfl l1 (by exact(Own.empty (w:=wr.drew) (qr _))) (by exact(aC.below B0 li).take t) (by rfl) (by rfl) (by omega) ?_;intro g1 c1 w1 au bm nN)
         |(refine zit (by rfl) _ _ (by rfl) wr.heap.size g1 c1 (0+t) (n-t) _ _ ([]++R.take t) (R.drop (t+1)) (by simp;omega) l2 (by exact au) (by rfl) (by rfl) (by exact FA.out _ (aC.below (F1 _ bm) li)) (by omega) ?_;intro g2 c2 w2 ar aP dJ)
         |(refine zjH (w:=w2) (by rfl) _ _ (by rfl) wo.heap.size g' c' k w2.heap.size rs (g2,c2,([]++R.take t)++R.drop (t+1)) _ cK.out (by rw[Ic.out]) (by rfl) (by exact(F3.out w2 g2 c2 (F2 _ _ _ (F1 _ bm) au.base aP) ar).1) (by exact(F3.out w2 g2 c2 (F2 _ _ _ (F1 _ bm) au.base aP) ar).2.1) (by exact(F3.out w2 g2 c2 (F2 _ _ _ (F1 _ bm) au.base aP) ar).2.2) (by rfl) (by rfl) (by omega) ?_;intro g3 c3 w3 al aK eu))
      have ap:Below wo.heap.size wo w3:=(FB _ (F2 _ _ _ (F1 _ bm) au.base aP)).grown aK (FB _ (F2 _ _ _ (F1 _ bm) au.base aP)).size (by intro j hj;cases hj;exact lZ);have Ie:=qd ap;clear F1 F2 FB au bm nN ar aP dJ eu FA ap;generalize (if ca=t+1 then some (⟨ga,oa,none⟩:Addr) else some ⟨ga,oa+(t+1),none⟩)=AA;go_wp2;go_roundw
      case rel=>
       refine⟨k+1,g3,c3,rs++[(g2,c2,([]++R.take t)++R.drop (t+1))],by omega,by go_num,rfl,by show _=_;rw[qA,cK.out];rfl,?_,al,Ie.out⟩;show _=_;rw[zcA,ak.out,ziz (by rw[bC.1];omega),hR];rfl
      case measure=>simp[intOf];omega
     ·obtain rfl:n=k:=by omega
      have fT:=ak.out;rw[qF (by rw[zcC,bC.1];omega)] at fT;have BP:=IH.out g' 0 c' (zar m t) wr (zfm bC ac) ho.lt (by have:=ho.capLe;rw[cK.out] at this;exact this) (by rw[<-fT];exact ho.rows2)
      have cE:(zaQ (t+1) fun j=>sgn j*ent m 0 j*det n (zar m j))=(zaQ t fun j=>sgn j*ent m 0 j*det n (zar m j))+sgn t*x*det n (zar m t):=by
       simp only[zaQ];rw[BO.out]
      have hS:=zkN bC (by omega) (t:=t) (by omega);have uy:=zhb n _ (zfm bC ac);have xR:=zrh (n:=n) (by omega);have uz:=zhT (zdK t) bE (d:=det n (zar m t)) ⟨by omega,by omega⟩;have rf:=zlg t;have mg:=zdK t;have rh:=qd BP;clear BP;have eN:=qd cE;have xP:=qd rf;clear cE rf fT;generalize (zaQ t fun j=>sgn j*ent m 0 j*det n (zar m j))=S at*;generalize det n (zar m t)=d at*;generalize sgn t=G at*;have HJ:-1<=G/\G<=1:=by omega
      have e1:IntKind.i64.wrap (G*x)=G*x:=IntWalk.i64_in _ (by omega);have e2:IntKind.i64.wrap (G*x*d)=G*x*d:=IntWalk.i64_in _ (by omega);have e3:IntKind.i64.wrap (S+G*x*d)=S+G*x*d:=IntWalk.i64_in _ (by omega);have nS:=hb.trans (ae.mono hb.size);clear mg uy xR uz hS;go_wp2_with fail;refine rh.out.mono ?_;rintro e w1 ⟨rfl,ag⟩;go_wp2_with fail;go_roundw
      case rel=>exact⟨t+1,by omega,by go_num,by rw[eN.out],by rw[xP.out],nS.trans (ag.mono nS.size)⟩
      case measure=>simp[intOf];omega
  ·obtain rfl:t=n+1:=by omega
   go_wp2;go_ret;exact⟨rfl,hb⟩
theorem zkO(g o cap:Nat)(m:LL)(w:World)(bC:SqB 1 m)(aS:1<=cap)(hr:zal w g o m):
 Calls Tryz.prog 185 #[(qS (some ⟨g,o,none⟩) 1 cap)] w (zbb w (.int .i64 (det 1 m))):=by
 obtain⟨g0,o0,c0,p1,p2,p3,p4⟩:=hr 0 (by rw[bC.1];omega);have fm:=bC.2.1 0 (by omega);rw[fm] at p1 p2;rw[Nat.add_zero] at p1;have e0:=p4 0 (by rw[fm];omega);have dI:(m.getD 0 []).getD 0 0=ent m 0 0:=rfl;rw[dI,Nat.add_zero] at e0;have bE:=bC.2.2 0 0;have rm:det 1 m=ent m 0 0:=by simp[det,zaQ,sgn]
 rw[rm];clear rm dI fm p4;generalize ent m 0 0=x at*
 go_enter Tryz.func185,Tryz.ntmps185
 go_wp2;go_loopw [3,4,17] (fun s sg i wr=>((i= .int .i64 0/\s= .int .i64 0/\sg= .int .i64 1)∨(i= .int .i64 1/\s= .int .i64 x))/\Below w.heap.size w wr) (fun _ _ i _=>1-(intOf i).toNat)
 case atStart=>exact⟨.inl ⟨rfl,rfl,rfl⟩,Below.refl _ _⟩
 case round=>
  obtain⟨h|h,hb⟩:=hrel
  ·obtain⟨rfl,rfl,rfl⟩:=h;have f0:=(hb.cell (p:=⟨g0,o0,none⟩) p3).trans e0;by_cases kj:x=0
   ·subst kj;go_wp2;go_roundw
    case rel=>exact⟨.inr ⟨rfl,rfl⟩,hb⟩
    case measure=>simp[intOf]
   ·have Ia:(x != 0)=true:=by simpa using kj
    obtain⟨wo,rfl⟩:∃wo:World,wo=wr:=⟨_,rfl⟩;by_cases aI:cap=1
    ·subst aI;go_wp2;refine wp_loop_rounds 1 ?_;rw[rounds_succ];go_wp2_with fail;refine(zcn _ _ _ _).mono ?_;rintro e w1 ⟨rfl,ag⟩;go_wp2_with fail;go_roundw
     case rel=>
      refine⟨.inr ⟨rfl,?_⟩,?_⟩
      ·simp
      ·exact(hb.alloc hb.size _).trans (ag.mono (hb.alloc hb.size _).size)
     case measure=>simp[intOf]
    ·have aH:1<cap:=by omega
     go_wp2;refine wp_loop_rounds 1 ?_;rw[rounds_succ];go_wp2_with fail;refine(zcn _ _ _ _).mono ?_;rintro e w1 ⟨rfl,ag⟩;go_wp2_with fail;go_roundw
     case rel=>
      refine⟨.inr ⟨rfl,?_⟩,?_⟩
      ·simp
      ·exact(hb.alloc hb.size _).trans (ag.mono (hb.alloc hb.size _).size)
     case measure=>simp[intOf]
  ·obtain⟨rfl,rfl⟩:=h;go_wp2;go_ret;exact⟨rfl,hb⟩
theorem zgH:∀(n:Nat),n<=4->∀(g o cap:Nat) (m:LL) (w:World),SqB n m->g<w.heap.size->n<=cap->zal w g o m->Calls Tryz.prog 185 #[(qS (some ⟨g,o,none⟩) n cap)] w (zbb w (.int .i64 (det n m))):=by
 intro n
 induction n with
 |zero=>intro _ g o cap m w _ _ _ _;exact zcn g o cap w
 |succ n ih=>
  intro hn g o cap m w bC hg aS hr
  cases n with
  |zero=>exact zkO g o cap m w bC aS hr
  |succ n=>exact zku (n+1) (by omega) hn (ih (by omega)) g o cap m w bC hg aS hr
theorem zms(n g o cap j:Nat)(m:LL)(w:World)(aR:n+1<=4)(bC:SqB (n+1) m)(hj:j<=n)(hg:g<w.heap.size)(hr:zal w g o m):
 Calls Tryz.prog 197 #[(qS (some ⟨g,o,none⟩) (n+1) cap),.int .i64 j] w (zbC w (zar m j)):=by
 go_enter Tryz.func197,Tryz.ntmps197
 go_wp2;go_loopw [5,6,7,8] (fun x i _ _ wr=>∃(t g' c':Nat) (rs:List RowRef),t<=n/\i= .int .i64 ((t:Int)+1)/\x=(qS (some ⟨g',0,none⟩) t c')/\Hid (rs.length=t)/\Hid (zaa rs=(zar m j).take t)/\zab wr w.heap.size g' c' rs/\Below w.heap.size w wr) (fun _ i _ _ _=>n+1-(intOf i).toNat)
 case atStart=>exact⟨0,w.heap.size,0,[],qz _,rfl,rfl,rfl,rfl,zab.empty (qr _),(Below.refl _ _).alloc (qr _) _⟩
 case round=>
  obtain⟨t,g',c',rs,ht,rfl,rfl,cK,ak,ho,hb⟩:=hrel;by_cases ac:t<n
  ·have ff:(t:Int)+1<(n:Int)+1:=by omega
   obtain⟨ga,oa,ca,q1,q2,q3,q4⟩:=hr (t+1) (by rw[bC.1];omega);have dK:=bC.2.1 (t+1) (by omega);rw[dK] at q1 q2;generalize hR:m.getD (t+1) []=R at*;have HR:=qd hR;clear hR;obtain⟨wo,rfl⟩:∃wo:World,wo=wr:=⟨_,rfl⟩;go_wp2;go_loopw [7,8] (fun x i wr=>∃k gr cr n':Nat,k<=n+1/\i= .int .i64 k/\x=(qS (some ⟨gr,0,none⟩) n' cr)/\Hid ((zft R j k).length=n')/\Own wr wo.heap.size gr cr (zft R j k)/\Below wo.heap.size wo wr) (fun _ i _=>n+1-(intOf i).toNat)
   case atStart=>exact⟨0,wo.heap.size,0,0,qz _,rfl,rfl,rfl,Own.empty (w:=wo) (qr _),(Below.refl _ _).alloc (qr _) _⟩
   case round=>
    obtain⟨k,gr,cr,n',hk,rfl,rfl,fa,aY,ae⟩:=hrel;have du:Below w.heap.size w wr:=hb.trans (ae.mono hb.size);have iX:=ztr R j k;rw[fa.out] at iX;by_cases dN:k<n+1
    ·have wd:(k:Int)<(n:Int)+1:=by omega
     by_cases BQ:k=j
     ·subst BQ;have hc:=ztq (row:=R) (j:=k) (k:=k) rfl;have Hc:=qd hc;clear hc;go_wp2;go_roundw
      case rel=>exact⟨k+1,gr,cr,n',by omega,by go_num,rfl,by show _=_;rw[Hc.out];exact fa.out,by rw[Hc.out];exact aY,ae⟩
      case measure=>simp[intOf];omega
     ·have ao:((k:Int) != (j:Int))=true:=by simp;omega
      have hc:=ztp (row:=R) BQ;have e1:=(du.cell (p:=⟨g,o+(t+1),none⟩) hg).trans q1;have e2:=q4.below du q3 k (by rw[dK];exact dN);have Hc:=qd hc;clear hc;generalize hz:R.getD k 0=z at*;have Hz:=qd hz;clear hz;go_wp2_with (at_builtin;refine zay rfl _ _ rfl wo.heap.size gr cr n' (zft R j k) z fa.out aY rfl rfl (by omega) ?_);intro g3 c3 w3 al aK _;go_wp2;go_roundw
      case rel=>
       refine⟨k+1,g3,c3,n'+1,by omega,by go_num,rfl,?_,?_,ae.grown aK ae.size (by intro j hj;cases hj;exact aY.base)⟩
       ·show _=_;rw[Hc.out,qA,fa.out];rfl
       ·rw[Hc.out];exact al
      case measure=>simp[intOf];omega
    ·obtain rfl:k=n+1:=by omega
     have hcut:zft R j (n+1)=zdi R j:=zrB dK hj;rw[hcut] at fa aY;have ar:=ho.below ae;have ao:∀r∈rs,r.1≠gr:=fun r hr=>by have h1:=(ho.2.1 r hr).lt;have h2:=aY.base;omega
     have dJ:=aY.mono hb.size;have aC:zah (gr,cr,zdi R j)=(qS (some ⟨gr,0,none⟩) n' cr):=by unfold zah;rw[fa.out]
     go_wp2_with (at_builtin;refine zao rfl _ _ rfl w.heap.size g' c' t wr.heap.size rs (gr,cr,zdi R j) _ cK.out (by rw[aC]) rfl ar dJ ao rfl rfl (by omega) ?_);intro g4 c4 w4 aw aT _;go_wp2;go_roundw
     case rel=>
      refine⟨t+1,g4,c4,rs++[(gr,cr,zdi R j)],by omega,by go_num,rfl,by show _=_;rw[qA,cK.out];rfl,?_,aw,du.grown aT du.size (by intro j hj;cases hj;exact ho.base)⟩;show _=_;rw[zcA,ak.out,ziz (by rw[bC.1];omega),HR.out]
     case measure=>simp[intOf];omega
  ·obtain rfl:n=t:=by omega
   have fT:=ak.out;rw[qF (by rw[zcC,bC.1];omega)] at fT;have jh:(zar m j).length=n:=by rw[zcC,bC.1];rfl
   have qK:=qd fT;have qM:=qd jh;clear fT jh;go_wp2;go_ret;exact⟨g',c',rs,by rw[qM.out];rfl,qK.out,ho,hb⟩
theorem zph(n:Nat)(aR:n+1<=4)(ih:∀(g o cap:Nat) (m:LL) (w:World),SqB n m->g<w.heap.size->zal w g o m->Calls Tryz.prog 151 #[(qS (some ⟨g,o,none⟩) n cap)] w (zbb w (.int .i64 (det n m))))
 (g o cap:Nat) (m:LL) (w:World) (bC:SqB (n+1) m) (hg:g<w.heap.size) (hr:zal w g o m):
 Calls Tryz.prog 151 #[(qS (some ⟨g,o,none⟩) (n+1) cap)] w (zbb w (.int .i64 (det (n+1) m))):=by
 have IH:=qd ih;clear ih;obtain⟨g0,o0,c0,p1,p2,p3,p4⟩:=hr 0 (by rw[bC.1];omega);have fm:=bC.2.1 0 (by omega);rw[fm] at p1 p2;have ux:=qd fm;clear fm;rw[Nat.add_zero] at p1;have hD:((n:Int)+1==0)=false:=by simp;omega
 go_enter Tryz.func151,Tryz.ntmps151
 go_wp2;go_loopw [3,4,5] (fun s i _ wr=>∃t:Nat,t<=n+1/\i= .int .i64 t/\s= .int .i64 (zaQ t fun j=>sgn j*ent m 0 j*det n (zar m j))/\Below w.heap.size w wr) (fun _ i _ _=>n+1-(intOf i).toNat)
 case atStart=>exact⟨0,qz _,rfl,rfl,Below.refl _ _⟩
 case round=>
  obtain⟨t,ht,rfl,rfl,hb⟩:=hrel;by_cases ac:t<n+1
  ·have ff:(t:Int)<(n:Int)+1:=by omega
   have e0:=p4.below hb p3 t (by rw[ux.out];exact ac);have f1:=(hb.cell (p:=⟨g,o,none⟩) hg).trans p1;have dI:(m.getD 0 []).getD t 0=ent m 0 t:=rfl;rw[dI] at e0;have bE:=bC.2.2 0 t
   have cE:(zaQ (t+1) fun j=>sgn j*ent m 0 j*det n (zar m j))=(zaQ t fun j=>sgn j*ent m 0 j*det n (zar m j))+sgn t*ent m 0 t*det n (zar m t):=by
    simp only[zaQ]
   have hS:=zkN bC (by omega) (t:=t) (by omega);have uy:=zhb n _ (zfm bC ac);have xR:=zrh (n:=n) (by omega);have uz:=zhT (zdK t) bE (d:=det n (zar m t)) ⟨by omega,by omega⟩;have lj:=zhT (G:=1) (.inl rfl) bE (d:=det n (zar m t)) ⟨by omega,by omega⟩;have kW:Hid (∀W,Below w.heap.size w W->Calls Tryz.prog 197 #[(qS (some ⟨g,o,none⟩) (n+1) cap),.int .i64 t] W (zbC W (zar m t))):=fun W hW=>zms n g o cap t m W aR bC (by omega) (qL hg hW.size) (hr.below hW hg)
   have jh:(zar m t).length=n:=by rw[zcC,bC.1];rfl
   have kD:Hid (∀W g1 c1 B rs,zaa rs=zar m t->zab W B g1 c1 rs->Calls Tryz.prog 151 #[(qS (some ⟨g1,0,none⟩) n c1)] W (zbb W (.int .i64 (det n (zar m t))))):=fun W g1 c1 B rs hc hO=>IH.out g1 0 c1 _ W (zfm bC ac) hO.lt (by rw[<-hc];exact hO.rows2)
   have qM:=qd jh;clear jh dI;have mg:sgn t=if t % 2=0 then 1 else -1:=rfl;have eN:=qd cE;clear cE;generalize (zaQ t fun j=>sgn j*ent m 0 j*det n (zar m j))=S at*;generalize qN:det n (zar m t)=d at*;have we:=qd qN;clear qN;generalize ent m 0 t=x at*;generalize sgn t=G at*;have hB:Below w.heap.size w wr.drew:=Below.drew hb;have u1:wr.drew.cell? ⟨g,o,none⟩=some (qS (some ⟨g0,o0,none⟩) (n+1) c0):=f1;have u2:wr.drew.cell? ⟨g0,o0+t,none⟩=some (.int .i64 x):=e0;have e1:IntKind.i64.wrap (x*d)=x*d:=IntWalk.i64_in _ (by simp at lj;omega);clear uy xR;have Pf:(0:Int)<=(t:Int):=by omega
   go_wp2_with fail
   go_region_held3 (fun W=>Below w.heap.size w W/\W.cell? ⟨g,o,none⟩=some (qS (some ⟨g0,o0,none⟩) (n+1) c0)/\W.cell? ⟨g0,o0+t,none⟩=some (.int .i64 x))
    (first|exact⟨hB,u1,u2⟩|exact⟨hB.trans (bT.mono hB.size),zaB bT u1,zaB bT u2⟩|(have v0:=hB.trans (bT.mono hB.size);exact⟨v0.trans (mh.mono v0.size),zaB mh (zaB bT u1),zaB mh (zaB bT u2)⟩))
    (first
      |(go_at_call 197;refine(kW.out _ hB).mono ?_;rintro e wA ⟨gA,cA,rsA,rfl,If,kQ,bT⟩;rw[qM.out])
      |(go_at_call 151;refine(kD.out _ gA cA _ rsA If kQ).mono ?_;rintro e wD ⟨rfl,mh⟩))
   have BR:Below w.heap.size w wD:=(hB.trans (bT.mono hB.size)).trans (mh.mono (hB.trans (bT.mono hB.size)).size);clear bT mh kQ hB u1 u2 kW kD f1 e0;have er:Int.tmod (t:Int) 2=((t % 2:Nat):Int):=by rw[Int.tmod_eq_emod_of_nonneg (by omega)];simp
   have er2:(t:Int) % 2=((t % 2:Nat):Int):=by omega
   generalize hp:x*d=p at*;have Hp:=qd hp;clear hp;have Mh:-96000000000000<=p/\p<=96000000000000:=by have:=Hp.out;simp at lj;omega
   by_cases ij:t % 2=0
   ·rw[if_pos ij] at mg;subst mg;have rq:((t:Int) % 2==1)=false:=by rw[er2,ij];rfl
    have xS:(Int.tmod (t:Int) 2==1)=false:=by rw[er,ij];rfl
    have e2:IntKind.i64.wrap (S+p)=S+p:=IntWalk.i64_in _ (by omega);clear ij uz lj er er2;go_wp2_with fail;go_roundw
    case rel=>exact⟨t+1,by omega,by go_num,by rw[eN.out,<-Hp.out];simp,BR⟩
    case measure=>simp[intOf];omega
   ·rw[if_neg ij] at mg;subst mg;have xS:(Int.tmod (t:Int) 2==1)=true:=by rw[er,show t % 2=1 by omega];rfl
    have e3:IntKind.i64.wrap (-p)=-p:=IntWalk.i64_in _ (by omega);have e2:IntKind.i64.wrap (S+-p)=S+-p:=IntWalk.i64_in _ (by omega);have rq:((t:Int) % 2==1)=true:=by rw[er2,show t % 2=1 by omega];rfl
    clear ij uz lj er er2;go_wp2_with fail;go_roundw
    case rel=>exact⟨t+1,by omega,by go_num,by rw[eN.out,<-Hp.out,Int.neg_mul,Int.neg_mul,Int.one_mul],BR⟩
    case measure=>simp[intOf];omega
  ·obtain rfl:t=n+1:=by omega
   go_wp2;go_ret;exact⟨rfl,hb⟩
theorem zjV:∀(n:Nat),n<=4->∀(g o cap:Nat) (m:LL) (w:World),SqB n m->g<w.heap.size->zal w g o m->Calls Tryz.prog 151 #[(qS (some ⟨g,o,none⟩) n cap)] w (zbb w (.int .i64 (det n m))):=by
 intro n
 induction n with
 |zero=>
  intro _ g o cap m w _ _ _
  go_enter Tryz.func151,Tryz.ntmps151
  go_wp2;go_ret;exact⟨rfl,Below.refl _ _⟩
 |succ n ih=>
  intro hn g o cap m w bC hg hr;exact zph n hn (ih (by omega)) g o cap m w bC hg hr
end
section
def Sml(n:Nat)(v:LI):Prop:=v.length=n/\∀j,j<v.length->0<=v.getD j 0/\v.getD j 0<=4
instance(n:Nat)(v:LI):Decidable (Sml n v):=by unfold Sml;infer_instance
end
section
def zaS(v r:LI)(k:Int):LI:=(List.range v.length).map fun j=>v.getD j 0+k*r.getD j 0
theorem zcU(v r:LI)(k:Int):(zaS v r k).length=v.length:=by simp[zaS]
theorem zhU(v r:LI)(k:Int){j:Nat}(hj:j<v.length):(zaS v r k).getD j 0=v.getD j 0+k*r.getD j 0:=by simp[zaS,List.getD,hj]
end
section
open Go.RowKit
def addTo(a b:LI)(k:Nat):LI:=(List.range k).map fun j=>wrap64 (a.getD j 0+b.getD j 0)
theorem addTo_succ(a b:LI)(k:Nat):addTo a b (k+1)=addTo a b k++[wrap64 (a.getD k 0+b.getD k 0)]:=by unfold addTo;rw[List.range_succ,List.map_append];rfl
theorem zcP(a b:LI)(k:Nat):(addTo a b k).length=k:=by simp[addTo]
theorem zhr(g1 o1 n c1 g2 o2 c2:Nat)(v r:LI)(w:World)(dL:v.length=n)(da:r.length=n)(hx:n<=1048576)(bm:g1<w.heap.size)(aP:g2<w.heap.size)(ha:zag w g1 o1 v)(hr:zag w g2 o2 r):
 Calls Tryz.prog 46 #[(qS (some ⟨g1,o1,none⟩) n c1),(qS (some ⟨g2,o2,none⟩) n c2)] w (zav w (addTo v r n)):=by
 go_enter Tryz.func46,Tryz.ntmps46
 go_wp2;go_loopw [5,6] (fun s kv wr=>∃t g' c':Nat,t<=n/\kv= .int .i64 t/\s=(qS (some ⟨g',0,none⟩) t c')/\Own wr w.heap.size g' c' (addTo v r t)/\Below w.heap.size w wr) (fun _ kv _=>n-(intOf kv).toNat)
 case atStart=>exact⟨0,w.heap.size,0,qz _,rfl,rfl,Own.empty (qr _),(Below.refl _ _).alloc (qr _) _⟩
 case round=>
  obtain⟨t,g',c',ht,rfl,rfl,ho,hb⟩:=hrel;by_cases ac:t<n
  ·have k1:=(hb.cell (p:=⟨g1,o1+t,none⟩) bm).trans (ha t (by omega));have k2:=(hb.cell (p:=⟨g2,o2+t,none⟩) aP).trans (hr t (by omega));have bw:=addTo_succ v r t;have hl:=zcP v r t;have lZ:=ho.base;have ne1:some g1≠some g':=by intro e;cases e;omega
   have ne2:some g2≠some g':=by intro e;cases e;omega
   generalize v.getD t 0=x at*;generalize r.getD t 0=y at*;generalize addTo v r t=ys at*;have Hs:=qd bw;clear bw;go_wp2_with fail
   go_region_held3 (fun W=>W.cell? ⟨g1,o1+t,none⟩=some (.int .i64 x)/\W.cell? ⟨g2,o2+t,none⟩=some (.int .i64 y))
    (first|go_keep|exact⟨aK.cell (a:=⟨g1,o1+t,none⟩) k1 ne1,aK.cell (a:=⟨g2,o2+t,none⟩) k2 ne2⟩)
    ((refine zcH (w:=wr.drew) (by rfl) _ _ (by rfl) w.heap.size g' c' t wr.heap.size ys (IntKind.i64.wrap (x+y)) _ hl (by rfl) (by rfl) ho.drew (by rfl) (by rfl) (by omega) ?_;intro g3 c3 w3 al aK aY))
   go_wp2_with fail;go_roundw
   case rel=>
    rw[show IntKind.i64.wrap (x+y)=wrap64 (x+y) by simp only[wrap64,IntKind.wrap_i64],<-Hs.out] at al;exact⟨t+1,g3,c3,by omega,by go_num,rfl,al,(Below.drew hb).grown aK hb.size (by intro j hj;cases hj;exact ho.base)⟩
   case measure=>simp[intOf];omega
  ·obtain rfl:t=n:=by omega
   go_wp2_with fail;go_ret;exact zav.mk' g' c' (zcP _ _ _) ho hb
theorem zdn(gc oc n cc g o m cv:Nat)(c:LL)(v:LI)(w:World)(hn:c.length=n)(hm:v.length=m)(_hx:c.length<=1048576)(eP:v.length<=1048576)(hv:zag w g o v):
 Calls Tryz.prog 39 #[(qS (some ⟨gc,oc,none⟩) n cc),(qS (some ⟨g,o,none⟩) m cv)] w (zap w (.bool (decide (Sml c.length v)))):=by
 subst hn;subst hm;by_cases am:v.length=c.length
 ·have mc:((v.length:Int) != (c.length:Int))=false:=by rw[am];simp
  have cg:=qd am;clear am
  go_enter Tryz.func39,Tryz.ntmps39
  go_wp2_with fail;go_loopw [14] (fun i wr=>∃k:Nat,k<=v.length/\i= .int .i64 k/\Hid (∀j,j<k->0<=v.getD j 0/\v.getD j 0<=4)/\∃m,wr=w.drewN m) (fun i _=>v.length-(intOf i).toNat)
  case atStart=>exact⟨0,qz _,rfl,fun j hj=>absurd hj (by omega),(by first|exact⟨_,rfl⟩|exact⟨0,rfl⟩|exact zam _ _ _|exact zan _ _ _ _)⟩
  case round=>
   obtain⟨k,hk,rfl,aE,m,rfl⟩:=hrel;by_cases ac:k<v.length
   ·have q1:=hv k ac;have HX:Hid (¬(0<=v.getD k 0/\v.getD k 0<=4)->decide (Sml c.length v)=false):=fun h=>decide_eq_false (fun h2=>h (h2.2 k ac))
    have HY:Hid (0<=v.getD k 0/\v.getD k 0<=4->∀j,j<k+1->0<=v.getD j 0/\v.getD j 0<=4):=fun h j hj=>by
     by_cases e:j=k
     ·subst e;exact h
     ·exact aE.out j (by omega)
    generalize v.getD k 0=x at*;by_cases h1:x<0
    ·have hf:=HX.out (by omega);have Hf:=qd hf;clear hf;go_wp2;go_ret;exact⟨zaK Hf.out.symm,(by first|exact⟨_,rfl⟩|exact⟨0,rfl⟩|exact zam _ _ _|exact zan _ _ _ _)⟩
    ·by_cases h2:4<x
     ·have hf:=HX.out (by omega);have Hf:=qd hf;clear hf;go_wp2;go_ret;exact⟨zaK Hf.out.symm,(by first|exact⟨_,rfl⟩|exact⟨0,rfl⟩|exact zam _ _ _|exact zan _ _ _ _)⟩
     ·have hy:=HY.out (by omega);have Hy:=qd hy;clear hy;go_wp2;go_roundw
      case rel=>exact⟨k+1,by omega,by go_num,Hy.out,(by first|exact⟨_,rfl⟩|exact⟨0,rfl⟩|exact zam _ _ _|exact zan _ _ _ _)⟩
      case measure=>simp[intOf];omega
   ·obtain rfl:k=v.length:=by omega
    have hf:decide (Sml c.length v)=true:=decide_eq_true ⟨cg.out,aE.out⟩;have Hf:=qd hf;clear hf;go_wp2;go_ret;exact⟨zaK Hf.out.symm,(by first|exact⟨_,rfl⟩|exact⟨0,rfl⟩|exact zam _ _ _|exact zan _ _ _ _)⟩
 ·have mc:((v.length:Int) != (c.length:Int))=true:=by simp;omega
  have hf:decide (Sml c.length v)=false:=decide_eq_false (fun h=>am h.1);have Hf:=qd hf;clear hf am
  go_enter Tryz.func39,Tryz.ntmps39
  go_wp2_with fail;go_ret;exact⟨zaK Hf.out.symm,(by first|exact⟨_,rfl⟩|exact⟨0,rfl⟩|exact zam _ _ _|exact zan _ _ _ _)⟩
theorem zdf(gc oc n cc g o m cv:Nat)(c:LL)(v:LI)(w:World)(hn:c.length=n)(hm:v.length=m)(hx:c.length<=1048576)(eP:v.length<=1048576)
 (an:∀j,j<c.length->(c.getD j []).length<=1048576) (ah:gc<w.heap.size) (hr:zal w gc oc c) (hv:zag w g o v):
 Calls Tryz.prog 44 #[(qS (some ⟨gc,oc,none⟩) n cc),(qS (some ⟨g,o,none⟩) m cv)] w (zbb w (.bool (zaN c&&decide (Sml c.length v)))):=by
 subst hn;subst hm
 go_enter Tryz.func44,Tryz.ntmps44
 go_wp2_with fail;go_loopw [5] (fun i wr=>∃k:Nat,k<=v.length/\i= .int .i64 k/\Hid (∀j,j<k->0<=v.getD j 0/\v.getD j 0<=4)/\∃m,wr=w.drewN m) (fun i _=>v.length-(intOf i).toNat)
 case atStart=>exact⟨0,qz _,rfl,fun j hj=>absurd hj (by omega),(by first|exact⟨_,rfl⟩|exact⟨0,rfl⟩|exact zam _ _ _|exact zan _ _ _ _)⟩
 case round=>
  obtain⟨k,hk,rfl,aE,m,rfl⟩:=hrel;by_cases ac:k<v.length
  ·have q1:=hv k ac;have HX:Hid (¬(0<=v.getD k 0/\v.getD k 0<=4)->(zaN c&&decide (Sml c.length v))=false):=fun h=>by rw[decide_eq_false (fun h2=>h (h2.2 k ac)),Bool.and_false]
   have HY:Hid (0<=v.getD k 0/\v.getD k 0<=4->∀j,j<k+1->0<=v.getD j 0/\v.getD j 0<=4):=fun h j hj=>by
    by_cases e:j=k
    ·subst e;exact h
    ·exact aE.out j (by omega)
   generalize v.getD k 0=x at*;go_wp2_with fail;refine(zdJ x 0 4 (w.drewN m)).mono ?_;rintro e w2 ⟨rfl,m2,rfl⟩;by_cases bR:0<=x/\x<=4
   ·have hT:(decide (0<=x)&&decide (x<=4))=true:=by simp;exact bR
    have hy:=HY.out bR;have Hy:=qd hy;clear hy bR;rw[hT];go_wp2_with fail;go_roundw
    case rel=>exact⟨k+1,by omega,by go_num,Hy.out,(by first|exact⟨_,rfl⟩|exact⟨0,rfl⟩|exact zam _ _ _|exact zan _ _ _ _)⟩
    case measure=>simp[intOf];omega
   ·have hT:(decide (0<=x)&&decide (x<=4))=false:=by rw[Bool.and_eq_false_iff,decide_eq_false_iff_not,decide_eq_false_iff_not];omega
    have hf:=HX.out bR;have Hf:=qd hf;clear hf bR;rw[hT];go_wp2_with fail;go_ret;exact⟨zaK Hf.out.symm,zaf (Below.refl _ _) (by first|exact⟨_,rfl⟩|exact⟨0,rfl⟩|exact zam _ _ _|exact zan _ _ _ _)⟩
  ·obtain rfl:k=v.length:=by omega
   have aa:=zcE gc oc _ cc c (w.drewN m) rfl hx an ah (hr.still ⟨m,rfl⟩);have hf:decide (Sml c.length v)=decide (v.length=c.length):=decide_eq_decide.2 ⟨fun h=>h.1,fun h=>⟨h,aE.out⟩⟩;have Hf:=qd hf;clear hf
   cases hF:zaN c with
   |false=>
    rw[hF] at aa;have ab:=qd aa;have hz:(zaN c&&decide (Sml c.length v))=false:=by rw[hF,Bool.false_and]
    have Hz:=qd hz;clear aa hF hz;go_wp2_with fail;refine ab.out.mono ?_;rintro e w2 ⟨rfl,ae⟩;have az:Below w.heap.size w w2:=Below.trans (zaf (Below.refl _ _) ⟨m,rfl⟩) ae;go_wp2_with fail;go_ret;exact⟨zaK Hz.out.symm,az⟩
   |true=>
    rw[hF] at aa;have ab:=qd aa;have hz:(zaN c&&decide (Sml c.length v))=decide (v.length=c.length):=by rw[hF,Bool.true_and,Hf.out]
    clear aa hF;by_cases am:v.length=c.length
    ·have hT:((v.length:Int)==(c.length:Int))=true:=by rw[am];simp
     have rE:decide (v.length=c.length)=true:=decide_eq_true am;rw[rE] at hz;have Hz:=qd hz;clear am rE hz;go_wp2_with fail;refine ab.out.mono ?_;rintro e w2 ⟨rfl,ae⟩;have az:Below w.heap.size w w2:=Below.trans (zaf (Below.refl _ _) ⟨m,rfl⟩) ae;go_wp2_with fail;go_ret;exact⟨zaK Hz.out.symm,az⟩
    ·have hT:((v.length:Int)==(c.length:Int))=false:=by simp;omega
     have rE:decide (v.length=c.length)=false:=decide_eq_false am;rw[rE] at hz;have Hz:=qd hz;clear am rE hz;go_wp2_with fail;refine ab.out.mono ?_;rintro e w2 ⟨rfl,ae⟩;have az:Below w.heap.size w w2:=Below.trans (zaf (Below.refl _ _) ⟨m,rfl⟩) ae;go_wp2_with fail;go_ret;exact⟨zaK Hz.out.symm,az⟩
def zfn(v r:LI)(k:Int)(t:Nat):LI:=(List.range t).map fun j=>v.getD j 0+k*r.getD j 0
theorem zkP(v r:LI)(k:Int)(t:Nat):(zfn v r k t).length=t:=by simp[zfn]
theorem znm(v r:LI)(k:Int)(t:Nat):zfn v r k (t+1)=zfn v r k t++[v.getD t 0+k*r.getD t 0]:=by simp[zfn,List.range_succ]
theorem zoQ(v r:LI)(k:Int):zfn v r k v.length=zaS v r k:=rfl
theorem zzU{x y:Int}(hx:-1000<=x/\x<=1000)(hy:-1000<=y/\y<=1000):-1000000<=x*y/\x*y<=1000000:=by
 have h:(x*y).natAbs<=1000*1000:=by
  rw[Int.natAbs_mul];exact Nat.mul_le_mul (by omega) (by omega)
 omega
theorem zgh(g1 o1 n c1 g2 o2 c2:Nat)(v r:LI)(k:Int)(w:World)(dL:v.length=n)(da:r.length=n)(hx:n<=1048576)(bE:∀j,j<n→-1000000000<=v.getD j 0/\v.getD j 0<=1000000000)(ie:∀j,j<n→-1000<=r.getD j 0/\r.getD j 0<=1000)(hk:-1000<=k/\k<=1000)
 (bm:g1<w.heap.size) (aP:g2<w.heap.size) (ha:zag w g1 o1 v) (hr:zag w g2 o2 r):
 Calls Tryz.prog 90 #[(qS (some ⟨g1,o1,none⟩) n c1),(qS (some ⟨g2,o2,none⟩) n c2),.int .i64 k] w (zav w (zaS v r k)):=by
 have CM:=qd dL;have H1:Hid (∀t,t<n->∀W,Below w.heap.size w W->W.cell? ⟨g1,o1+t,none⟩=some (.int .i64 (v.getD t 0))/\W.cell? ⟨g2,o2+t,none⟩=some (.int .i64 (r.getD t 0))):=qd (fun t ht W hW=>⟨(hW.cell (p:=⟨g1,o1+t,none⟩) bm).trans (ha t (by omega)),(hW.cell (p:=⟨g2,o2+t,none⟩) aP).trans (hr t (by omega))⟩);have dO:=qd (znm v r k);have cg:=qd (zkP v r k);have Hb:=qd (fun t ht=>zzU hk (ie t ht));have Jg:=qd bE;have HE:=qd (zoQ v r k);have Qo:Hid (zfn v r k 0=[]):=rfl;rw[<-HE.out,dL];clear ha hr dL da ie bE hk HE;generalize zfn v r k=F at*
 go_enter Tryz.func90,Tryz.ntmps90
 go_wp2;go_loopw [7,8] (fun s kv wr=>∃t g' c':Nat,t<=n/\kv= .int .i64 t/\s=(qS (some ⟨g',0,none⟩) t c')/\Own wr w.heap.size g' c' (F t)/\Below w.heap.size w wr) (fun _ kv _=>n-(intOf kv).toNat)
 case atStart=>exact⟨0,w.heap.size,0,qz _,rfl,rfl,by rw[Qo.out];exact Own.empty (qr _),(Below.refl _ _).alloc (qr _) _⟩
 case round=>
  obtain⟨t,g',c',ht,rfl,rfl,ho,hb⟩:=hrel;by_cases ac:t<n
  ·obtain⟨k1,k2⟩:=H1.out t ac wr hb;have bw:=dO.out t;have hl:=cg.out t;have lZ:=ho.base;have ne1:some g1≠some g':=by intro e;cases e;omega
   have ne2:some g2≠some g':=by intro e;cases e;omega
   have b1:=Jg.out t ac;have b2:=Hb.out t ac;generalize v.getD t 0=xx at*;generalize r.getD t 0=y at*;have lp:IntKind.i64.wrap (k*y)=k*y:=IntWalk.i64_in _ ⟨by omega,by omega⟩;have tT:IntKind.i64.wrap (xx+k*y)=xx+k*y:=IntWalk.i64_in _ ⟨by omega,by omega⟩;generalize F t=ys at*;have Hs:=qd bw;clear bw;go_wp2_with fail
   go_region_held3 (fun W=>W.cell? ⟨g1,o1+t,none⟩=some (.int .i64 xx)/\W.cell? ⟨g2,o2+t,none⟩=some (.int .i64 y))
    (first|go_keep|exact⟨aK.cell (a:=⟨g1,o1+t,none⟩) k1 ne1,aK.cell (a:=⟨g2,o2+t,none⟩) k2 ne2⟩)
    ((refine zcH (w:=wr.drew) (by rfl) _ _ (by rfl) w.heap.size g' c' t wr.heap.size ys _ _ hl (by rfl) (by rfl) ho.drew (by rfl) (by rfl) (by omega) ?_;intro g3 c3 w3 al aK aY))
   go_wp2_with fail;go_roundw
   case rel=>
    rw[<-Hs.out] at al;exact⟨t+1,g3,c3,by omega,by go_num,rfl,al,(Below.drew hb).grown aK hb.size (by intro j hj;cases hj;exact ho.base)⟩
   case measure=>simp[intOf];omega
  ·obtain rfl:t=n:=by omega
   go_wp2_with fail;go_ret;exact zav.mk' g' c' (cg.out _) ho hb
end
section
open Go.RowKit Game
def zkv(M:Nat->Nat->Int)(t:Nat):Nat->Nat->Int:=fun r s=>M (r+1) (if s<t then s else s+1)
def znn:Nat->(Nat->Nat->Int)->Int
 |0,_=>1
 |n+1,M=>zaQ (n+1) fun t=>sgn t*M 0 t*znn n (zkv M t)
theorem zzV(m:LL)(t r s:Nat):ent (zar m t) r s=zkv (ent m) t r s:=by
 have hg:(zar m t).getD r []=zdi (m.getD (r+1) []) t:=by
  unfold zar;simp only[List.getD,List.getElem?_map,List.getElem?_drop];rw[Nat.add_comm 1 r]
  cases m[r+1]? with
  |none=>simp[zdi]
  |some r=>simp
 show((zar m t).getD r []).getD s 0=(m.getD (r+1) []).getD (if s<t then s else s+1) 0;rw[hg,zle];generalize m.getD (r+1) []=row;have out:∀k,row.length<=k->row.getD k 0=0:=fun k hk=>by simp[List.getD,hk]
 by_cases h1:s<t
 ·rw[if_pos h1];by_cases h2:s<row.length
  ·rw[if_pos ⟨h1,h2⟩]
  ·rw[if_neg (fun h=>h2 h.2),out _ (by omega),out _ (by omega)]
 ·rw[if_neg h1,if_neg (fun h=>h1 h.1)];by_cases h2:t<=row.length
  ·rw[Nat.min_eq_left h2,show t+1+(s-t)=s+1 by omega]
  ·rw[out _ (by omega),out _ (by omega)]
theorem ztd:∀(n:Nat) (m:LL),det n m=znn n (ent m)
 |0,_=>rfl
 |n+1,m=>by
  simp only[det,znn];refine zhR (n+1) fun t _=>?_
  rw[ztd n,show ent (zar m t)=zkv (ent m) t from funext fun r=>funext fun s=>zzV m t r s]
def zfc(M:Nat->Nat->Int)(j:Nat)(a:Nat->Int):Nat->Nat->Int:=fun r s=>if s=j then a r else M r s
theorem zno(M:Nat->Nat->Int)(j:Nat)(a:Nat->Int):zkv (zfc M j a) j=zkv M j:=by
 funext r s;show zfc M j a (r+1) (if s<j then s else s+1)=M (r+1) (if s<j then s else s+1);unfold zfc;rw[if_neg (by split <;> omega)]
theorem zlA(M:Nat->Nat->Int){j t:Nat}(h:t≠j)(a:Nat->Int):zkv (zfc M j a) t=zfc (zkv M t) (if j<t then j else j-1) (fun r=>a (r+1)):=by
 funext r s;show zfc M j a (r+1) (if s<t then s else s+1)=zfc (zkv M t) (if j<t then j else j-1) (fun r=>a (r+1)) r s;unfold zfc zkv;have e:((if s<t then s else s+1)=j)↔(s=if j<t then j else j-1):=by split <;> split <;> omega
 by_cases h1:(if s<t then s else s+1)=j
 ·rw[if_pos h1,if_pos (e.1 h1)]
 ·rw[if_neg h1,if_neg (fun h2=>h1 (e.2 h2))]
theorem zLg(g x y a b D:Int):g*(x*a+y*b)*D=x*(g*a*D)+y*(g*b*D):=by
 simp only[Int.mul_add,Int.add_mul,Int.mul_assoc,Int.mul_left_comm,Int.mul_comm]
theorem zLh(g m x y A B:Int):g*m*(x*A+y*B)=x*(g*m*A)+y*(g*m*B):=by
 simp only[Int.mul_add,Int.add_mul,Int.mul_assoc,Int.mul_left_comm,Int.mul_comm]
theorem zpi:∀(n:Nat) (M:Nat->Nat->Int) (j:Nat) (a b:Nat->Int) (x y:Int),j<n->znn n (zfc M j fun r=>x*a r+y*b r)=x*znn n (zfc M j a)+y*znn n (zfc M j b)
 |0,_,_,_,_,_,_,h=>absurd h (by omega)
 |n+1,M,j,a,b,x,y,hj=>by
  simp only[znn];rw[<-zjN,<-zjN,<-zmR];refine zhR (n+1) fun t ht=>?_
  by_cases e:t=j
  ·subst e;rw[zno,zno,zno];have e1:∀f:Nat->Int,zfc M t f 0 t=f 0:=fun f=>by unfold zfc;rw[if_pos rfl]
   rw[e1,e1,e1];exact zLg _ _ _ _ _ _
  ·rw[zlA M e,zlA M e,zlA M e];have e1:∀f:Nat->Int,zfc M j f 0 t=M 0 t:=fun f=>by unfold zfc;rw[if_neg e]
   rw[e1,e1,e1,zpi n (zkv M t) _ (fun r=>a (r+1)) (fun r=>b (r+1)) x y (by split <;> omega)];exact zLh _ _ _ _ _ _
def crd(c:LL)(v:LI):LI:=(List.range c.length).map fun j=>det c.length (zcO c j v)
def zgi(c:LL)(v:LI):Bool:=(crd c v).all fun x=>decide (0<=x)&&decide (x.tmod (dC c)=0)
def qLd(c:LL)(v:LI):LI:=(crd c v).map fun x=>x.tdiv (dC c)
theorem zcj(c:LL)(v:LI):(crd c v).length=c.length:=by simp[crd]
theorem zfK(c:LL)(v:LI):(qLd c v).length=c.length:=by simp[qLd,crd]
theorem zpj{c:LL}(hC:IsC c){j:Nat}(hj:j<c.length){v:LI}(hv:v.length=c.length):ent (zcO c j v)=zfc (ent c) j (toV v):=by
 funext r s;show((zcO c j v).getD r []).getD s 0=if s=j then v.getD r 0 else(c.getD r []).getD s 0;by_cases hr:r<c.length
 ·have e:(zcO c j v).getD r []=(c.getD r []).set j (v.getD r 0):=by simp[zcO,List.getD,hr]
  have hl:=hC.2.2.1 r hr;rw[e];generalize c.getD r []=row at*;generalize v.getD r 0=x;by_cases h:s=j
  ·subst h;rw[if_pos rfl];simp[List.getD,hl,hj]
  ·rw[if_neg h];simp[List.getD,List.getElem?_set,Ne.symm h]
 ·have e:(zcO c j v).getD r []=[]:=by simp[zcO,List.getD,Nat.not_lt.1 hr]
  have e2:c.getD r []=[]:=by simp[List.getD,Nat.not_lt.1 hr]
  have e3:v.getD r 0=0:=by simp[List.getD,hv,Nat.not_lt.1 hr]
  rw[e,e2,e3]
  split <;> simp
def crF(c:LL)(j:Nat)(f:Nat->Int):Int:=znn c.length (zfc (ent c) j f)
theorem zpk{c:LL}(hC:IsC c){v:LI}(hv:v.length=c.length){j:Nat}(hj:j<c.length):(crd c v).getD j 0=crF c j (toV v):=by
 have e:(crd c v).getD j 0=det c.length (zcO c j v):=by simp[crd,List.getD,hj]
 rw[e,ztd,zpj hC hj hv];rfl
theorem zDE(c:LL)(j:Nat):crF c j (fun k=>ent c k j)=dC c:=by
 unfold crF dC;rw[ztd];congr 1;funext r s;unfold zfc;by_cases h:s=j
 ·rw[if_pos h,h]
 ·rw[if_neg h]
theorem zzW(c:LL)(i:Nat):toV (znX c i)=fun k=>ent c k i:=by
 funext k;show(znX c i).getD k 0=ent c k i;by_cases h:k<c.length
 ·simp[znX,List.getD,h]
 ·rw[zqW (Nat.not_lt.1 h)];simp[znX,List.getD,Nat.not_lt.1 h]
structure zeT(c:LL):Prop where
 hC:IsC c
 pos:0<dC c
 zero:∀i j,i<c.length->j<c.length->i≠j->crF c j (fun k=>ent c k i)=0
theorem zIf{c:LL}(hC:IsC c)(h:crB c=true):zeT c:=by
 unfold crB at h;rw[Bool.and_eq_true] at h;refine⟨hC,of_decide_eq_true h.1,fun i j hi hj ao=>?_⟩;have h1:=List.all_eq_true.1 h.2 j (List.mem_range.2 hj);have h2:=List.all_eq_true.1 h1 i (List.mem_range.2 hi);rw[Bool.or_eq_true] at h2
 rcases h2 with h3|h3
 ·exact absurd (of_decide_eq_true h3) ao
 ·have h4:=of_decide_eq_true h3;rw[ztd,zpj hC hj (by simp[znX]),zzW] at h4;exact h4
def zJx(c:LL)(f:Nat->Int):Prop:=∀j,j<c.length->0<=crF c j f/\dC c ∣ crF c j f
theorem zDF{c:LL}(hC:IsC c){v:LI}(hv:v.length=c.length):zgi c v=true↔zJx c (toV v):=by
 unfold zgi zJx;rw[List.all_eq_true];constructor
 ·intro h j hj;have h1:=h ((crd c v).getD j 0) (by simp[List.getD,zcj,hj]);rw[Bool.and_eq_true,zpk hC hv hj] at h1;exact⟨of_decide_eq_true h1.1,Int.dvd_of_tmod_eq_zero (of_decide_eq_true h1.2)⟩
 ·intro h x hx;obtain⟨j,hj,rfl⟩:=List.mem_iff_getElem.1 hx;have fC:j<c.length:=by rw[zcj] at hj;exact hj
  have e:(crd c v)[j]=crF c j (toV v):=by rw[<-zpk hC hv fC];simp[List.getD,hj]
  rw[e,Bool.and_eq_true];exact⟨decide_eq_true (h j fC).1,decide_eq_true (Int.tmod_eq_zero_of_dvd (h j fC).2)⟩
def zbz(n:Nat)(v:LI):LI:=addTo v (zax n) n
theorem zeU(n:Nat)(v:LI):(zbz n v).length=n:=zcP _ _ _
theorem zfo{v:LI}{j:Nat}(h:v.length<=j):toV v j=0:=by show v.getD j 0=0;simp[List.getD,h]
theorem zzX{n:Nat}{x u:LI}(hx:x.length=n)(hu:u.length=n):toV (zaS x u (-1))=fun r=>toV x r-toV u r:=by
 funext r;by_cases h:r<n
 ·show(zaS x u (-1)).getD r 0=x.getD r 0-u.getD r 0;rw[zhU _ _ _ (by omega)];omega
 ·rw[zfo (by rw[zcU];omega),zfo (by omega),zfo (by omega)];rfl
end
section
open Go.RowKit Game
def zhG(c:LL)(v:LI):Bool:=(crd c v).all fun x=>decide (x.tmod (dC c)=0)
theorem zxh{c:LL}{v:LI}:zhG c v=true↔∀j,j<c.length->((crd c v).getD j 0).tmod (dC c)=0:=by
 unfold zhG;rw[List.all_eq_true];constructor
 ·intro h j hj;exact of_decide_eq_true (h ((crd c v).getD j 0) (by simp[List.getD,zcj,hj]))
 ·intro h x hx;obtain⟨j,hj,rfl⟩:=List.mem_iff_getElem.1 hx;have:=h j (by rw[zcj] at hj;exact hj);simp[List.getD,hj] at this;exact decide_eq_true this
def SmW(n:Nat)(v:LI):Prop:=v.length=n/\∀j,j<n→-1900<=v.getD j 0/\v.getD j 0<=1900
theorem zri{c:LL}(hC:IsC c){v:LI}(hv:SmW c.length v){j:Nat}(hj:j<c.length):SqB c.length (zcO c j v):=by
 refine⟨by simp[zcO],fun i hi=>?_,fun r s=>?_⟩
 ·have e:(zcO c j v).getD i []=(c.getD i []).set j (v.getD i 0):=by simp[zcO,List.getD,hi]
  rw[e,List.length_set];exact hC.2.2.1 i hi
 ·rw[zpj hC hj hv.1];unfold zfc
  split
  ·by_cases hr:r<c.length
   ·have:=hv.2 r hr;show -2000<=v.getD r 0/\v.getD r 0<=2000;omega
   ·rw[zfo (by rw[hv.1];omega)];omega
  ·have:=zid hC r s;omega
theorem zrY{c:LL}(hC:IsC c){v:LI}(hv:SmW c.length v){j:Nat}(hj:j<c.length):-384000000000000<=(crd c v).getD j 0/\(crd c v).getD j 0<=384000000000000:=by
 have e:(crd c v).getD j 0=det c.length (zcO c j v):=by simp[crd,List.getD,hj]
 have h:=zhb _ _ (zri hC hv hj);have h4:=hC.2.1
 have hd:0<=zha c.length/\zha c.length<=384000000000000:=by
  have:c.length=0∨c.length=1∨c.length=2∨c.length=3∨c.length=4:=by omega
  rcases this with h|h|h|h|h <;> rw[h] <;> simp[zha]
 rw[e];omega
theorem zuL{c:LL}(hC:IsC c):dC c<=384000000000000:=by
 have h:=zhb _ _ (Sq.toM (show Sq c.length c from⟨rfl,hC.2.2.1,zid hC⟩));have h4:=hC.2.1
 have hd:0<=zha c.length/\zha c.length<=384000000000000:=by
  have:c.length=0∨c.length=1∨c.length=2∨c.length=3∨c.length=4:=by omega
  rcases this with h|h|h|h|h <;> rw[h] <;> simp[zha]
 unfold dC;omega
theorem zzY{c:LL}{j:Nat}{v:LI}{k:Nat}(hk:k<c.length):(zcO c j v).take (k+1)=(zcO c j v).take k++[(c.getD k []).set j (v.getD k 0)]:=by
 have hl:k<(zcO c j v).length:=by simp[zcO];exact hk
 rw[qT hl];simp[zcO,List.getD,hk]
theorem zDG(c:LL)(j:Nat)(v:LI):(zcO c j v).take c.length=zcO c j v:=qF (by simp[zcO])
theorem zIg{c:LL}{v:LI}{j:Nat}(hj:j<c.length):(qLd c v).take (j+1)=(qLd c v).take j++[((crd c v).getD j 0).tdiv (dC c)]:=by
 have hl:j<(qLd c v).length:=by rw[zfK];exact hj
 rw[qT hl];congr 2;simp[qLd,List.getD,zcj,hj]
def znY(w:World)(c:LL)(v:LI)(e:Ending)(w':World):Prop:=
 (zhG c v=true/\zbl w (qLd c v) true e w')∨(zhG c v=false/\e= .returned (.tuple #[.slice none 0 0,.bool false])/\Below w.heap.size w w')
theorem zqB(gc oc n cc g o m cv:Nat)(c:LL)(v:LI)(w:World)(hn:c.length=n)(hm:v.length=m)(hK:zeT c)(aS:n<=cc)(hv:SmW c.length v)
 (ah:gc<w.heap.size) (hg:g<w.heap.size) (hr:zal w gc oc c) (iO:zag w g o v):
 Calls Tryz.prog 168 #[(qS (some ⟨gc,oc,none⟩) n cc),(qS (some ⟨g,o,none⟩) m cv)] w (znY w c v):=by
 subst hn;subst hm;have hC:=hK.hC;have aR:=hC.2.1;have dq:=hv.1;have hD:=zgH c.length aR gc oc cc c w (Sq.toM ⟨rfl,hC.2.2.1,zid hC⟩) ah aS hr;have rB:=hK.pos;have uy:=zuL hC;have HD:Hid (Calls Tryz.prog 185 #[(qS (some ⟨gc,oc,none⟩) c.length cc)] w (zbb w (.int .i64 (dC c)))):=hD
 have HX:=qd (fun(i:Nat) (hi:i<c.length) (W:World) (B gm cm:Nat) (rs:List RowRef) (ho:zab W B gm cm rs) (cK:rs.length=c.length) (br:zaa rs=zcO c i v)=>by
  have h1:=zgH c.length aR gm 0 cm (zcO c i v) W (zri hC hv hi) ho.lt (by have:=ho.capLe;omega) (by rw[<-br];exact ho.rows2);have e:det c.length (zcO c i v)=(crd c v).getD i 0:=by simp[crd,List.getD,hi]
  rw[e] at h1;exact h1)
 have HB:=qd (fun(i:Nat) (hi:i<c.length)=>zrY hC hv hi);have HT:=qd (fun(i k:Nat) (hk:k<c.length)=>zzY (j:=i) (v:=v) hk);have HA:=qd (fun i:Nat=>zDG c i v);have HQ:=qd (fun(j:Nat) (hj:j<c.length)=>zIg (v:=v) hj);have HL:=qd (fun j (hj:j<c.length)=>hC.2.2.1 j hj);have HV:=qd hv;have HI:=qd (zxh (c:=c) (v:=v));have wO:=qd (zfK c v);have hU:znY w c v=fun e w'=>(zhG c v=true/\zbl w (qLd c v) true e w')∨(zhG c v=false/\e= .returned (.tuple #[.slice none 0 0,.bool false])/\Below w.heap.size w w'):=rfl
 rw[hU];clear hD hK hv hU;generalize dC c=d at*;generalize crd c v=X at*;generalize qLd c v=Q at*;generalize zhG c v=bd at*
 go_enter Tryz.func168,Tryz.ntmps168
 go_wp2_with fail;refine HD.out.mono ?_;rintro e w1 ⟨rfl,ad⟩;go_wp2_with fail;go_loopw [7,19] (fun ov iv wr=>∃(i g' c':Nat),i<=c.length/\iv= .int .i64 i/\ov=(qS (some ⟨g',0,none⟩) i c')/\Hid (∀j,j<i->(X.getD j 0).tmod d=0)/\Own wr w.heap.size g' c' (Q.take i)/\Below w.heap.size w wr) (fun _ iv _=>c.length-(intOf iv).toNat)
 case atStart=>
  exact⟨0,w1.heap.size,0,qz _,rfl,rfl,fun j hj=>absurd hj (by omega),(Own.empty (w:=w1) (qr _)).mono ad.size,ad.alloc ad.size _⟩
 case round=>
  obtain⟨i,g',c',hi,rfl,rfl,hz,ho,hb⟩:=hrel;by_cases bG:i<c.length
  ·obtain⟨wo,rfl⟩:∃wo:World,wo=wr:=⟨_,rfl⟩;go_wp2_with fail;go_loopw [9,25] (fun mv kv wi=>∃(k gm cm:Nat) (rs:List RowRef),k<=c.length/\kv= .int .i64 k/\mv=(qS (some ⟨gm,0,none⟩) k cm)/\Hid (rs.length=k)/\Hid (zaa rs=(zcO c i v).take k)/\zab wi wo.heap.size gm cm rs/\Below wo.heap.size wo wi) (fun _ kv _=>c.length-(intOf kv).toNat)
   case atStart=>exact⟨0,wo.heap.size,0,[],qz _,rfl,rfl,rfl,rfl,zab.empty (qr _),(Below.refl _ _).alloc (qr _) _⟩
   case round=>
    obtain⟨k,gm,cm,rs,hk,rfl,rfl,cK,br,hR,bX⟩:=hrel;have qG:=hb.trans (bX.mono hb.size);by_cases nU:k<c.length
    ·obtain⟨ga,oa,ca,q1,q2,q3,q4⟩:=(hr.below qG ah) k nU;have an:=HL.out k nU;have Bn:=(iO.below qG hg) k (by rw[dq];exact nU);have ht:=HT.out i k nU;generalize c.getD k []=R at*;generalize v.getD k 0=x at*;rw[an] at q1 q2;have bD:=zjg ga oa c.length ca R wr an (by omega) q3 q4;have dY:=qd bD;have nl:=qd an;have Ht:=qd ht;clear bD an ht;go_wp2_with fail;refine dY.out.mono ?_;rintro e w2 ⟨g3,c3,rfl,al,ag⟩;rw[nl.out];have Qp:=(ag.cell (p:=⟨g,o+k,none⟩) (qL hg qG.size)).trans Bn;have x0:=al.cell i (by rw[nl.out];exact bG);have y0:=al.frozen i;have s1:=al.set i x;have aM:Below wr.heap.size wr (w2.setCell ⟨g3,i,none⟩ (.int .i64 x)):=ag.grown s1.2 ag.size (by intro j hj;cases hj;exact al.base);have Jh:=hR.below aM;have aG:Below wo.heap.size wo (w2.setCell ⟨g3,i,none⟩ (.int .i64 x)):=bX.trans (aM.mono bX.size);have aw:=s1.1.mono bX.size;have ao:∀s∈rs,s.1≠g3:=fun s hs e=>by have h1:=(hR.2.1 s hs).lt;have h2:=al.base;omega
     have dV:(R.set i x).length=c.length:=by rw[List.length_set];exact nl.out
     generalize R.set i x=R2 at*;have yK:=qd dV;have uJ:=qd ao;clear s1 ag aM dV hR Bn q1 ao;go_wp2_with (at_builtin;refine zao (w:=w2.setCell ⟨g3,i,none⟩ (.int .i64 x)) rfl _ _ rfl wo.heap.size gm cm k w2.heap.size rs (g3,c3,R2) _ cK.out (by unfold zah;rw[yK.out]) (by simp[World.setCell]) Jh aw uJ.out rfl rfl (by omega) ?_);intro g5 c5 w5 eW eF cY;have bj:Below wo.heap.size wo w5:=aG.grown eF aG.size (by intro t ht;cases ht;exact Jh.base);have lw:Hid ((rs++[(g3,c3,R2)]).length=k+1):=qd (by rw[qA,cK.out];rfl);have fK:Hid (zaa (rs++[(g3,c3,R2)])=(zcO c i v).take (k+1)):=qd (by rw[Ht.out,<-br.out];simp[zaa]);clear Jh aG eF cY;go_wp2_with fail;go_roundw
     case rel=>exact⟨k+1,g5,c5,_,by omega,by go_num,rfl,lw.out,fK.out,eW,bj⟩
     case measure=>simp[intOf];omega
    ·obtain rfl:k=c.length:=by omega
     have fT:=br.out;rw[HA.out i] at fT;have aa:=HX.out i bG wr wo.heap.size gm cm rs hR cK.out fT;have bE:=HB.out i bG;have hq:=HQ.out i bG;have ln:=ho.below bX ho.lt;have yL:=qG
     have CN:∀(h:¬(X.getD i 0).tmod d=0),bd=false:=fun h=>by
      cases hb:bd with
      |false=>rfl
      |true=>rw[hb] at HI;exact absurd (HI.out.1 rfl i bG) h
     have MM:(X.getD i 0).tmod d=0->∀j,j<i+1->(X.getD j 0).tmod d=0:=fun h j hj=>by
      by_cases e:j=i
      ·rw[e];exact h
      ·exact hz.out j (by omega)
     have qW:=ho.base;generalize X.getD i 0=x at*;have ab:=qd aa;have Hq:=qd hq;have uO:=qd CN;have Qq:=qd MM;have CO:(Q.take i).length=i:=by rw[List.length_take,wO.out];omega
     have Ji:=qd CO;clear aa hq CN MM fT br hR CO;have Qr:(d==0)=false:=by simp;omega
     go_wp2_with fail;refine ab.out.mono ?_;rintro e w2 ⟨rfl,ae⟩;have ar:=ln.below ae ln.lt;have az:Below w.heap.size w w2:=yL.trans (ae.mono yL.size);clear ae ln yL qG bX ho;by_cases pb:x.tmod d=0
     ·have yE:(x.tmod d != 0)=false:=by rw[pb];rfl
      have CP:=Qq.out pb;have Qs:=qd CP;have Ti:=qd pb;clear CP pb;go_wp2_with (at_builtin;refine zay rfl _ _ rfl w.heap.size g' c' i (Q.take i) (x.tdiv d) Ji.out ar rfl rfl (by omega) ?_);intro g3 c3 w3 al aK _;rw[<-Hq.out] at al;go_wp2_with fail;go_roundw
      case rel=>exact⟨i+1,g3,c3,by omega,by go_num,rfl,Qs.out,al,az.grown aK az.size (by intro j hj;cases hj;exact qW)⟩
      case measure=>simp[intOf];omega
     ·have yE:(x.tmod d != 0)=true:=by simpa using pb
      have hf:=uO.out pb;have Hf:=qd hf;clear pb hf;go_wp2_with fail;go_ret2;exact .inr ⟨Hf.out,rfl,az⟩
  ·obtain rfl:i=c.length:=by omega
   have aE:bd=true:=HI.out.2 hz.out;have vc:=qd aE;have hq:Q.take c.length=Q:=qF (by rw[wO.out];exact qr _);rw[hq] at ho;clear aE hq hz;go_wp2_with fail;go_ret2;exact .inl ⟨vc.out,g',c',by rw[wO.out];rfl,ho,hb⟩
end
end Go.Proofs.YtlgcmaoimpgedaaGreatDoor

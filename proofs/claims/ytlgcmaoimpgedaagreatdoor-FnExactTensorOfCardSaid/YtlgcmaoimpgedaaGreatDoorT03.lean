/- Det DetS Wit WitS -/
import Derived.Test.YtlgcmaoimpgedaaGreatDoorT02
set_option maxHeartbeats 4000000
set_option maxRecDepth 100000
set_option linter.unusedSimpArgs false
namespace Go.Proofs.YtlgcmaoimpgedaaGreatDoor
open Go.Value renaming slice->qS
section
open Go.RowKit
theorem zcC(m:LL)(j:Nat):(zar m j).length=m.length-1:=by simp[zar]
theorem ziz{m:LL}{j k:Nat}(hk:k+1<m.length):(zar m j).take (k+1)=(zar m j).take k++[zdi (m.getD (k+1) []) j]:=by
 have qI:k<(zar m j).length:=by rw[zcC];omega
 rw[qT qI];congr 2;simp[zar,List.getD,hk]
theorem zlg(t:Nat):sgn (t+1)=-(sgn t):=by
 unfold sgn;by_cases h:t % 2=0
 ·rw[if_pos h,if_neg (by omega)]
 ·rw[if_neg h,if_pos (by omega)];rfl
theorem zdK(t:Nat):sgn t=1∨sgn t=-1:=by unfold sgn;split <;> simp
theorem znJ{n:Nat}(h:n<=3):0<=zin n/\zin n<=162:=by
 have:n=0∨n=1∨n=2∨n=3:=by omega
 rcases this with rfl|rfl|rfl|rfl <;> simp[zin]
theorem ziA{G x d:Int}(hG:G=1∨G=-1)(hx:-3<=x/\x<=3)(hd:-162<=d/\d<=162):-486<=G*x*d/\G*x*d<=486∧-3<=G*x/\G*x<=3:=by
 have tS:x=-3∨x=-2∨x=-1∨x=0∨x=1∨x=2∨x=3:=by omega
 rcases hG with rfl|rfl <;> rcases tS with rfl|rfl|rfl|rfl|rfl|rfl|rfl <;> omega
theorem zlW{n:Nat}{m:LL}(bC:Sq (n+1) m)(hn:n<=3){t:Nat}(ht:t<=n+1):
 -1944<=(zaQ t fun j=>sgn j*ent m 0 j*det n (zar m j))/\(zaQ t fun j=>sgn j*ent m 0 j*det n (zar m j))<=1944:=by
 have:=zhP (fun j=>sgn j*ent m 0 j*det n (zar m j)) 486 t (fun j hj=>by
  have h1:=zjF n _ (zfS bC (j:=j) (by omega));have h2:=znJ hn;have h3:=ziA (d:=det n (zar m j)) (zdK j) (bC.2.2 0 j) ⟨by omega,by omega⟩;exact⟨h3.1,h3.2.1⟩)
 omega
attribute [local go_sem ↓] Go.wp_at_zero Go.wp_at_succ
theorem zkH(n:Nat)(dL:1<=n)(aR:n+1<=4)(ih:∀(g o cap:Nat) (m:LL) (w:World),Sq n m->g<w.heap.size->n<=cap->zal w g o m->Calls Tryz.prog 185 #[(qS (some ⟨g,o,none⟩) n cap)] w (zbb w (.int .i64 (det n m))))
 (g o cap:Nat) (m:LL) (w:World) (bC:Sq (n+1) m) (hg:g<w.heap.size) (aS:n+1<=cap) (hr:zal w g o m):
 Calls Tryz.prog 185 #[(qS (some ⟨g,o,none⟩) (n+1) cap)] w (zbb w (.int .i64 (det (n+1) m))):=by
 have IH:=qd ih;clear ih;obtain⟨g0,o0,c0,p1,p2,p3,p4⟩:=hr 0 (by rw[bC.1];omega);have fm:=bC.2.1 0 (by omega);rw[fm] at p1 p2;have ux:=qd fm;clear fm;rw[Nat.add_zero] at p1;have BM:¬cap=1:=by omega
 have BN:1<cap:=by omega
 have c1:(0:Int)<((n+1:Nat):Int):=by omega
 have hD:((n:Int)+1==0)=false:=by simp;omega
 go_enter Tryz.func185,Tryz.ntmps185
 go_wp2;go_loopw [3,4,17] (fun s sg i wr=>∃t:Nat,t<=n+1/\i= .int .i64 t/\s= .int .i64 (zaQ t fun j=>sgn j*ent m 0 j*det n (zar m j))/\sg= .int .i64 (sgn t)/\Below w.heap.size w wr) (fun _ _ i _=>n+1-(intOf i).toNat)
 case atStart=>exact⟨0,qz _,rfl,rfl,rfl,Below.refl _ _⟩
 case round=>
  obtain⟨t,ht,rfl,rfl,rfl,hb⟩:=hrel;by_cases ac:t<n+1
  ·have e0:=p4.below hb p3 t (by rw[ux.out];exact ac);have dI:(m.getD 0 []).getD t 0=ent m 0 t:=rfl;rw[dI] at e0;have bE:=bC.2.2 0 t;by_cases kj:ent m 0 t=0
   ·have cE:(zaQ (t+1) fun j=>sgn j*ent m 0 j*det n (zar m j))=zaQ t fun j=>sgn j*ent m 0 j*det n (zar m j):=by
     simp only[zaQ];rw[kj];simp
    have eN:=qd cE;clear cE dI bE;rw[kj] at e0;have Pe:=qd kj;clear kj;generalize (zaQ t fun j=>sgn j*ent m 0 j*det n (zar m j))=S at*;have rf:=zlg t;have xP:=qd rf;clear rf;have mg:=zdK t;generalize hG:sgn t=G at*;have HG:=qd hG;clear hG;have HJ:-1<=G/\G<=1:=by omega
    clear mg;go_wp2;go_roundw
    case rel=>exact⟨t+1,by omega,by go_num,by rw[eN.out],by rw[xP.out],hb⟩
    case measure=>simp[intOf];omega
   ·have Ia:(ent m 0 t != 0)=true:=by simpa using kj
    generalize qJ:ent m 0 t=x at*;have BO:=qd qJ;clear qJ dI;have ff:(t:Int)<(n:Int)+1:=by omega
    obtain⟨wo,rfl⟩:∃wo:World,wo=wr:=⟨_,rfl⟩;go_wp2;go_loopw [7,28] (fun mn i wr=>∃(k g' c':Nat) (rs:List RowRef),k<=n/\i= .int .i64 k/\mn=(qS (some ⟨g',0,none⟩) k c')/\Hid (rs.length=k)/\Hid (zaa rs=(zar m t).take k)/\zab wr wo.heap.size g' c' rs/\Below wo.heap.size wo wr) (fun _ i _=>n-(intOf i).toNat)
    case atStart=>exact⟨0,wo.heap.size,0,[],qz _,rfl,rfl,rfl,rfl,zab.empty (qr _),(Below.refl _ _).alloc (qr _) _⟩
    case round=>
     obtain⟨k,g',c',rs,hk,rfl,rfl,cK,ak,ho,ae⟩:=hrel;have du:=hb.trans (ae.mono hb.size);by_cases dN:k<n
     ·obtain⟨ga,oa,ca,q1,q2,q3,q4⟩:=hr (k+1) (by rw[bC.1];omega);have dK:=bC.2.1 (k+1) (by omega);rw[dK] at q1 q2;have oW:=(du.cell (p:=⟨g,o+(k+1),none⟩) hg).trans q1;have Ib:wr.cell? ⟨g,o+1+k,none⟩=some (qS (some ⟨ga,oa,none⟩) (n+1) ca):=by rw[show o+1+k=o+(k+1) by omega];exact oW
      have aC:=q4.below du q3;clear q1 oW;go_wp2;have b1:(0:Int)<=(t:Int):=by omega
      have b2:(t:Int)<=(ca:Int):=by omega
      have b3:(0:Int)<=(t:Int)+1:=by omega
      have b4:(t:Int)+1<=((n+1:Nat):Int):=by omega
      have b5:(t:Int)+1<=(n:Int)+1:=by omega
      have b6:(n:Int)+1<=(ca:Int):=by omega
      have b7:IntKind.i64.wrap ((t:Int)+1)=(t:Int)+1:=IntWalk.i64_in _ (by omega);have HN:Hid (n+1<=4):=aR;have an:(m.getD (k+1) []).length=n+1:=dK;generalize hR:m.getD (k+1) []=R at*;have l1:(R.take t).length=t:=by simp;omega
      have l2:(R.drop (t+1)).length=n-t:=by simp;omega
      have B0:Below wr.heap.size wr ((wr.alloc (.cells #[] 3)).drew):=Below.drew ((Below.refl _ _).alloc (qr _) _);have F1:∀w1,((wr.alloc (.cells #[] 3)).drew).grownBy w1 (some wr.heap.size)->Below wr.heap.size wr w1:=fun w1 h=>B0.grown h B0.size (by intro j hj;cases hj;exact qr _)
      have F2:∀(w1 w2:World) (g1:Nat),Below wr.heap.size wr w1->wr.heap.size<=g1->w1.grownBy w2 (some g1)->Below wr.heap.size wr w2:=fun w1 w2 g1 h hg h2=>h.grown h2 h.size (by intro j hj;cases hj;exact hg)
      have li:ga<wr.heap.size:=qL q3 du.size
      have FA:Hid (∀W,zag W ga oa R->∃g2 o2,(if ca=t+1 then some (⟨ga,oa,none⟩:Addr) else some ⟨ga,oa+(t+1),none⟩)=some ⟨g2,o2,none⟩/\zag W g2 o2 (R.drop (t+1))):=fun W hW=>by
       by_cases xQ:ca=t+1
       ·rw[if_pos xQ];refine⟨_,_,rfl,?_⟩;have:R.drop (t+1)=[]:=List.drop_eq_nil_of_le (by omega);rw[this];intro j hj;simp at hj
       ·rw[if_neg xQ];exact⟨_,_,rfl,hW.drop (t+1)⟩
      have l3:(([]++R.take t)++R.drop (t+1)).length=t+(n-t):=by simp;omega
      have kr:∀g2 c2:Nat,zah (g2,c2,([]++R.take t)++R.drop (t+1))=(qS (some ⟨g2,0,none⟩) (t+(n-t)) c2):=fun g2 c2=>by unfold zah;rw[l3]
      have Ic:=qd kr;have L3:=qd l3;clear kr l3
      have F3:Hid (∀(w2:World) (g2 c2:Nat),Below wr.heap.size wr w2->Own w2 wr.heap.size g2 c2 (([]++R.take t)++R.drop (t+1))->zab w2 wo.heap.size g' c' rs/\Own w2 wo.heap.size g2 c2 (([]++R.take t)++R.drop (t+1))/\∀s∈rs,s.1≠g2):=fun w2 g2 c2 hB hO=>
       ⟨ho.below hB,hO.mono ae.size,fun s hs=>by have h1:=(ho.2.1 s hs).lt;have h2:=hO.base;omega⟩
      have FB:∀w1,Below wr.heap.size wr w1->Below wo.heap.size wo w1:=fun w1 h=>ae.trans (h.mono ae.size)
      have lZ:wo.heap.size<=g':=ho.base
      go_region_held3 (fun W=>Below wo.heap.size wo W)
       (first|exact Below.drew ae|exact FB _ B0|exact(Below.drew ae).alloc ae.size _|exact FB _ (F1 _ bm)|exact FB _ (F2 _ _ _ (F1 _ bm) au.base aP)|exact(FB _ (F2 _ _ _ (F1 _ bm) au.base aP)).alloc (FB _ (F2 _ _ _ (F1 _ bm) au.base aP)).size _|exact(FB _ (F2 _ _ _ (F1 _ bm) au.base aP)).grown aK (FB _ (F2 _ _ _ (F1 _ bm) au.base aP)).size (by intro j hj;cases hj;exact lZ))
       (first
         |(refine zdU (by rfl) _ _ (by rfl) wr.heap.size wr.heap.size 0 0 ga oa t ca [] (R.take t) rfl l1 (by exact(Own.empty (w:=wr.drew) (qr _))) (by exact(aC.below B0 li).take t) (by rfl) (by rfl) (by omega) ?_;intro g1 c1 w1 au bm nN)
         |(refine zit (by rfl) _ _ (by rfl) wr.heap.size g1 c1 (0+t) (n-t) _ _ ([]++R.take t) (R.drop (t+1)) (by simp;omega) l2 (by exact au) (by rfl) (by rfl) (by exact FA.out _ (aC.below (F1 _ bm) li)) (by omega) ?_;intro g2 c2 w2 ar aP dJ)
         |(refine zjH (w:=w2) (by rfl) _ _ (by rfl) wo.heap.size g' c' k w2.heap.size rs (g2,c2,([]++R.take t)++R.drop (t+1)) _ cK.out (by rw[Ic.out]) (by rfl) (by exact(F3.out w2 g2 c2 (F2 _ _ _ (F1 _ bm) au.base aP) ar).1) (by exact(F3.out w2 g2 c2 (F2 _ _ _ (F1 _ bm) au.base aP) ar).2.1) (by exact(F3.out w2 g2 c2 (F2 _ _ _ (F1 _ bm) au.base aP) ar).2.2) (by rfl) (by rfl) (by omega) ?_;intro g3 c3 w3 al aK eu))
      have ap:Below wo.heap.size wo w3:=(FB _ (F2 _ _ _ (F1 _ bm) au.base aP)).grown aK (FB _ (F2 _ _ _ (F1 _ bm) au.base aP)).size (by intro j hj;cases hj;exact lZ);have Ie:=qd ap;clear F1 F2 FB au bm nN ar aP dJ eu FA ap;generalize (if ca=t+1 then some (⟨ga,oa,none⟩:Addr) else some ⟨ga,oa+(t+1),none⟩)=AA;go_wp2;go_roundw
      case rel=>
       refine⟨k+1,g3,c3,rs++[(g2,c2,([]++R.take t)++R.drop (t+1))],by omega,by go_num,rfl,by show _=_;rw[qA,cK.out];rfl,?_,al,Ie.out⟩;show _=_;rw[zcA,ak.out,ziz (by rw[bC.1];omega),hR];rfl
      case measure=>simp[intOf];omega
     ·obtain rfl:n=k:=by omega
      have fT:=ak.out;rw[qF (by rw[zcC,bC.1];omega)] at fT;have BP:=IH.out g' 0 c' (zar m t) wr (zfS bC ac) ho.lt (by have:=ho.capLe;rw[cK.out] at this;exact this) (by rw[<-fT];exact ho.rows2)
      have cE:(zaQ (t+1) fun j=>sgn j*ent m 0 j*det n (zar m j))=(zaQ t fun j=>sgn j*ent m 0 j*det n (zar m j))+sgn t*x*det n (zar m t):=by
       simp only[zaQ];rw[BO.out]
      have hS:=zlW bC (by omega) (t:=t) (by omega);have uy:=zjF n _ (zfS bC ac);have xR:=znJ (n:=n) (by omega);have uz:=ziA (zdK t) bE (d:=det n (zar m t)) ⟨by omega,by omega⟩;have rf:=zlg t;have mg:=zdK t;have rh:=qd BP;clear BP;have eN:=qd cE;have xP:=qd rf;clear cE rf fT;generalize (zaQ t fun j=>sgn j*ent m 0 j*det n (zar m j))=S at*;generalize det n (zar m t)=d at*;generalize sgn t=G at*;have HJ:-1<=G/\G<=1:=by omega
      have e1:IntKind.i64.wrap (G*x)=G*x:=IntWalk.i64_in _ (by omega);have e2:IntKind.i64.wrap (G*x*d)=G*x*d:=IntWalk.i64_in _ (by omega);have e3:IntKind.i64.wrap (S+G*x*d)=S+G*x*d:=IntWalk.i64_in _ (by omega);have nS:=hb.trans (ae.mono hb.size);clear mg uy xR uz hS;go_wp2_with fail;refine rh.out.mono ?_;rintro e w1 ⟨rfl,ag⟩;go_wp2_with fail;go_roundw
      case rel=>exact⟨t+1,by omega,by go_num,by rw[eN.out],by rw[xP.out],nS.trans (ag.mono nS.size)⟩
      case measure=>simp[intOf];omega
  ·obtain rfl:t=n+1:=by omega
   go_wp2;go_ret;exact⟨rfl,hb⟩
theorem zcn(g o cap:Nat)(w:World):Calls Tryz.prog 185 #[(qS (some ⟨g,o,none⟩) 0 cap)] w (zbb w (.int .i64 1)):=by
 go_enter Tryz.func185,Tryz.ntmps185
 go_wp2;go_ret;exact⟨rfl,Below.refl _ _⟩
theorem zlh(g o cap:Nat)(m:LL)(w:World)(bC:Sq 1 m)(aS:1<=cap)(hr:zal w g o m):
 Calls Tryz.prog 185 #[(qS (some ⟨g,o,none⟩) 1 cap)] w (zbb w (.int .i64 (det 1 m))):=by
 obtain⟨g0,o0,c0,p1,p2,p3,p4⟩:=hr 0 (by rw[bC.1];omega);have fm:=bC.2.1 0 (by omega);rw[fm] at p1 p2;rw[Nat.add_zero] at p1;have e0:=p4 0 (by rw[fm];omega);have dI:(m.getD 0 []).getD 0 0=ent m 0 0:=rfl;rw[dI,Nat.add_zero] at e0;have bE:=bC.2.2 0 0;have rm:det 1 m=ent m 0 0:=by simp[det,zaQ,sgn]
 rw[rm];clear rm dI fm p4;generalize ent m 0 0=x at*
 go_enter Tryz.func185,Tryz.ntmps185
 go_wp2;go_loopw [3,4,17] (fun s sg i wr=>((i= .int .i64 0/\s= .int .i64 0/\sg= .int .i64 1)∨(i= .int .i64 1/\s= .int .i64 x))/\Below w.heap.size w wr) (fun _ _ i _=>1-(intOf i).toNat)
 case atStart=>exact⟨.inl ⟨rfl,rfl,rfl⟩,Below.refl _ _⟩
 case round=>
  obtain⟨h|h,hb⟩:=hrel
  ·obtain⟨rfl,rfl,rfl⟩:=h;have f0:=(hb.cell (p:=⟨g0,o0,none⟩) p3).trans e0;by_cases kj:x=0
   ·subst kj;go_wp2;go_roundw
    case rel=>exact⟨.inr ⟨rfl,rfl⟩,hb⟩
    case measure=>simp[intOf]
   ·have Ia:(x != 0)=true:=by simpa using kj
    obtain⟨wo,rfl⟩:∃wo:World,wo=wr:=⟨_,rfl⟩;by_cases aI:cap=1
    ·subst aI;go_wp2;refine wp_loop_rounds 1 ?_;rw[rounds_succ];go_wp2_with fail;refine(zcn _ _ _ _).mono ?_;rintro e w1 ⟨rfl,ag⟩;go_wp2_with fail;go_roundw
     case rel=>
      refine⟨.inr ⟨rfl,?_⟩,?_⟩
      ·simp
      ·exact(hb.alloc hb.size _).trans (ag.mono (hb.alloc hb.size _).size)
     case measure=>simp[intOf]
    ·have aH:1<cap:=by omega
     go_wp2;refine wp_loop_rounds 1 ?_;rw[rounds_succ];go_wp2_with fail;refine(zcn _ _ _ _).mono ?_;rintro e w1 ⟨rfl,ag⟩;go_wp2_with fail;go_roundw
     case rel=>
      refine⟨.inr ⟨rfl,?_⟩,?_⟩
      ·simp
      ·exact(hb.alloc hb.size _).trans (ag.mono (hb.alloc hb.size _).size)
     case measure=>simp[intOf]
  ·obtain⟨rfl,rfl⟩:=h;go_wp2;go_ret;exact⟨rfl,hb⟩
theorem zli:∀(n:Nat),n<=4->∀(g o cap:Nat) (m:LL) (w:World),Sq n m->g<w.heap.size->n<=cap->zal w g o m->Calls Tryz.prog 185 #[(qS (some ⟨g,o,none⟩) n cap)] w (zbb w (.int .i64 (det n m))):=by
 intro n
 induction n with
 |zero=>intro _ g o cap m w _ _ _ _;exact zcn g o cap w
 |succ n ih=>
  intro hn g o cap m w bC hg aS hr
  cases n with
  |zero=>exact zlh g o cap m w bC aS hr
  |succ n=>exact zkH (n+1) (by omega) hn (ih (by omega)) g o cap m w bC hg aS hr
theorem zoD(row:LI)(j k:Nat):
 (if k≠j then((List.range k).filter (·≠j)).map (fun t=>row.getD t 0)++[row.getD k 0] else((List.range k).filter (·≠j)).map (fun t=>row.getD t 0))=((List.range (k+1)).filter (·≠j)).map (fun t=>row.getD t 0):=by
 rw[List.range_succ,List.filter_append];by_cases h:k=j
 ·subst h;simp
 ·simp[h]
theorem zrB{row:LI}{n j:Nat}(hl:row.length=n+1)(hj:j<=n):((List.range (n+1)).filter (·≠j)).map (fun t=>row.getD t 0)=zdi row j:=by
 have e:List.range (n+1)=List.range j++(j::(List.range (n-j)).map (fun t=>j+1+t)):=by
  apply List.ext_getElem
  ·simp;omega
  ·intro i h1 h2;simp only[List.getElem_range];by_cases hi:i<j
   ·rw[List.getElem_append_left (by simpa using hi)];simp
   ·rw[List.getElem_append_right (by simp;omega)];simp only[List.length_range];by_cases iP:i=j
    ·subst iP;simp
    ·obtain⟨d,rfl⟩:∃d,i=j+1+d:=⟨i-(j+1),by omega⟩;have:j+1+d-j=d+1:=by omega
     simp[this]
 rw[e,List.filter_append,List.map_append];unfold zdi;congr 1
 ·rw[List.filter_eq_self.2 (by intro a ha;have:=List.mem_range.1 ha;simp;omega)];apply List.ext_getElem
  ·simp;omega
  ·intro i h1 h2;simp at h1;simp[List.getD];rw[List.getElem?_eq_getElem (by omega)];rfl
 ·rw[List.filter_cons_of_neg (by simp),List.filter_eq_self.2 (by intro a ha;obtain⟨b,_,rfl⟩:=List.mem_map.1 ha;simp;omega)];apply List.ext_getElem
  ·simp;omega
  ·intro i h1 h2;simp at h1;simp[List.getD];rw[List.getElem?_eq_getElem (by omega)];rfl
end
section
open Go.RowKit
def zft(row:LI)(j k:Nat):LI:=((List.range k).filter (·≠j)).map (fun t=>row.getD t 0)
theorem ztp{row:LI}{j k:Nat}(h:k≠j):zft row j (k+1)=zft row j k++[row.getD k 0]:=by
 have:=zoD row j k;rw[if_pos h] at this;exact this.symm
theorem ztq{row:LI}{j k:Nat}(h:k=j):zft row j (k+1)=zft row j k:=by
 have:=zoD row j k;rw[if_neg (by simpa using h)] at this;exact this.symm
theorem ztr(row:LI)(j k:Nat):(zft row j k).length<=k:=by
 unfold zft;rw[List.length_map];exact qt (List.length_filter_le _ _) (by simp)
theorem zmH(n g o cap j:Nat)(m:LL)(w:World)(aR:n+1<=4)(bC:Sq (n+1) m)(hj:j<=n)(hg:g<w.heap.size)(hr:zal w g o m):
 Calls Tryz.prog 197 #[(qS (some ⟨g,o,none⟩) (n+1) cap),.int .i64 j] w (zbC w (zar m j)):=by
 go_enter Tryz.func197,Tryz.ntmps197
 go_wp2;go_loopw [5,6,7,8] (fun x i _ _ wr=>∃(t g' c':Nat) (rs:List RowRef),t<=n/\i= .int .i64 ((t:Int)+1)/\x=(qS (some ⟨g',0,none⟩) t c')/\Hid (rs.length=t)/\Hid (zaa rs=(zar m j).take t)/\zab wr w.heap.size g' c' rs/\Below w.heap.size w wr) (fun _ i _ _ _=>n+1-(intOf i).toNat)
 case atStart=>exact⟨0,w.heap.size,0,[],qz _,rfl,rfl,rfl,rfl,zab.empty (qr _),(Below.refl _ _).alloc (qr _) _⟩
 case round=>
  obtain⟨t,g',c',rs,ht,rfl,rfl,cK,ak,ho,hb⟩:=hrel;by_cases ac:t<n
  ·have ff:(t:Int)+1<(n:Int)+1:=by omega
   obtain⟨ga,oa,ca,q1,q2,q3,q4⟩:=hr (t+1) (by rw[bC.1];omega);have dK:=bC.2.1 (t+1) (by omega);rw[dK] at q1 q2;generalize hR:m.getD (t+1) []=R at*;have HR:=qd hR;clear hR;obtain⟨wo,rfl⟩:∃wo:World,wo=wr:=⟨_,rfl⟩;go_wp2;go_loopw [7,8] (fun x i wr=>∃k gr cr n':Nat,k<=n+1/\i= .int .i64 k/\x=(qS (some ⟨gr,0,none⟩) n' cr)/\Hid ((zft R j k).length=n')/\Own wr wo.heap.size gr cr (zft R j k)/\Below wo.heap.size wo wr) (fun _ i _=>n+1-(intOf i).toNat)
   case atStart=>exact⟨0,wo.heap.size,0,0,qz _,rfl,rfl,rfl,Own.empty (w:=wo) (qr _),(Below.refl _ _).alloc (qr _) _⟩
   case round=>
    obtain⟨k,gr,cr,n',hk,rfl,rfl,fa,aY,ae⟩:=hrel;have du:Below w.heap.size w wr:=hb.trans (ae.mono hb.size);have iX:=ztr R j k;rw[fa.out] at iX;by_cases dN:k<n+1
    ·have wd:(k:Int)<(n:Int)+1:=by omega
     by_cases BQ:k=j
     ·subst BQ;have hc:=ztq (row:=R) (j:=k) (k:=k) rfl;have Hc:=qd hc;clear hc;go_wp2;go_roundw
      case rel=>exact⟨k+1,gr,cr,n',by omega,by go_num,rfl,by show _=_;rw[Hc.out];exact fa.out,by rw[Hc.out];exact aY,ae⟩
      case measure=>simp[intOf];omega
     ·have ao:((k:Int) != (j:Int))=true:=by simp;omega
      have hc:=ztp (row:=R) BQ;have e1:=(du.cell (p:=⟨g,o+(t+1),none⟩) hg).trans q1;have e2:=q4.below du q3 k (by rw[dK];exact dN);have Hc:=qd hc;clear hc;generalize hz:R.getD k 0=z at*;have Hz:=qd hz;clear hz;go_wp2_with (at_builtin;refine zay rfl _ _ rfl wo.heap.size gr cr n' (zft R j k) z fa.out aY rfl rfl (by omega) ?_);intro g3 c3 w3 al aK _;go_wp2;go_roundw
      case rel=>
       refine⟨k+1,g3,c3,n'+1,by omega,by go_num,rfl,?_,?_,ae.grown aK ae.size (by intro j hj;cases hj;exact aY.base)⟩
       ·show _=_;rw[Hc.out,qA,fa.out];rfl
       ·rw[Hc.out];exact al
      case measure=>simp[intOf];omega
    ·obtain rfl:k=n+1:=by omega
     have hcut:zft R j (n+1)=zdi R j:=zrB dK hj;rw[hcut] at fa aY;have ar:=ho.below ae;have ao:∀r∈rs,r.1≠gr:=fun r hr=>by have h1:=(ho.2.1 r hr).lt;have h2:=aY.base;omega
     have dJ:=aY.mono hb.size;have aC:zah (gr,cr,zdi R j)=(qS (some ⟨gr,0,none⟩) n' cr):=by unfold zah;rw[fa.out]
     go_wp2_with (at_builtin;refine zao rfl _ _ rfl w.heap.size g' c' t wr.heap.size rs (gr,cr,zdi R j) _ cK.out (by rw[aC]) rfl ar dJ ao rfl rfl (by omega) ?_);intro g4 c4 w4 aw aT _;go_wp2;go_roundw
     case rel=>
      refine⟨t+1,g4,c4,rs++[(gr,cr,zdi R j)],by omega,by go_num,rfl,by show _=_;rw[qA,cK.out];rfl,?_,aw,du.grown aT du.size (by intro j hj;cases hj;exact ho.base)⟩;show _=_;rw[zcA,ak.out,ziz (by rw[bC.1];omega),HR.out]
     case measure=>simp[intOf];omega
  ·obtain rfl:n=t:=by omega
   have fT:=ak.out;rw[qF (by rw[zcC,bC.1];omega)] at fT;have jh:(zar m j).length=n:=by rw[zcC,bC.1];rfl
   have qK:=qd fT;have qM:=qd jh;clear fT jh;go_wp2;go_ret;exact⟨g',c',rs,by rw[qM.out];rfl,qK.out,ho,hb⟩
attribute [local go_sem ↓] Go.wp_at_zero Go.wp_at_succ
theorem zpT(n:Nat)(aR:n+1<=4)(ih:∀(g o cap:Nat) (m:LL) (w:World),Sq n m->g<w.heap.size->zal w g o m->Calls Tryz.prog 151 #[(qS (some ⟨g,o,none⟩) n cap)] w (zbb w (.int .i64 (det n m))))
 (g o cap:Nat) (m:LL) (w:World) (bC:Sq (n+1) m) (hg:g<w.heap.size) (hr:zal w g o m):
 Calls Tryz.prog 151 #[(qS (some ⟨g,o,none⟩) (n+1) cap)] w (zbb w (.int .i64 (det (n+1) m))):=by
 have IH:=qd ih;clear ih;obtain⟨g0,o0,c0,p1,p2,p3,p4⟩:=hr 0 (by rw[bC.1];omega);have fm:=bC.2.1 0 (by omega);rw[fm] at p1 p2;have ux:=qd fm;clear fm;rw[Nat.add_zero] at p1;have hD:((n:Int)+1==0)=false:=by simp;omega
 go_enter Tryz.func151,Tryz.ntmps151
 go_wp2;go_loopw [3,4,5] (fun s i _ wr=>∃t:Nat,t<=n+1/\i= .int .i64 t/\s= .int .i64 (zaQ t fun j=>sgn j*ent m 0 j*det n (zar m j))/\Below w.heap.size w wr) (fun _ i _ _=>n+1-(intOf i).toNat)
 case atStart=>exact⟨0,qz _,rfl,rfl,Below.refl _ _⟩
 case round=>
  obtain⟨t,ht,rfl,rfl,hb⟩:=hrel;by_cases ac:t<n+1
  ·have ff:(t:Int)<(n:Int)+1:=by omega
   have e0:=p4.below hb p3 t (by rw[ux.out];exact ac);have f1:=(hb.cell (p:=⟨g,o,none⟩) hg).trans p1;have dI:(m.getD 0 []).getD t 0=ent m 0 t:=rfl;rw[dI] at e0;have bE:=bC.2.2 0 t
   have cE:(zaQ (t+1) fun j=>sgn j*ent m 0 j*det n (zar m j))=(zaQ t fun j=>sgn j*ent m 0 j*det n (zar m j))+sgn t*ent m 0 t*det n (zar m t):=by
    simp only[zaQ]
   have hS:=zlW bC (by omega) (t:=t) (by omega);have uy:=zjF n _ (zfS bC ac);have xR:=znJ (n:=n) (by omega);have uz:=ziA (zdK t) bE (d:=det n (zar m t)) ⟨by omega,by omega⟩;have lj:=ziA (G:=1) (.inl rfl) bE (d:=det n (zar m t)) ⟨by omega,by omega⟩;have kW:Hid (∀W,Below w.heap.size w W->Calls Tryz.prog 197 #[(qS (some ⟨g,o,none⟩) (n+1) cap),.int .i64 t] W (zbC W (zar m t))):=fun W hW=>zmH n g o cap t m W aR bC (by omega) (qL hg hW.size) (hr.below hW hg)
   have jh:(zar m t).length=n:=by rw[zcC,bC.1];rfl
   have kD:Hid (∀W g1 c1 B rs,zaa rs=zar m t->zab W B g1 c1 rs->Calls Tryz.prog 151 #[(qS (some ⟨g1,0,none⟩) n c1)] W (zbb W (.int .i64 (det n (zar m t))))):=fun W g1 c1 B rs hc hO=>IH.out g1 0 c1 _ W (zfS bC ac) hO.lt (by rw[<-hc];exact hO.rows2)
   have qM:=qd jh;clear jh dI;have mg:sgn t=if t % 2=0 then 1 else -1:=rfl;have eN:=qd cE;clear cE;generalize (zaQ t fun j=>sgn j*ent m 0 j*det n (zar m j))=S at*;generalize qN:det n (zar m t)=d at*;have we:=qd qN;clear qN;generalize ent m 0 t=x at*;generalize sgn t=G at*;have hB:Below w.heap.size w wr.drew:=Below.drew hb;have u1:wr.drew.cell? ⟨g,o,none⟩=some (qS (some ⟨g0,o0,none⟩) (n+1) c0):=f1;have u2:wr.drew.cell? ⟨g0,o0+t,none⟩=some (.int .i64 x):=e0;have e1:IntKind.i64.wrap (x*d)=x*d:=IntWalk.i64_in _ (by simp at lj;omega);clear uy xR;have Pf:(0:Int)<=(t:Int):=by omega
   go_wp2_with fail
   go_region_held3 (fun W=>Below w.heap.size w W/\W.cell? ⟨g,o,none⟩=some (qS (some ⟨g0,o0,none⟩) (n+1) c0)/\W.cell? ⟨g0,o0+t,none⟩=some (.int .i64 x))
    (first|exact⟨hB,u1,u2⟩|exact⟨hB.trans (bT.mono hB.size),zaB bT u1,zaB bT u2⟩|(have v0:=hB.trans (bT.mono hB.size);exact⟨v0.trans (mh.mono v0.size),zaB mh (zaB bT u1),zaB mh (zaB bT u2)⟩))
    (first
      |(go_at_call 197;refine(kW.out _ hB).mono ?_;rintro e wA ⟨gA,cA,rsA,rfl,If,kQ,bT⟩;rw[qM.out])
      |(go_at_call 151;refine(kD.out _ gA cA _ rsA If kQ).mono ?_;rintro e wD ⟨rfl,mh⟩))
   have BR:Below w.heap.size w wD:=(hB.trans (bT.mono hB.size)).trans (mh.mono (hB.trans (bT.mono hB.size)).size);clear bT mh kQ hB u1 u2 kW kD f1 e0;have er:Int.tmod (t:Int) 2=((t % 2:Nat):Int):=by rw[Int.tmod_eq_emod_of_nonneg (by omega)];simp
   have er2:(t:Int) % 2=((t % 2:Nat):Int):=by omega
   generalize hp:x*d=p at*;have Hp:=qd hp;clear hp;have Mh:-486<=p/\p<=486:=by have:=Hp.out;simp at lj;omega
   by_cases ij:t % 2=0
   ·rw[if_pos ij] at mg;subst mg;have rq:((t:Int) % 2==1)=false:=by rw[er2,ij];rfl
    have xS:(Int.tmod (t:Int) 2==1)=false:=by rw[er,ij];rfl
    have e2:IntKind.i64.wrap (S+p)=S+p:=IntWalk.i64_in _ (by omega);clear ij uz lj er er2;go_wp2_with fail;go_roundw
    case rel=>exact⟨t+1,by omega,by go_num,by rw[eN.out,<-Hp.out];simp,BR⟩
    case measure=>simp[intOf];omega
   ·rw[if_neg ij] at mg;subst mg;have xS:(Int.tmod (t:Int) 2==1)=true:=by rw[er,show t % 2=1 by omega];rfl
    have e3:IntKind.i64.wrap (-p)=-p:=IntWalk.i64_in _ (by omega);have e2:IntKind.i64.wrap (S+-p)=S+-p:=IntWalk.i64_in _ (by omega);have rq:((t:Int) % 2==1)=true:=by rw[er2,show t % 2=1 by omega];rfl
    clear ij uz lj er er2;go_wp2_with fail;go_roundw
    case rel=>exact⟨t+1,by omega,by go_num,by rw[eN.out,<-Hp.out,Int.neg_mul,Int.neg_mul,Int.one_mul],BR⟩
    case measure=>simp[intOf];omega
  ·obtain rfl:t=n+1:=by omega
   go_wp2;go_ret;exact⟨rfl,hb⟩
theorem zqR:∀(n:Nat),n<=4->∀(g o cap:Nat) (m:LL) (w:World),Sq n m->g<w.heap.size->zal w g o m->Calls Tryz.prog 151 #[(qS (some ⟨g,o,none⟩) n cap)] w (zbb w (.int .i64 (det n m))):=by
 intro n
 induction n with
 |zero=>
  intro _ g o cap m w _ _ _
  go_enter Tryz.func151,Tryz.ntmps151
  go_wp2;go_ret;exact⟨rfl,Below.refl _ _⟩
 |succ n ih=>
  intro hn g o cap m w bC hg hr;exact zpT n hn (ih (by omega)) g o cap m w bC hg hr
end
section
open Go.RowKit
theorem zhx{M:Nat}(h:M<=4):2 ^ M<=16:=qt (Nat.pow_le_pow_right (by decide) h) (by decide)
theorem zrC{M:Nat}(h:M<=4):wrap64 ((2:Int) ^ M)=((2 ^ M:Nat):Int):=by
 have h1:=zhx h;have h2:((2 ^ M:Nat):Int)=(2:Int) ^ M:=by simp
 have h3:wrap64 ((2 ^ M:Nat):Int)=((2 ^ M:Nat):Int):=by
  generalize 2 ^ M=q at h1;exact IntWalk.wrap64_in _ ⟨by omega,by omega⟩
 rw[<-h2];exact h3
def zbf(c:LL)(m:Nat):Int:=det (zbL m).length (zaW c (zbL m))
theorem zxF{m t i:Nat}(h:i∈zff m t):m / 2 ^ i % 2=1/\i<t:=by
 unfold zff at h;have:=List.mem_filter.1 h;exact⟨by simpa using this.2,by simpa using this.1⟩
theorem zwR{m n:Nat}(hm:m<2 ^ n)(t:Nat)(ht:t<(zbL m).length):0<=(zbL m).getD t 0/\(zbL m).getD t 0<n:=by
 have be:(zbL m).getD t 0∈zbL m:=by simp[List.getD,ht]
 obtain⟨i,hi,he⟩:=List.mem_map.1 be;rw[<-he];have h1:=zxF hi;refine⟨by omega,?_⟩
 rcases Nat.lt_or_ge i n with h|h
 ·omega
 ·have:m / 2 ^ i=0:=Nat.div_eq_of_lt (qL hm (Nat.pow_le_pow_right (by decide) h));omega
theorem zid{c:LL}(hC:IsC c)(i j:Nat):-3<=ent c i j/\ent c i j<=3:=by
 by_cases hi:i<c.length
 ·by_cases hj:j<c.length
  ·have h:=hC.2.2.2 i hi j hj;unfold zcG at h
   split at h <;> omega
  ·have:ent c i j=0:=by
    unfold ent;have:=hC.2.2.1 i hi;simp only[List.getD] at*;rw[List.getElem?_eq_none (by omega)];rfl
   omega
 ·have:ent c i j=0:=by
   unfold ent;simp only[List.getD];have aJ:c[i]? =none:=List.getElem?_eq_none (by omega);rw[aJ];rfl
  omega
theorem zqS{c:LL}(hC:IsC c)(s:LI):Sq s.length (zaW c s):=by
 refine⟨by simp[zaW],fun i hi=>?_,fun i j=>?_⟩
 ·simp[zaW,List.getD,hi,zaP]
 ·have h0:∀i j,ent (zaW c s) i j=if i<s.length/\j<s.length then ent c (s.getD i 0).toNat (s.getD j 0).toNat else 0:=by
   intro i j;unfold zaW;by_cases hi:i<s.length
   ·by_cases hj:j<s.length
    ·rw[if_pos ⟨hi,hj⟩]
     conv=>lhs;unfold ent
     simp[List.getD,hi,hj,zaP]
    ·rw[if_neg (by omega)]
     conv=>lhs;unfold ent
     simp only[List.getD,List.getElem?_map];rw[List.getElem?_eq_getElem hi];simp[zaP];rw[List.getElem?_eq_none (by omega)];rfl
   ·rw[if_neg (by omega)]
    conv=>lhs;unfold ent
    simp only[List.getD,List.getElem?_map];have aJ:s[i]? =none:=List.getElem?_eq_none (by omega);rw[aJ];rfl
  rw[h0]
  split
  ·exact zid hC _ _
  ·omega
theorem zlj(m:Nat):(zbL m).length<=4:=zmG m 4
theorem zlX{c:LL}(hC:IsC c)(m:Nat):-1944<=zbf c m/\zbf c m<=1944:=by
 have h:=zjF _ _ (zqS hC (zbL m));have hl:=zlj m;have:(zbL m).length=4∨(zbL m).length<=3:=by omega
 unfold zbf
 rcases this with h4|h3
 ·rw[h4] at h ⊢;simp[zin] at h;omega
 ·have:=znJ h3;omega
def zew(c:LL)(t:Nat):LI:=(List.range t).map fun k=>zbf c (k+1)
def zdP(c:LL):LI:=if IsC c then zew c (2 ^ c.length-1) else[]
theorem zem(c:LL)(t:Nat):(zew c t).length=t:=by simp[zew]
theorem zsD(c:LL)(t:Nat):zew c (t+1)=zew c t++[zbf c (t+1)]:=by simp[zew,List.range_succ]
theorem ziX(g o n cp:Nat)(c:LL)(w:World)(hn:c.length=n)(hx:c.length<=1048576)(an:∀j,j<c.length->(c.getD j []).length<=1048576)(hg:g<w.heap.size)(hr:zal w g o c):
 Calls Tryz.prog 145 #[(qS (some ⟨g,o,none⟩) n cp)] w (zav w (zdP c)):=by
 subst hn
 go_enter Tryz.func145,Tryz.ntmps145
 go_wp2_with fail;have aN:Below w.heap.size w (w.alloc (.cells #[] 3)):=zgu;refine(zcz g o _ cp c _ rfl (by omega) (fun j hj=>by have:=an j hj;omega) (hr.below aN hg)).mono ?_;rintro e w1 ⟨rfl,m1,rfl⟩;by_cases hC:IsC c
 ·have ik:decide (IsC c)=true:=decide_eq_true hC;rw[ik];have aR:=hC.2.1;have dL:=hC.1;obtain⟨Q,hQ,Pg,xT⟩:∃Q:Nat,Q=2 ^ c.length/\Q<=16/\wrap64 ((2:Int) ^ c.length)=(Q:Int):=⟨2 ^ c.length,rfl,zhx aR,zrC aR⟩;have Ph:1<=Q:=by rw[hQ];exact Nat.one_le_two_pow
  have hM:zdP c=zew c (Q-1):=by unfold zdP;rw[if_pos hC,hQ]
  have HQ:=qd hQ;have HM:=qd hM;clear hQ hM;go_wp2_with fail;go_loopw [3,4] (fun s i wr=>∃t g' c':Nat,t+1<=Q/\i= .int .i64 ((t:Int)+1)/\s=(qS (some ⟨g',0,none⟩) t c')/\Own wr w.heap.size g' c' (zew c t)/\Below w.heap.size w wr) (fun _ i _=>17-(intOf i).toNat)
  case atStart=>exact⟨0,w.heap.size,0,by omega,rfl,rfl,(Own.empty (w:=w) (qr _)).drewN m1,below_drewN aN m1⟩
  case round=>
   obtain⟨t,g',c',ht,rfl,rfl,ho,hb⟩:=hrel;by_cases ac:t+1<Q
   ·have ff:(t:Int)+1<Q:=by omega
    have pA:t+1<=15:=by omega
    have bK:=zkG (t+1) wr pA;have e1:(((t+1:Nat)):Int)=(t:Int)+1:=by omega
    rw[e1] at bK;have kg:=qd bK;clear bK e1;have cC:=zlj (t+1);have rr:=fun k hk=>zwR (m:=t+1) (n:=c.length) (by rw[<-HQ.out];omega) k hk
    have rx:=zqS hC (zbL (t+1));have bP:(zaW c (zbL (t+1))).length=(zbL (t+1)).length:=by simp[zaW]
    have kt:=zlX hC (t+1);have BS:zbf c (t+1)=det (zbL (t+1)).length (zaW c (zbL (t+1))):=rfl;generalize hs:zbL (t+1)=s at*;have xU:=qd rr;have xV:=qd rx;have fE:=qd bP;have Hs:=qd hs;clear rr rx bP hs;go_wp2_with fail;refine kg.out.mono ?_;rintro e w2 ⟨g2,c2,rfl,ar,ae⟩;have az:=hb.trans (ae.mono hb.size);go_wp2_with fail;refine(zjG g o _ cp g2 0 _ c2 c s w2 rfl rfl cC hC.2.2.1 xU.out (qL hg az.size) ar.lt (hr.below az hg) ar.cells).mono ?_;rintro e w3 ⟨g3,c3,rs3,rfl,eE,al,ag⟩;rw[fE.out];have ap:=az.trans (ag.mono az.size);go_wp2_with fail;refine(zli s.length cC g3 0 c3 (zaW c s) w3 xV.out al.lt (by have:=al.capLe;rw[<-fE.out,<-eE];simpa [zaa] using this) (by rw[<-eE];exact al.rows2)).mono ?_;rintro e w4 ⟨rfl,aM⟩;rw[<-BS];have aG:=ap.trans (aM.mono ap.size);have AR:=zsD c t;have Pi:=qd AR;generalize zbf c (t+1)=d at*;have aw:=((ho.below ae ho.lt).below ag (qL ho.lt ae.size)).below aM (qL ho.lt (qt ae.size ag.size));clear AR ae ag aM ar al az ap BS;go_wp2_with (at_builtin;refine zay rfl _ _ rfl w.heap.size g' c' t (zew c t) d (zem _ _) aw rfl rfl (by omega) ?_);intro g5 c5 w5 aD eF _;go_wp2;go_roundw
    case rel=>
     rw[<-Pi.out] at aD;exact⟨t+1,g5,c5,by omega,by go_num,rfl,aD,aG.grown eF aG.size (by intro j hj;cases hj;exact aw.base)⟩
    case measure=>simp[intOf];omega
   ·have nT:¬(t:Int)+1<Q:=by omega
    obtain rfl:t=Q-1:=by omega
    go_wp2;go_ret;rw[HM.out];exact zav.mk' g' c' (zem _ _) ho hb
 ·have ik:decide (IsC c)=false:=decide_eq_false hC;have hM:zdP c=[]:=by unfold zdP;rw[if_neg hC]
  rw[ik];clear hC;go_wp2_with fail;go_ret;rw[hM];exact zav.mk' w.heap.size 0 rfl ((Own.empty (w:=w) (qr _)).drewN m1) (below_drewN aN m1)
def zdl(c:LL):Nat->Nat->LI
 |_,0=>[]
 |m,f+1=>if zbf c m<=0 then zbL m else zdl c (m+1) f
def zbR(c:LL):LI:=if IsC c then zdl c 1 (2 ^ c.length-1) else[]
def zaN(c:LL):Bool:=decide (IsC c)&&((zbR c).length==0)
theorem zvM(c:LL):∀(f m:Nat),(zdl c m f).length<=4:=by
 intro f
 induction f with
 |zero=>intro m;simp[zdl]
 |succ f ih=>
  intro m;unfold zdl
  split
  ·exact zlj m
  ·exact ih _
theorem zoE(c:LL):(zbR c).length<=4:=by
 unfold zbR
 split
 ·exact zvM _ _ _
 ·simp
theorem zmI(g o n cp:Nat)(c:LL)(w:World)(hn:c.length=n)(hx:c.length<=1048576)(an:∀j,j<c.length->(c.getD j []).length<=1048576)(hg:g<w.heap.size)(hr:zal w g o c):
 Calls Tryz.prog 98 #[(qS (some ⟨g,o,none⟩) n cp)] w (zav w (zbR c)):=by
 go_enter Tryz.func98,Tryz.ntmps98
 go_wp2_with fail;refine(ziX g o n cp c w hn hx an hg hr).mono ?_;rintro e w1 ⟨g1,c1,rfl,au,ad⟩
 have jh:(zdP c).length<=15:=by
  unfold zdP
  split
  ·rename_i hC
   have:=zhx hC.2.1;rw[zem];omega
  ·simp
 have lP:∀k,k<(zdP c).length->(zdP c).getD k 0=zbf c (k+1):=by
  intro k hk;unfold zdP at hk ⊢
  split
  ·rename_i hC
   rw[if_pos hC,zem] at hk;simp[zew,List.getD,hk]
  ·rename_i hC
   rw[if_neg hC] at hk;simp at hk
 have mi:zbR c=zdl c 1 (zdP c).length:=by
  unfold zbR zdP
  split
  ·rw[zem]
  ·rfl
 have xW:=qd mi;have Pj:=qd lP;clear mi lP;generalize zdP c=M at*;go_wp2_with fail;go_loopw [8] (fun i wr=>∃k:Nat,k<=M.length/\i= .int .i64 k/\Hid (zbR c=zdl c (k+1) (M.length-k))/\Below w.heap.size w wr/\Own wr w.heap.size g1 c1 M) (fun i _=>M.length-(intOf i).toNat)
 case atStart=>exact⟨0,qz _,rfl,xW.out,ad,au⟩
 case round=>
  obtain⟨k,hk,rfl,hw,hb,ho⟩:=hrel;by_cases ac:k<M.length
  ·have q1:=ho.cell k ac;have hm:=Pj.out k ac
   have cG:zdl c (k+1) (M.length-k)=if zbf c (k+1)<=0 then zbL (k+1) else zdl c (k+1+1) (M.length-(k+1)):=by
    rw[show M.length-k=(M.length-(k+1))+1 by omega];rfl
   rw[hm] at q1;have bK:=zkG (k+1) wr (by omega);have e1:(((k+1:Nat)):Int)=(k:Int)+1:=by omega
   rw[e1] at bK;have kg:=qd bK;have dO:=qd cG;clear bK cG e1 hm;generalize zbf c (k+1)=d at*;by_cases hd:d<=0
   ·go_wp2_with fail;refine kg.out.mono ?_;rintro e w2 ⟨g2,c2,rfl,ar,ae⟩;go_wp2_with fail;go_ret;rw[hw.out,dO.out,if_pos hd];exact zav.mk' g2 c2 rfl (ar.mono hb.size) (hb.trans (ae.mono hb.size))
   ·go_wp2_with fail;go_roundw
    case rel=>exact⟨k+1,by omega,by go_num,by show _=_;rw[hw.out,dO.out,if_neg hd],hb,ho⟩
    case measure=>simp[intOf];omega
  ·obtain rfl:k=M.length:=by omega
   go_wp2;go_ret;have tT:=hw.out;rw[Nat.sub_self] at tT;rw[tT];exact zav.mk' wr.heap.size 0 rfl (Own.empty (w:=wr) hb.size) (hb.alloc hb.size _)
theorem zdd(g o n cp:Nat)(c:LL)(w:World)(hn:c.length=n)(hx:c.length<=1048576)(an:∀j,j<c.length->(c.getD j []).length<=1048576)(hg:g<w.heap.size)(hr:zal w g o c):
 Calls Tryz.prog 54 #[(qS (some ⟨g,o,none⟩) n cp)] w (zbb w (.bool (zaN c))):=by
 have ry:=zoE c
 go_enter Tryz.func54,Tryz.ntmps54
 go_wp2_with fail;refine(zcz g o n cp c w hn (by omega) (fun j hj=>by have:=an j hj;omega) hr).mono ?_;rintro e w1 ⟨rfl,m1,rfl⟩;by_cases hC:IsC c
 ·have ik:decide (IsC c)=true:=decide_eq_true hC;have hf:zaN c=((zbR c).length==0):=by unfold zaN;rw[ik];simp
  rw[ik];go_wp2_with fail;refine(zmI g o n cp c (w.drewN m1) hn hx an hg hr).mono ?_;rintro e w2 ⟨g2,c2,rfl,ar,ae⟩;generalize (zbR c).length=L at*;go_wp2_with fail;go_ret;refine⟨?_,(zcr w m1).trans ae⟩;rw[hf];refine zaK ?_;by_cases h0:L=0
  ·subst h0;rfl
  ·have e1:(L==0)=false:=by simpa using h0
   have e2:((L:Int)==0)=false:=by simp;omega
   rw[e1,e2]
 ·have ik:decide (IsC c)=false:=decide_eq_false hC;have hf:zaN c=false:=by unfold zaN;rw[ik];simp
  rw[ik];clear hC;go_wp2_with fail;go_ret;exact⟨by rw[hf];rfl,zcr w m1⟩
end
section
open Go.RowKit
def zgM(n t:Nat):LL:=(List.range t).map fun k=>zcI (k+1) n
theorem zio(n t:Nat):(zgM n t).length=t:=by simp[zgM]
theorem zvN(n t:Nat):zgM n (t+1)=zgM n t++[zcI (t+1) n]:=by simp[zgM,List.range_succ]
theorem zpU(n:Nat)(w:World)(aR:n<=4):Calls Tryz.prog 149 #[.int .i64 n] w (zbC w (zgM n (2 ^ n-1))):=by
 obtain⟨Q,hQ,Pg,xT⟩:∃Q:Nat,Q=2 ^ n/\Q<=16/\wrap64 ((2:Int) ^ n)=(Q:Int):=⟨2 ^ n,rfl,zhx aR,zrC aR⟩;have Ph:1<=Q:=by rw[hQ];exact Nat.one_le_two_pow
 rw[<-hQ];have HQ:=qd hQ;clear hQ
 go_enter Tryz.func149,Tryz.ntmps149
 go_wp2;go_loopw [3,4,5,6] (fun x i _ _ wr=>∃(t g' c':Nat) (rs:List RowRef),t+1<=Q/\i= .int .i64 ((t:Int)+1)/\x=(qS (some ⟨g',0,none⟩) t c')/\Hid (rs.length=t)/\Hid (zaa rs=zgM n t)/\zab wr w.heap.size g' c' rs/\Below w.heap.size w wr) (fun _ i _ _ _=>17-(intOf i).toNat)
 case atStart=>exact⟨0,w.heap.size,0,[],by omega,rfl,rfl,rfl,rfl,zab.empty (qr _),(Below.refl _ _).alloc (qr _) _⟩
 case round=>
  obtain⟨t,g',c',rs,ht,rfl,rfl,cK,ak,ho,hb⟩:=hrel;by_cases ac:t+1<Q
  ·have ff:(t:Int)+1<Q:=by omega
   have pA:t+1<=15:=by omega
   obtain⟨wo,rfl⟩:∃wo:World,wo=wr:=⟨_,rfl⟩;go_wp2;simp only[xT];clear xT;go_loopw [5,6] (fun x i wr=>∃k gr cr n':Nat,k<=n/\i= .int .i64 k/\x=(qS (some ⟨gr,0,none⟩) n' cr)/\Hid ((zcI (t+1) k).length=n')/\Own wr wo.heap.size gr cr (zcI (t+1) k)/\Below wo.heap.size wo wr) (fun _ i _=>n-(intOf i).toNat)
   case atStart=>exact⟨0,wo.heap.size,0,0,qz _,rfl,rfl,rfl,Own.empty (w:=wo) (qr _),(Below.refl _ _).alloc (qr _) _⟩
   case round=>
    obtain⟨k,gr,cr,n',hk,rfl,rfl,fa,aY,ae⟩:=hrel;have du:Below w.heap.size w wr:=hb.trans (ae.mono hb.size);have iX:=zmG (t+1) k;rw[fa.out] at iX;by_cases dN:k<n
    ·have wd:(k:Int)<(n:Int):=by omega
     have py:bits BinOp.and IntKind.i64 (((t:Int)+1) / 2 ^ k) 1=(((t+1) / 2 ^ k % 2:Nat):Int):=by
      have h:=zwQ (t+1) k pA;have eM:((t:Int)+1)=((t+1:Nat):Int):=by omega
      rw[eM];exact h
     by_cases jl:(t+1) / 2 ^ k % 2=1
     ·rw[jl] at py;have hS:=zrA jl;have HS:=qd hS;clear hS jl;go_wp2_with (at_builtin;refine zay rfl _ _ rfl wo.heap.size gr cr n' (zcI (t+1) k) (k:Int) fa.out aY rfl rfl (by omega) ?_);intro g3 c3 w3 al aK _;go_wp2;go_roundw
      case rel=>
       rw[<-HS.out] at al;exact⟨k+1,g3,c3,n'+1,by omega,by go_num,rfl,by show _=_;rw[HS.out,qA,fa.out];rfl,al,ae.grown aK ae.size (by intro j hj;cases hj;exact aY.base)⟩
      case measure=>simp[intOf];omega
     ·have aN:(t+1) / 2 ^ k % 2=0:=by omega
      rw[aN] at py;have hS:=zlf jl;have HS:=qd hS;clear hS jl aN;go_wp2;go_roundw
      case rel=>exact⟨k+1,gr,cr,n',by omega,by go_num,rfl,by show _=_;rw[HS.out];exact fa.out,by rw[HS.out];exact aY,ae⟩
      case measure=>simp[intOf];omega
    ·obtain rfl:n=k:=by omega
     have ar:=ho.below ae;have ao:∀r∈rs,r.1≠gr:=fun r hr=>by have h1:=(ho.2.1 r hr).lt;have h2:=aY.base;omega
     have dJ:=aY.mono hb.size;have aC:zah (gr,cr,zcI (t+1) n)=(qS (some ⟨gr,0,none⟩) n' cr):=by unfold zah;rw[fa.out]
     go_wp2_with (at_builtin;refine zao rfl _ _ rfl w.heap.size g' c' t wr.heap.size rs (gr,cr,zcI (t+1) n) _ cK.out (by rw[aC]) rfl ar dJ ao rfl rfl (by omega) ?_);intro g4 c4 w4 aw aT _;go_wp2;go_roundw
     case rel=>
      refine⟨t+1,g4,c4,rs++[(gr,cr,zcI (t+1) n)],by omega,by go_num,rfl,by show _=_;rw[qA,cK.out];rfl,?_,aw,du.grown aT du.size (by intro j hj;cases hj;exact ho.base)⟩;show _=_;rw[zcA,ak.out,zvN]
     case measure=>simp[intOf];omega
  ·have nT:¬(t:Int)+1<Q:=by omega
   obtain rfl:t=Q-1:=by omega
   have jh:=zio n (Q-1);have qM:=qd jh;clear jh;go_wp2;go_ret;exact⟨g',c',rs,by rw[qM.out];rfl,ak.out,ho,hb⟩
theorem zsE(gc oc n cc g o m cs:Nat)(c:LL)(s:LI)(w:World)(hn:c.length=n)(hm:s.length=m)(hx:c.length<=1048576)(cC:s.length<=1048576)(an:∀j,j<c.length->(c.getD j []).length<=1048576)
 (hs:∀t,t<s.length->0<=s.getD t 0/\s.getD t 0<c.length) (mj:∀t,t+1<s.length->s.getD t 0<s.getD (t+1) 0) (hr:zal w gc oc c) (hc:zag w g o s):
 Calls Tryz.prog 196 #[(qS (some ⟨gc,oc,none⟩) n cc),(qS (some ⟨g,o,none⟩) m cs)] w (zap w (.bool (decide (IsC c)))):=by
 subst hn;subst hm;have ew:IntKind.i64.wrap ((c.length:Int)-1)=(c.length:Int)-1:=IntWalk.i64_in _ (by omega)
 have fo:Hid (∀m,Calls Tryz.prog 96 #[(qS (some ⟨gc,oc,none⟩) c.length cc)] (w.drewN m) (zap (w.drewN m) (.bool (decide (IsC c))))):=fun m=>
  zbD gc oc _ cc c (w.drewN m) rfl (by omega) (fun j hj=>by have:=an j hj;omega) hr
 clear an hr
 go_enter Tryz.func196,Tryz.ntmps196
 go_wp2;go_loopw [5] (fun i wr=>∃k:Nat,k<=s.length/\i= .int .i64 k/\∃m,wr=w.drewN m) (fun i _=>s.length-(intOf i).toNat)
 case atStart=>exact⟨0,qz _,rfl,(by first|exact⟨_,rfl⟩|exact⟨0,rfl⟩|exact zam _ _ _|exact zan _ _ _ _)⟩
 case round=>
  obtain⟨k,hk,rfl,m,rfl⟩:=hrel;by_cases ac:k<s.length
  ·have q1:=hc k ac;have fD:=hs k ac;by_cases h0:k=0
   ·have Pk:decide ((0:Int)<(k:Int))=false:=by simp only[decide_eq_false_iff_not];omega
    have BU:decide (0<k)=false:=by simp only[decide_eq_false_iff_not];omega
    have Pl:(k:Int)<=0:=by omega
    clear mj hs h0;generalize s.getD k 0=z at*;have oW:=zjE z 0 ((c.length:Int)-1) true (by rw[Bool.and_eq_true,decide_eq_true_eq,decide_eq_true_eq];omega) w m;go_wp2;go_quiet ((go_at_call 65;exact zap.quiet4 (oW.out _)))
    go_wp2;go_roundw
    case rel=>exact⟨k+1,by omega,by go_num,(by first|exact⟨_,rfl⟩|exact⟨0,rfl⟩|exact zam _ _ _|exact zan _ _ _ _)⟩
    case measure=>simp[intOf];omega
   ·obtain⟨j,rfl⟩:∃j,k=j+1:=⟨k-1,by omega⟩;have q0:=hc j (by omega);have hj:=mj j (by omega);have bV:(0:Int)<(j:Int)+1:=by omega
    have cJ:decide (s.getD (j+1) 0<=s.getD j 0)=false:=by simp only[decide_eq_false_iff_not];omega
    have SQ:IntKind.i64.wrap ((j:Int)+1-1)=(j:Int):=by rw[show(j:Int)+1-1=j by omega];exact IntWalk.i64_in _ (by omega)
    have FW:j<s.length:=by omega
    clear mj hs;generalize s.getD (j+1) 0=z at*;generalize s.getD j 0=y at*;have oW:=zjE z 0 ((c.length:Int)-1) true (by rw[Bool.and_eq_true,decide_eq_true_eq,decide_eq_true_eq];omega) w m;go_wp2;go_quiet ((go_at_call 65;exact zap.quiet4 (oW.out _)))
    go_wp2;go_roundw
    case rel=>exact⟨j+1+1,by omega,by go_num,(by first|exact⟨_,rfl⟩|exact⟨0,rfl⟩|exact zam _ _ _|exact zan _ _ _ _)⟩
    case measure=>simp[intOf];omega
  ·obtain rfl:k=s.length:=by omega
   go_wp2_with fail;refine(fo.out m).mono ?_;rintro e w1 ⟨rfl,m1,rfl⟩;go_wp2_with fail;go_ret;exact⟨rfl,(by first|exact⟨_,rfl⟩|exact⟨0,rfl⟩|exact zam _ _ _|exact zan _ _ _ _)⟩
end
end Go.Proofs.YtlgcmaoimpgedaaGreatDoor

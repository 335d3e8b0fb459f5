/- Size Cut SizS SzO Levs SzE BallP Els Gmx -/
import Derived.Test.YtlgcmaoimpgedaaGreatDoorT19
set_option maxHeartbeats 2000000
set_option maxRecDepth 100000
set_option linter.unusedSimpArgs false
namespace Go.Proofs.YtlgcmaoimpgedaaGreatDoor
open Go.Value renaming slice->qS
section
open Go.RowKit
open Go.Lib (join)
theorem zur(w:World):Calls Tryz.prog 212 #[.string ⟨#[65,49]⟩] w (zap w (.int .i64 (zaT (zaA.getD 0 [])))):=by
 have e:zaT (zaA.getD 0 [])=2:=by decide
 rw[e];clear e
 go_enter Tryz.func212,Tryz.ntmps212
 go_wp2_with fail;go_ret;exact⟨rfl,0,rfl⟩
theorem zus(w:World):Calls Tryz.prog 212 #[.string ⟨#[65,50]⟩] w (zap w (.int .i64 (zaT (zaA.getD 1 [])))):=by
 have e:zaT (zaA.getD 1 [])=6:=by decide
 rw[e];clear e
 go_enter Tryz.func212,Tryz.ntmps212
 go_wp2_with fail;go_ret;exact⟨rfl,0,rfl⟩
theorem zut(w:World):Calls Tryz.prog 212 #[.string ⟨#[65,51]⟩] w (zap w (.int .i64 (zaT (zaA.getD 2 [])))):=by
 have e:zaT (zaA.getD 2 [])=24:=by decide
 rw[e];clear e
 go_enter Tryz.func212,Tryz.ntmps212
 go_wp2_with fail;go_ret;exact⟨rfl,0,rfl⟩
theorem zuu(w:World):Calls Tryz.prog 212 #[.string ⟨#[65,52]⟩] w (zap w (.int .i64 (zaT (zaA.getD 3 [])))):=by
 have e:zaT (zaA.getD 3 [])=120:=by decide
 rw[e];clear e
 go_enter Tryz.func212,Tryz.ntmps212
 go_wp2_with fail;go_ret;exact⟨rfl,0,rfl⟩
theorem zuv(w:World):Calls Tryz.prog 212 #[.string ⟨#[66,50]⟩] w (zap w (.int .i64 (zaT (zaA.getD 4 [])))):=by
 have e:zaT (zaA.getD 4 [])=8:=by decide
 rw[e];clear e
 go_enter Tryz.func212,Tryz.ntmps212
 go_wp2_with fail;go_ret;exact⟨rfl,0,rfl⟩
theorem zuw(w:World):Calls Tryz.prog 212 #[.string ⟨#[66,51]⟩] w (zap w (.int .i64 (zaT (zaA.getD 5 [])))):=by
 have e:zaT (zaA.getD 5 [])=48:=by decide
 rw[e];clear e
 go_enter Tryz.func212,Tryz.ntmps212
 go_wp2_with fail;go_ret;exact⟨rfl,0,rfl⟩
theorem zux(w:World):Calls Tryz.prog 212 #[.string ⟨#[66,52]⟩] w (zap w (.int .i64 (zaT (zaA.getD 6 [])))):=by
 have e:zaT (zaA.getD 6 [])=384:=by decide
 rw[e];clear e
 go_enter Tryz.func212,Tryz.ntmps212
 go_wp2_with fail;go_ret;exact⟨rfl,0,rfl⟩
theorem zuy(w:World):Calls Tryz.prog 212 #[.string ⟨#[67,51]⟩] w (zap w (.int .i64 (zaT (zaA.getD 7 [])))):=by
 have e:zaT (zaA.getD 7 [])=48:=by decide
 rw[e];clear e
 go_enter Tryz.func212,Tryz.ntmps212
 go_wp2_with fail;go_ret;exact⟨rfl,0,rfl⟩
theorem zuz(w:World):Calls Tryz.prog 212 #[.string ⟨#[67,52]⟩] w (zap w (.int .i64 (zaT (zaA.getD 8 [])))):=by
 have e:zaT (zaA.getD 8 [])=384:=by decide
 rw[e];clear e
 go_enter Tryz.func212,Tryz.ntmps212
 go_wp2_with fail;go_ret;exact⟨rfl,0,rfl⟩
theorem zuA(w:World):Calls Tryz.prog 212 #[.string ⟨#[68,52]⟩] w (zap w (.int .i64 (zaT (zaA.getD 9 [])))):=by
 have e:zaT (zaA.getD 9 [])=192:=by decide
 rw[e];clear e
 go_enter Tryz.func212,Tryz.ntmps212
 go_wp2_with fail;go_ret;exact⟨rfl,0,rfl⟩
theorem zsK(w:World):Calls Tryz.prog 212 #[.string ⟨#[70,52]⟩] w (zap w (.int .i64 (zaT (zaA.getD 10 [])))):=by
 have e:zaT (zaA.getD 10 [])=1152:=by decide
 rw[e];clear e
 go_enter Tryz.func212,Tryz.ntmps212
 go_wp2_with fail;go_ret;exact⟨rfl,0,rfl⟩
theorem zsL(w:World):Calls Tryz.prog 212 #[.string ⟨#[71,50]⟩] w (zap w (.int .i64 (zaT (zaA.getD 11 [])))):=by
 have e:zaT (zaA.getD 11 [])=12:=by decide
 rw[e];clear e
 go_enter Tryz.func212,Tryz.ntmps212
 go_wp2_with fail;go_ret;exact⟨rfl,0,rfl⟩
theorem zsM(w:World):Calls Tryz.prog 212 #[.string ⟨#[65,49,126]⟩] w (zap w (.int .i64 (zaT (zaA.getD 12 [])))):=by
 have e:zaT (zaA.getD 12 [])=0:=by decide
 rw[e];clear e
 go_enter Tryz.func212,Tryz.ntmps212
 go_wp2_with fail;go_ret;exact⟨rfl,0,rfl⟩
theorem zsN(w:World):Calls Tryz.prog 212 #[.string ⟨#[65,50,126]⟩] w (zap w (.int .i64 (zaT (zaA.getD 13 [])))):=by
 have e:zaT (zaA.getD 13 [])=0:=by decide
 rw[e];clear e
 go_enter Tryz.func212,Tryz.ntmps212
 go_wp2_with fail;go_ret;exact⟨rfl,0,rfl⟩
theorem zsO(w:World):Calls Tryz.prog 212 #[.string ⟨#[65,51,126]⟩] w (zap w (.int .i64 (zaT (zaA.getD 14 [])))):=by
 have e:zaT (zaA.getD 14 [])=0:=by decide
 rw[e];clear e
 go_enter Tryz.func212,Tryz.ntmps212
 go_wp2_with fail;go_ret;exact⟨rfl,0,rfl⟩
theorem zsP(w:World):Calls Tryz.prog 212 #[.string ⟨#[67,50,126]⟩] w (zap w (.int .i64 (zaT (zaA.getD 15 [])))):=by
 have e:zaT (zaA.getD 15 [])=0:=by decide
 rw[e];clear e
 go_enter Tryz.func212,Tryz.ntmps212
 go_wp2_with fail;go_ret;exact⟨rfl,0,rfl⟩
theorem zsQ(w:World):Calls Tryz.prog 212 #[.string ⟨#[71,50,126]⟩] w (zap w (.int .i64 (zaT (zaA.getD 16 [])))):=by
 have e:zaT (zaA.getD 16 [])=0:=by decide
 rw[e];clear e
 go_enter Tryz.func212,Tryz.ntmps212
 go_wp2_with fail;go_ret;exact⟨rfl,0,rfl⟩
theorem zsR(w:World):Calls Tryz.prog 212 #[.string ⟨#[63]⟩] w (zap w (.int .i64 (zaT (zaA.getD 17 [])))):=by
 have e:zaT (zaA.getD 17 [])=0:=by decide
 rw[e];clear e
 go_enter Tryz.func212,Tryz.ntmps212
 go_wp2_with fail;go_ret;exact⟨rfl,0,rfl⟩
theorem znh(s:Bs)(hs:s∈zaA)(w:World):Calls Tryz.prog 212 #[.string ⟨s.toArray⟩] w (zap w (.int .i64 (zaT s))):=by
 have hl:zaA.length=18:=rfl;obtain⟨k,hk,e⟩:=List.mem_iff_getElem.1 hs;have e2:zaA.getD k []=s:=by simp[List.getD,hk,e]
 rw[hl] at hk;have:k=0∨k=1∨k=2∨k=3∨k=4∨k=5∨k=6∨k=7∨k=8∨k=9∨k=10∨k=11∨k=12∨k=13∨k=14∨k=15∨k=16∨k=17:=by omega
 rw[<-e2];clear e e2 hs hl
 rcases this with rfl|rfl|rfl|rfl|rfl|rfl|rfl|rfl|rfl|rfl|rfl|rfl|rfl|rfl|rfl|rfl|rfl|rfl
 ·exact zur w
 ·exact zus w
 ·exact zut w
 ·exact zuu w
 ·exact zuv w
 ·exact zuw w
 ·exact zux w
 ·exact zuy w
 ·exact zuz w
 ·exact zuA w
 ·exact zsK w
 ·exact zsL w
 ·exact zsM w
 ·exact zsN w
 ·exact zsO w
 ·exact zsP w
 ·exact zsQ w
 ·exact zsR w
def zcd(L:List Bs):Int:=L.foldl (fun a s=>a*zaT s) 1
theorem zly(L:List Bs)(k:Nat)(hk:k<L.length):zcd (L.take (k+1))=zcd (L.take k)*zaT (L.getD k []):=by
 have e:L.take (k+1)=L.take k++[L[k]]:=qT hk;have e2:L.getD k []=L[k]:=by simp[List.getD,hk]
 rw[e,e2];unfold zcd;rw[List.foldl_append];rfl
def pw:Nat->Int
 |0=>1
 |k+1=>pw k*1152
theorem zGG{k:Nat}(h:k<=4):pw k<=1761205026816/\1<=pw k:=by
 have:k=0∨k=1∨k=2∨k=3∨k=4:=by omega
 rcases this with rfl|rfl|rfl|rfl|rfl <;> decide
theorem zLf{x y p:Int}(hx:0<=x/\x<=p)(hy:0<=y/\y<=1152):0<=x*y/\x*y<=p*1152:=by
 refine⟨Int.mul_nonneg hx.1 hy.1,?_⟩;have h1:x*y<=x*1152:=Int.mul_le_mul_of_nonneg_left hy.2 hx.1;have h2:x*1152<=p*1152:=Int.mul_le_mul_of_nonneg_right hx.2 (by omega);omega
theorem zkt{L:List Bs}(h:∀s∈L,s∈zaA):∀k,k<=L.length->0<=zcd (L.take k)/\zcd (L.take k)<=pw k
 |0,_=>by simp[zcd,pw]
 |k+1,hk=>by
  have ih:=zkt h k (by omega);rw[zly L k (by omega)];have hm:L.getD k []∈zaA:=h _ (by simp[List.getD,show k<L.length by omega]);have h2:=zgE _ hm;exact zLf ih ⟨h2.2.2.2.1,h2.2.2.2.2⟩
theorem zni(L:List Bs)(w:World)(hL:L≠[])(dV:L.length<=4)(h:∀s∈L,s∈zaA)(hm:zeR w):
 Calls Tryz.prog 162 #[.string ⟨(join L [120]).toArray⟩] w (zbb w (.int .i64 (zcd L))):=by
 have hs:=zuh 120 L w hL (by omega) (fun x hx=>(zgE _ (h x hx)).1) (by have:=zjp 120 L (fun x hx=>(zgE _ (h x hx)).2.1);omega) hm;have HS:=qd hs;have HZ:=qd (fun k (hk:k<L.length) W=>znh (L.getD k []) (h _ (by simp[List.getD,hk])) W);have HB:=qd (fun k (hk:k<=L.length)=>zkt h k hk);have HP:=qd (fun k (hk:k<L.length)=>zly L k hk);have HA:Hid (zcd (L.take L.length)=zcd L):=qd (by rw[List.take_length]);have Tg:¬(4:Int)<(L.length:Int):=by omega
 clear hs hm h;generalize zcd L=R at*;generalize (⟨(join L [120]).toArray⟩:ByteArray)=nm at*
 go_enter Tryz.func162,Tryz.ntmps162
 go_wp2_with fail;refine HS.out.mono ?_;rintro e w1 ⟨g1,rfl,au,ad⟩;clear HS;go_wp2_with fail;go_loopw [4,6,14] (fun zv _ kv wr=>∃k:Nat,k<=L.length/\kv= .int .i64 k/\zv= .int .i64 (zcd (L.take k))/\Below w1.heap.size w1 wr) (fun _ _ kv _=>L.length-(intOf kv).toNat)
 case atStart=>exact⟨0,qz _,rfl,rfl,Below.refl _ _⟩
 case round=>
  obtain⟨k,hk,rfl,rfl,hb⟩:=hrel;by_cases ac:k<L.length
  ·have aA:=au.cell k ⟨(L.getD k []).toArray⟩ (by simp[zbs,List.getD,ac]);rw[Nat.zero_add] at aA;have oh:=(hb.cell (p:=⟨g1,k,none⟩) (zaE.lt au)).trans aA;have ML:=qd (HZ.out k ac);have rQ:=HP.out k ac;have jx:=HB.out (k+1) ac;have uY:=zGG (k:=k+1) (by omega);rw[rQ] at jx;have dU:=qd rQ;clear rQ aA;generalize L.getD k []=s at*;generalize zaT s=z at*;generalize zcd (L.take k)=x at*;generalize pw (k+1)=P at*;have hw:IntKind.i64.wrap (x*z)=x*z:=IntWalk.i64_in _ ⟨by omega,by omega⟩;go_wp2_with fail;refine(ML.out _).mono ?_;rintro e w2 ⟨rfl,aB⟩;have ae:=zaf hb aB;clear hb aB ML oh;go_wp2_with fail;go_roundw
   case rel=>exact⟨k+1,by omega,by go_num,by rw[dU.out],ae⟩
   case measure=>simp[intOf];omega
  ·obtain rfl:k=L.length:=by omega
   rw[HA.out];have dt:=ad.trans (hb.mono ad.size);go_wp2_with fail;go_ret;exact⟨rfl,dt⟩
end
section
open Go.RowKit
open Go.Lib (join)
def zjr(c:UInt8)(st:List Bs × Bs)(b:UInt8):List Bs × Bs:=if b=c then(st.1++[st.2],[]) else(st.1,st.2++[b])
def zbZ(c:UInt8)(s:Bs)(k:Nat):List Bs × Bs:=(s.take k).foldl (zjr c) ([],[])
theorem zrW(c:UInt8)(s:Bs)(k:Nat)(hk:k<s.length):zbZ c s (k+1)=zjr c (zbZ c s k) s[k]:=by
 unfold zbZ;rw[qT hk,List.foldl_append];rfl
theorem znj(c:UInt8):∀(x:Bs) (st:List Bs × Bs),c ∉ x->x.foldl (zjr c) st=(st.1,st.2++x)
 |[],st,_=>by simp
 |b::x,st,h=>by
  have hb:b≠c:=fun e=>h (by simp[e])
  rw[List.foldl_cons,show zjr c st b=(st.1,st.2++[b]) from if_neg hb,znj c x _ (fun hm=>h (by simp[hm]))];simp
theorem zuB(c:UInt8):∀(L:List Bs) (out:List Bs),L≠[]->(∀x∈L,c ∉ x)->((join L [c]).foldl (zjr c) (out,[])).1++[((join L [c]).foldl (zjr c) (out,[])).2]=out++L
 |[],_,h,_=>absurd rfl h
 |[x],out,_,h=>by
  have e:join [x] [c]=x:=by simp[join,List.intercalate]
  rw[e,znj c x _ (h x (by simp))];simp
 |x::y::L,out,_,h=>by
  have ih:=zuB c (y::L) (out++[x]) (by simp) fun z hz=>h z (by simp[hz])
  have e:join (x::y::L) [c]=x++c::join (y::L) [c]:=by simp[join,List.intercalate,List.intersperse]
  rw[e,List.foldl_append,znj c x _ (h x (by simp)),List.foldl_cons,show zjr c (out,[]++x) c=(out++[x],[]) from by simp[zjr]];rw[ih];simp
theorem zuC(c:UInt8)(s:Bs):∀k,k<=s.length->(zbZ c s k).1.length<=k/\(zbZ c s k).2.length<=k
 |0,_=>by simp[zbZ]
 |k+1,hk=>by
  have ih:=zuC c s k (by omega);rw[zrW c s k (by omega)];unfold zjr
  split
  ·simp;omega
  ·simp;omega
theorem zsS(s:Bs)(c:UInt8)(w:World)(hl:s.length<=100000):
 Calls Tryz.prog 218 #[.string ⟨s.toArray⟩,.int .u8 (c.toNat:Int)] w fun e w'=>∃g cap,e= .returned (qS (some ⟨g,0,none⟩) ((zbZ c s s.length).1.length+1) cap)/\zbp w' w.heap.size g cap (zbs ((zbZ c s s.length).1++[(zbZ c s s.length).2]))/\Below w.heap.size w w':=by
 go_enter Tryz.func218,Tryz.ntmps218
 go_wp2_with fail;go_loopw [5,6,7] (fun ov pv iv wr=>∃(k gO cO p:Nat),k<=s.length/\p<=k/\iv= .int .i64 k/\pv= .string ⟨(zbZ c s k).2.toArray⟩/\ov=(qS (some ⟨gO,0,none⟩) p cO)/\Hid ((zbZ c s k).1.length=p)/\zbp wr w.heap.size gO cO (zbs (zbZ c s k).1)/\Below w.heap.size w wr) (fun _ _ iv _=>s.length-(intOf iv).toNat)
 case atStart=>exact⟨0,w.heap.size,0,0,qz _,qr _,rfl,rfl,rfl,rfl,zbp.empty (qr _),(Below.refl _ _).alloc (qr _) _⟩
 case round=>
  obtain⟨k,gO,cO,p,hk,rQ,rfl,rfl,rfl,hp,ho,hb⟩:=hrel;by_cases ac:k<s.length
  ·have bw:=zrW c s k ac
   have hx:(⟨s.toArray⟩:ByteArray)[k]'(by simpa [ByteArray.size] using ac)=s[k]:=by
    show s.toArray[k]=s[k];simp
   by_cases hc:s[k]=c
   ·have fc:Hid ((zbs (zbZ c s k).1).length=p):=qd (by unfold zbs;rw[List.length_map];exact hp.out)
    have hB:((s[k].toNat:Int)==(c.toNat:Int))=true:=by
     rw[beq_iff_eq,hc]
    go_wp2_with (at_builtin;refine zgg rfl _ _ rfl w.heap.size gO cO p wr.heap.size (zbs (zbZ c s k).1) ⟨(zbZ c s k).2.toArray⟩ wr _ fc.out rfl rfl ho rfl rfl (by omega) ?_);intro g9 c9 w9 gX js kw;have dt:=hb.grown js hb.size (by intro t ht;cases ht;exact zaE.base ho);have hn:zbZ c s (k+1)=((zbZ c s k).1++[(zbZ c s k).2],[]):=by rw[bw];unfold zjr;rw[if_pos hc]
    have fZ:zbp w9 w.heap.size g9 c9 (zbs (zbZ c s (k+1)).1):=by
     have e:zbs (zbZ c s (k+1)).1=zbs (zbZ c s k).1++[⟨(zbZ c s k).2.toArray⟩]:=by rw[hn];simp[zbs]
     rw[e];exact gX
    clear gX js kw hb ho;go_wp2_with fail;refine⟨⟨k+1,g9,c9,p+1,by omega,by omega,rfl,by rw[hn],rfl,qd (by rw[hn,qA,hp.out,List.length_singleton]),fZ,dt⟩,?_⟩;simp only[intOf];omega
   ·have hn:zbZ c s (k+1)=((zbZ c s k).1,(zbZ c s k).2++[s[k]]):=by rw[bw];unfold zjr;rw[if_neg hc]
    have hB:((s[k].toNat:Int)==(c.toNat:Int))=false:=by
     rw[beq_eq_false_iff_ne];intro h;exact hc (UInt8.toNat_inj.mp (by omega))
    have e1:=zyc wr (zbZ c s k).2 [s[k]] _ rfl (by have:=(zuC c s k hk).2;simp only[qA,List.length_cons,List.length_nil];omega)
    have e2:(⟨s.toArray⟩:ByteArray).extract k (k+1)=⟨([s[k]]:Bs).toArray⟩:=by
     apply ByteArray.ext;simp[ByteArray.data_extract];rw[List.drop_eq_getElem_cons ac];rfl
    go_wp2_with fail;refine⟨⟨k+1,gO,cO,p,by omega,by omega,rfl,by rw[hn],rfl,qd (by rw[hn];exact hp.out),by rw[hn];exact ho,hb⟩,?_⟩;simp only[intOf];omega
  ·obtain rfl:k=s.length:=by omega
   have fc:Hid ((zbs (zbZ c s s.length).1).length=p):=qd (by unfold zbs;rw[List.length_map];exact hp.out);go_wp2_with (at_builtin;refine zgg rfl _ _ rfl w.heap.size gO cO p wr.heap.size (zbs (zbZ c s s.length).1) ⟨(zbZ c s s.length).2.toArray⟩ wr _ fc.out rfl rfl ho rfl rfl (by omega) ?_);intro g9 c9 w9 gX js kw;have dt:=hb.grown js hb.size (by intro t ht;cases ht;exact zaE.base ho)
   have fZ:zbp w9 w.heap.size g9 c9 (zbs ((zbZ c s s.length).1++[(zbZ c s s.length).2])):=by
    have e:zbs ((zbZ c s s.length).1++[(zbZ c s s.length).2])=zbs (zbZ c s s.length).1++[⟨(zbZ c s s.length).2.toArray⟩]:=by simp[zbs]
    rw[e];exact gX
   clear gX js kw hb ho;go_wp2_with fail;go_ret;exact⟨g9,c9,by rw[hp.out];rfl,fZ,dt⟩
end
section
open Go.RowKit
open Go.Lib (join)
theorem zzP{c:UInt8}{L:List Bs}(hL:L≠[])(h:∀x∈L,c ∉ x):
 (zbZ c (join L [c]) (join L [c]).length).1++[(zbZ c (join L [c]) (join L [c]).length).2]=L:=by
 have e:=zuB c L [] hL h;unfold zbZ;rw[List.take_length];exact e
theorem znk(L:List Bs)(w:World)(hL:L≠[])(dV:L.length<=4)(h:∀s∈L,s∈zaA):
 Calls Tryz.prog 177 #[.string ⟨(join L [120]).toArray⟩] w (zbb w (.int .i64 (zcd L))):=by
 have hj:=zjp 120 L (fun x hx=>(zgE _ (h x hx)).2.1);have hs:=zsS (join L [120]) 120 w (by omega);have hcut:=zzP hL (fun x hx=>(zgE _ (h x hx)).1)
 have am:(zbZ 120 (join L [120]) (join L [120]).length).1.length+1=L.length:=by
  have:=congrArg List.length hcut;rw[qA] at this;exact this
 rw[hcut,am] at hs;have HS:=qd hs;have HM:=qd (fun k (hk:k<L.length)=>h (L.getD k []) (by simp[List.getD,hk]));have HB:=qd (fun k (hk:k<=L.length)=>zkt h k hk);have HP:=qd (fun k (hk:k<L.length)=>zly L k hk);have HA:Hid (zcd (L.take L.length)=zcd L):=qd (by rw[List.take_length]);clear hs h hcut am hj;generalize zcd L=R at*;generalize (⟨(join L [120]).toArray⟩:ByteArray)=nm at*
 go_enter Tryz.func177,Tryz.ntmps177
 go_wp2_with fail;refine HS.out.mono ?_;rintro e w1 ⟨g1,c1,rfl,au,ad⟩;clear HS;go_wp2_with fail;go_loopw [4,5,6] (fun zv kv _ wr=>∃k:Nat,k<=L.length/\kv= .int .i64 k/\zv= .int .i64 (zcd (L.take k))/\Below w1.heap.size w1 wr) (fun _ kv _ _=>L.length-(intOf kv).toNat)
 case atStart=>exact⟨0,qz _,rfl,rfl,Below.refl _ _⟩
 case round=>
  obtain⟨k,hk,rfl,rfl,hb⟩:=hrel;by_cases ac:k<L.length
  ·have aA:=au.cell k ⟨(L.getD k []).toArray⟩ (by simp[zbs,List.getD,ac]);rw[Nat.zero_add] at aA;have oh:=(hb.cell (p:=⟨g1,k,none⟩) (zaE.lt au)).trans aA;have hm:=HM.out k ac;have rQ:=HP.out k ac;have jx:=HB.out (k+1) ac;have uY:=zGG (k:=k+1) (by omega);rw[rQ] at jx;have hw:wrap64 (zcd (L.take k)*zaT (L.getD k []))=zcd (L.take k)*zaT (L.getD k []):=IntWalk.wrap64_in _ ⟨by omega,by omega⟩;have dU:=qd rQ;clear rQ aA;generalize L.getD k []=s at*;generalize zcd (L.take k)=x at*;generalize pw (k+1)=P at*;have hN:zaA.length=18:=rfl;obtain⟨q,hq,e⟩:=List.mem_iff_getElem.1 hm;have e2:zaA.getD q []=s:=by simp[List.getD,hq,e]
   rw[hN] at hq;have Je:q=0∨q=1∨q=2∨q=3∨q=4∨q=5∨q=6∨q=7∨q=8∨q=9∨q=10∨q=11∨q=12∨q=13∨q=14∨q=15∨q=16∨q=17:=by omega
   clear e hm hN hq;subst e2
   rcases Je with rfl|rfl|rfl|rfl|rfl|rfl|rfl|rfl|rfl|rfl|rfl|rfl|rfl|rfl|rfl|rfl|rfl|rfl
   ·have e:zaT (zaA.getD 0 [])=2:=by decide
    rw[e] at hw dU jx;clear e;go_wp2_with fail;exact⟨⟨k+1,by omega,rfl,by rw[dU.out],hb⟩,by simp only[intOf];omega⟩
   ·have e:zaT (zaA.getD 1 [])=6:=by decide
    rw[e] at hw dU jx;clear e;go_wp2_with fail;exact⟨⟨k+1,by omega,rfl,by rw[dU.out],hb⟩,by simp only[intOf];omega⟩
   ·have e:zaT (zaA.getD 2 [])=24:=by decide
    rw[e] at hw dU jx;clear e;go_wp2_with fail;exact⟨⟨k+1,by omega,rfl,by rw[dU.out],hb⟩,by simp only[intOf];omega⟩
   ·have e:zaT (zaA.getD 3 [])=120:=by decide
    rw[e] at hw dU jx;clear e;go_wp2_with fail;exact⟨⟨k+1,by omega,rfl,by rw[dU.out],hb⟩,by simp only[intOf];omega⟩
   ·have e:zaT (zaA.getD 4 [])=8:=by decide
    rw[e] at hw dU jx;clear e;go_wp2_with fail;exact⟨⟨k+1,by omega,rfl,by rw[dU.out],hb⟩,by simp only[intOf];omega⟩
   ·have e:zaT (zaA.getD 5 [])=48:=by decide
    rw[e] at hw dU jx;clear e;go_wp2_with fail;exact⟨⟨k+1,by omega,rfl,by rw[dU.out],hb⟩,by simp only[intOf];omega⟩
   ·have e:zaT (zaA.getD 6 [])=384:=by decide
    rw[e] at hw dU jx;clear e;go_wp2_with fail;exact⟨⟨k+1,by omega,rfl,by rw[dU.out],hb⟩,by simp only[intOf];omega⟩
   ·have e:zaT (zaA.getD 7 [])=48:=by decide
    rw[e] at hw dU jx;clear e;go_wp2_with fail;exact⟨⟨k+1,by omega,rfl,by rw[dU.out],hb⟩,by simp only[intOf];omega⟩
   ·have e:zaT (zaA.getD 8 [])=384:=by decide
    rw[e] at hw dU jx;clear e;go_wp2_with fail;exact⟨⟨k+1,by omega,rfl,by rw[dU.out],hb⟩,by simp only[intOf];omega⟩
   ·have e:zaT (zaA.getD 9 [])=192:=by decide
    rw[e] at hw dU jx;clear e;go_wp2_with fail;exact⟨⟨k+1,by omega,rfl,by rw[dU.out],hb⟩,by simp only[intOf];omega⟩
   ·have e:zaT (zaA.getD 10 [])=1152:=by decide
    rw[e] at hw dU jx;clear e;go_wp2_with fail;exact⟨⟨k+1,by omega,rfl,by rw[dU.out],hb⟩,by simp only[intOf];omega⟩
   ·have e:zaT (zaA.getD 11 [])=12:=by decide
    rw[e] at hw dU jx;clear e;go_wp2_with fail;exact⟨⟨k+1,by omega,rfl,by rw[dU.out],hb⟩,by simp only[intOf];omega⟩
   ·have e:zaT (zaA.getD 12 [])=0:=by decide
    rw[e] at hw dU jx;clear e;go_wp2_with fail;exact⟨⟨k+1,by omega,rfl,by rw[dU.out];simp,hb⟩,by simp only[intOf];omega⟩
   ·have e:zaT (zaA.getD 13 [])=0:=by decide
    rw[e] at hw dU jx;clear e;go_wp2_with fail;exact⟨⟨k+1,by omega,rfl,by rw[dU.out];simp,hb⟩,by simp only[intOf];omega⟩
   ·have e:zaT (zaA.getD 14 [])=0:=by decide
    rw[e] at hw dU jx;clear e;go_wp2_with fail;exact⟨⟨k+1,by omega,rfl,by rw[dU.out];simp,hb⟩,by simp only[intOf];omega⟩
   ·have e:zaT (zaA.getD 15 [])=0:=by decide
    rw[e] at hw dU jx;clear e;go_wp2_with fail;exact⟨⟨k+1,by omega,rfl,by rw[dU.out];simp,hb⟩,by simp only[intOf];omega⟩
   ·have e:zaT (zaA.getD 16 [])=0:=by decide
    rw[e] at hw dU jx;clear e;go_wp2_with fail;exact⟨⟨k+1,by omega,rfl,by rw[dU.out];simp,hb⟩,by simp only[intOf];omega⟩
   ·have e:zaT (zaA.getD 17 [])=0:=by decide
    rw[e] at hw dU jx;clear e;go_wp2_with fail;exact⟨⟨k+1,by omega,rfl,by rw[dU.out];simp,hb⟩,by simp only[intOf];omega⟩
  ·obtain rfl:k=L.length:=by omega
   rw[HA.out];have dt:=ad.trans (hb.mono ad.size);go_wp2_with fail;go_ret;exact⟨rfl,dt⟩
end
section
open Go.RowKit
open Go.Lib (join)
def znW(c:LL):Bool:=decide (1<=(zaL c).length)
theorem zHY:znW [[1]]=true:=by kernel_rfl
theorem zHZ:(Z2.all fun a=>znW (zm2 a))=true:=by kernel_rfl
theorem zIa:(Z2.all fun a=>Z2.all fun b=>Z2.all fun e=>znW (zm3 a b e))=true:=by kernel_rfl
theorem zIb:(Z2.all fun a=>Z2.all fun b=>Z2.all fun d=>Z2.all fun e=>Z2.all fun f=>Z2.all fun g=>znW (zm4 a b d e f g))=true:=by kernel_rfl
theorem zzQ{c:LL}(hC:IsC c):1<=(zaL c).length:=by
 have h:=zzN znW zHY zHZ zIa zIb hC;unfold znW at h;rw[zne] at h;exact of_decide_eq_true h
theorem zrX{c:LL}(hC:IsC c):zdc c≠[]/\(zdc c).length<=4/\∀s∈zdc c,s∈zaA:=by
 obtain⟨seen,hP⟩:=zgF hC;have h1:=zzQ hC;have h2:=hP.len;have e:(zdc c).length=(zaL c).length:=by unfold zdc;rw[List.length_map]
 refine⟨fun h=>?_,by omega,fun s hs=>?_⟩
 ·rw[h,List.length_nil] at e;omega
 ·obtain⟨p,-,rfl⟩:=List.mem_map.1 hs;exact zrP _
def szO(c:LL):Int:=if zaN c=true then zcd (zdc c) else 0
theorem zgG{c:LL}(hf:zaN c=true):IsC c:=by unfold zaN at hf;exact of_decide_eq_true (Bool.and_eq_true_iff.1 hf).1
theorem zqz(gc oc n cc:Nat)(c:LL)(w:World)(hn:c.length=n)(hx:c.length<=1048576)(an:∀j,j<c.length->(c.getD j []).length<=1048576)(ah:gc<w.heap.size)(hr:zal w gc oc c)(hm:zeR w):
 Calls Tryz.prog 120 #[(qS (some ⟨gc,oc,none⟩) n cc)] w (zbb w (.int .i64 (szO c))):=by
 have HF:=zdd gc oc n cc c w hn hx an ah hr;by_cases hf:zaN c=true
 ·have hC:=zgG hf;have hs:szO c=zcd (zdc c):=if_pos hf;obtain⟨h1,h2,h3⟩:=zrX hC;have HN:=qd (fun W (hW:Below w.heap.size w W)=>zre gc oc n cc c W hn hC (qL ah hW.size) (hr.below hW ah) (hm.below hW));have HZ:=qd (fun W (hW:Below w.heap.size w W)=>zni (zdc c) W h1 h2 h3 (hm.below hW));rw[hf] at HF;rw[hs];clear h1 h2 h3 hs hf hx an hn hr;generalize zcd (zdc c)=R at*;generalize (⟨(join (zdc c) [120]).toArray⟩:ByteArray)=nm at*
  go_enter Tryz.func120,Tryz.ntmps120
  go_wp2_with fail;refine HF.mono ?_;rintro e w1 ⟨rfl,ad⟩;go_wp2_with fail;refine(HN.out w1 ad).mono ?_;rintro e w2 ⟨rfl,ae⟩;have ag:=ad.trans (ae.mono ad.size);go_wp2_with fail;refine(HZ.out w2 ag).mono ?_;rintro e w4 ⟨rfl,aM⟩;have aQ:=ag.trans (aM.mono ag.size);go_wp2_with fail;go_ret;exact⟨rfl,aQ⟩
 ·have CL:zaN c=false:=by simpa using hf
  have hs:szO c=0:=if_neg hf;rw[hs];rw[CL] at HF;clear hs hf CL hx an hn hr
  go_enter Tryz.func120,Tryz.ntmps120
  go_wp2_with fail;refine HF.mono ?_;rintro e w1 ⟨rfl,ad⟩;go_wp2_with fail;go_ret;exact⟨rfl,ad⟩
theorem zqA(gc oc n cc:Nat)(c:LL)(w:World)(hn:c.length=n)(hx:c.length<=1048576)(an:∀j,j<c.length->(c.getD j []).length<=1048576)(ah:gc<w.heap.size)(hr:zal w gc oc c):
 Calls Tryz.prog 138 #[(qS (some ⟨gc,oc,none⟩) n cc)] w (zbb w (.int .i64 (szO c))):=by
 have HF:=zcE gc oc n cc c w hn hx an ah hr;by_cases hf:zaN c=true
 ·have hC:=zgG hf;have hs:szO c=zcd (zdc c):=if_pos hf;obtain⟨h1,h2,h3⟩:=zrX hC;have HN:=qd (fun W (hW:Below w.heap.size w W)=>zrf gc oc n cc c W hn hC (qL ah hW.size) (hr.below hW ah));have HZ:=qd (fun W=>znk (zdc c) W h1 h2 h3);rw[hf] at HF;rw[hs];clear h1 h2 h3 hs hf hx an hn hr;generalize zcd (zdc c)=R at*;generalize (⟨(join (zdc c) [120]).toArray⟩:ByteArray)=nm at*
  go_enter Tryz.func138,Tryz.ntmps138
  go_wp2_with fail;refine HF.mono ?_;rintro e w1 ⟨rfl,ad⟩;go_wp2_with fail;refine(HN.out w1 ad).mono ?_;rintro e w2 ⟨rfl,ae⟩;have ag:=ad.trans (ae.mono ad.size);go_wp2_with fail;refine(HZ.out w2).mono ?_;rintro e w4 ⟨rfl,aM⟩;have aQ:=ag.trans (aM.mono ag.size);go_wp2_with fail;go_ret;exact⟨rfl,aQ⟩
 ·have CL:zaN c=false:=by simpa using hf
  have hs:szO c=0:=if_neg hf;rw[hs];rw[CL] at HF;clear hs hf CL hx an hn hr
  go_enter Tryz.func138,Tryz.ntmps138
  go_wp2_with fail;refine HF.mono ?_;rintro e w1 ⟨rfl,ad⟩;go_wp2_with fail;go_ret;exact⟨rfl,ad⟩
end
section
open Go.RowKit Game
abbrev LevRef:=Nat × Nat × List RowRef
section
variable {w w':World} {B g cap:Nat} {Ls:List LevRef}
end
def tot(c:LL):Nat->Nat
 |0=>1
 |n+1=>tot c n+(zcu c (n+1)).length
def zij(c:LL):Nat->Nat->Nat
 |0,n=>n
 |f+1,n=>if zcu c (n+1)=[]∨200<tot c (n+1) then n else zij c f (n+1)
def zeS(c:LL)(m:Nat):List LL:=(List.range (m+1)).map (zcu c)
theorem zwA(c:LL)(m:Nat):zeS c (m+1)=zeS c m++[zcu c (m+1)]:=by unfold zeS;rw[List.range_succ,List.map_append];rfl
end
section
open Go.RowKit Game
def zuD(V:LL):Bool:=V.all fun v=>v.all fun x=>decide (-30<=x)&&decide (x<=30)
def shN(c:LL):Nat->LL->Nat->Nat
 |0,_,_=>0
 |f+1,sh,t=>match sh with
  |[]=>t
  |x::r=>if zuD (x::r)=true then shN c f (zkm c (x::r) (x::r).length) (t+(x::r).length) else 0
def szC(c:LL)(z:Int):Bool:=decide (1<=z)&&(decide (200<z)||decide ((shN c (if z<=48 then 11 else 28) [zax c.length] 0:Int)=z))
def szB(c:LL):Bool:=szC c (zcd (zdc c))
def zcO(c:LL)(j:Nat)(v:LI):LL:=(List.range c.length).map fun k=>(c.getD k []).set j (v.getD k 0)
def dC(c:LL):Int:=det c.length c
def znX(c:LL)(i:Nat):LI:=(List.range c.length).map fun k=>ent c k i
def crB(c:LL):Bool:=decide (0<dC c)&&(List.range c.length).all fun j=>(List.range c.length).all fun i=>decide (i=j)||decide (det c.length (zcO c j (znX c i))=0)
def szK(c:LL):Bool:=crB c&&szB c
def zpg(P:LL->Bool)(a b e d:Int × Int):Bool:=L6.all fun f=>zdV a d f||L6.all fun g=>zdV b d g||(zdV e f g||(decide (det 4 (zeJ a b d e f g)<=0)||P (zeJ a b d e f g)))
def znl(P:LL->Bool)(a b e:Int × Int):Bool:=zdV a b e||L6.all fun d=>zpg P a b e d
theorem zIc(P:LL->Bool)(a b:Int × Int):zad P a b=L6.all fun e=>znl P a b e:=rfl
end
section
open Go.RowKit Game
def zzR(c:LL)(M:Nat):Bool:=decide (zij c M 0=M∨zcu c (zij c M 0+1)=[])
theorem zhF(c:LL)(m:Nat):(zeS c (m+1)).flatten=(zeS c m).flatten++zcu c (m+1):=by rw[zwA];simp
theorem zuE(c:LL):∀m,(zeS c m).flatten.length=tot c m
 |0=>rfl
 |m+1=>by rw[zhF,qA,zuE c m];rfl
end
section
open Go.RowKit Game
theorem zId{V:LL}(h:zuD V=true){v:LI}(hv:v∈V)(i:Nat):-30<=v.getD i 0/\v.getD i 0<=30:=by
 unfold zuD at h;have h1:=List.all_eq_true.1 h v hv;by_cases hi:i<v.length
 ·have h2:=List.all_eq_true.1 h1 v[i] (List.getElem_mem _);rw[Bool.and_eq_true] at h2;have h3:=of_decide_eq_true h2.1;have h4:=of_decide_eq_true h2.2;simp[List.getD,hi];omega
 ·simp[List.getD,Nat.not_lt.1 hi]
theorem zzS{c:LL}(hC:IsC c):∀(f n t r:Nat) (sh:LL),ziF c n sh->n+f<=29->t+(zcu c n).length=tot c n->shN c f sh t=r->r≠0->
 ∃m,n<=m/\m<n+f/\zcu c m=[]/\(∀k,n<=k->k<m->zcu c k≠[])/\tot c m=r/\∀k W,n<=k->k<m->Elt c k W->∀i,-30<=(imgL c W).getD i 0/\(imgL c W).getD i 0<=30
 |0,_,_,_,_,_,_,_,hr,h0=>absurd hr.symm h0
 |f+1,n,t,r,[],hS,hf,ht,hr,h0=>by
  have hl:=hS.len hC (by omega);have hz:zcu c n=[]:=List.length_eq_zero_iff.1 hl.symm;rw[hz] at ht;have df:t=r:=hr;exact⟨n,qr _,by omega,hz,fun k h1 h2=>by omega,by rw[<-ht,<-df];rfl,fun k W h1 h2=>by omega⟩
 |f+1,n,t,r,x::s,hS,hf,ht,hr,h0=>by
  have hl:=hS.len hC (by omega);have df:(if zuD (x::s)=true then shN c f (zkm c (x::s) (x::s).length) (t+(x::s).length) else 0)=r:=hr;by_cases BX:zuD (x::s)=true
  ·rw[if_pos BX] at df;have fk:=hS.next hC (by omega);obtain⟨m,h1,h2,h3,h4,h5,h6⟩:=zzS hC f (n+1) (t+(x::s).length) r _ fk (by omega) (by rw[hl,ht];rfl) df h0;refine⟨m,by omega,by omega,h3,fun k k1 k2=>?_,h5,fun k W k1 k2 hW=>?_⟩
   ·by_cases e:k=n
    ·subst e;intro e2;rw[e2] at hl;simp at hl
    ·exact h4 k (by omega) k2
   ·by_cases e:k=n
    ·subst e;exact zId BX ((hS.2 _).2 ⟨W,hW,rfl⟩)
    ·exact h6 k W (by omega) k2 hW
  ·rw[if_neg BX] at df;exact absurd df.symm h0
def zlz(c:LL):LL:=(zeS c (zij c 60 0)).flatten
theorem zuF{c:LL}{m:Nat}(h:zcu c m=[]):∀k,zcu c (m+k)=[]
 |0=>h
 |k+1=>by
  have ih:=zuF h k;show zgl c (m+k+1) (zcu c (m+k)) (zcu c (m+k)).length=[];rw[ih];rfl
theorem zuG(c:LL)(n:Nat):∀k,tot c n<=tot c (n+k)
 |0=>qr _
 |k+1=>by have:=zuG c n k;show _<=tot c (n+k)+_;omega
theorem zuH{c:LL}{m:Nat}(hz:zcu c m=[])(ao:∀k,k<m->zcu c k≠[])(ht:tot c m<=200):∀f n,n<m->m-1-n<=f->zij c f n+1=m
 |0,n,h1,h2=>by show n+1=m;omega
 |f+1,n,h1,h2=>by
  simp only[zij];by_cases e:n+1=m
  ·rw[if_pos (.inl (by rw[e];exact hz))];exact e
  ·have hm:=zuG c (n+1) (m-(n+1));rw[show n+1+(m-(n+1))=m by omega] at hm
   rw[if_neg (by intro h;rcases h with h|h;·exact ao (n+1) (by omega) h
                 omega)]
   exact zuH hz ao ht f (n+1) (by omega) (by omega)
theorem zuI{c:LL}(hC:IsC c):∀m,m<=29->Asc (zeS c m).flatten/\∀x∈(zeS c m).flatten,x.length<=m
 |0,_=>by
  have e:(zeS c 0).flatten=[[]]:=rfl;rw[e];exact⟨by simp[Asc],by simp⟩
 |m+1,hm=>by
  obtain⟨h1,h2⟩:=zuI hC m (by omega);have h3:=ziO hC (m+1) hm
  have hl:∀x∈zcu c (m+1),x.length=m+1:=fun x hx=>by
   obtain⟨W,hW,rfl⟩:=(h3.2 x).1 hx;rw[zai];exact hW.len
  rw[zhF];refine⟨List.pairwise_append.2 ⟨h1,h3.1,fun a ha b hb=>?_⟩,fun x hx=>?_⟩
  ·have e1:=h2 a ha;have e2:=hl b hb;unfold zaU;rw[if_pos (by omega)];omega
  ·rcases List.mem_append.1 hx with h|h
   ·have:=h2 x h;omega
   ·have:=hl x h;omega
theorem zuJ{c:LL}{x:LI}:∀m,x∈(zeS c m).flatten↔∃k,k<=m/\x∈zcu c k
 |0=>by
  have e:(zeS c 0).flatten=zcu c 0:=by simp[zeS]
  rw[e];refine⟨fun h=>⟨0,qr _,h⟩,?_⟩;rintro ⟨k,h1,h2⟩;obtain rfl:k=0:=by omega
  exact h2
 |m+1=>by
  rw[zhF,List.mem_append,zuJ m];constructor
  ·rintro (⟨k,h1,h2⟩|h)
   ·exact⟨k,by omega,h2⟩
   ·exact⟨m+1,qr _,h⟩
  ·rintro ⟨k,h1,h2⟩;by_cases e:k=m+1
   ·subst e;exact .inr h2
   ·exact .inl ⟨k,by omega,h2⟩
structure Grp(c:LL):Prop where
 hC:IsC c
 fin:zaN c=true
 mem:∀x,x∈zlz c↔∃n W,Elt c n W/\x=zae W
 asc:Asc (zlz c)
 len:((zlz c).length:Int)=szO c
 few:(zlz c).length<=200
 whole:zzR c 60=true
 short:szO c<=48->∀n W,Elt c n W->n<=9
 bd:∀n W,Elt c n W->∀i,-30<=(imgL c W).getD i 0/\(imgL c W).getD i 0<=30
theorem zzT{c:LL}(hf:zaN c=true)(hz:szB c=true)(uZ:szO c<=200):Grp c:=by
 have hC:=zgG hf;have hs:szO c=zcd (zdc c):=if_pos hf;unfold szB szC at hz;rw[<-hs,Bool.and_eq_true,Bool.or_eq_true] at hz;obtain⟨eJ,gK⟩:=hz;have eJ:=of_decide_eq_true eJ
 have gK:(shN c (if szO c<=48 then 11 else 28) [zax c.length] 0:Int)=szO c:=by
  rcases gK with h|h
  ·have:=of_decide_eq_true h;omega
  ·exact of_decide_eq_true h
 have hF:(if szO c<=48 then 11 else 28)<=28/\(szO c<=48->(if szO c<=48 then 11 else 28)=11):=by
  refine⟨by split <;> omega,fun h=>by rw[if_pos h]⟩
 generalize (if szO c<=48 then 11 else 28)=F at*;obtain⟨m,-,hm,pb,ao,Jf,AS⟩:=zzS hC F 0 0 (shN c F [zax c.length] 0) _ (ziF.zero hC) (by omega) (by simp[zcu,tot]) rfl (by omega)
 have yE:0<m:=by
  rcases Nat.eq_zero_or_pos m with h|h
  ·rw[h] at pb;simp[zcu] at pb
  ·exact h
 have bU:(tot c m:Int)=szO c:=by rw[Jf];exact gK
 have hd:=zuH pb (fun k hk=>ao k (qz _) hk) (by omega) 60 0 yE (by omega)
 have hE:∀n W,Elt c n W->n<m:=fun n W hW=>by
  have FY:=zGE hC hf hW;have bR:=((ziO hC n (by omega)).2 (zae W)).2 ⟨W,hW,rfl⟩
  rcases Nat.lt_or_ge n m with h|h
  ·exact h
  ·have:=zuF pb (n-m);rw[show m+(n-m)=n by omega] at this;rw[this] at bR;simp at bR
 have am:(zlz c).length=tot c m:=by
  unfold zlz;rw[zuE];have e:tot c m=tot c (zij c 60 0)+(zcu c (zij c 60 0+1)).length:=by rw[<-hd];rfl
  rw[e,hd,pb];rfl
 refine⟨hC,hf,fun x=>?_,(zuI hC _ (by omega)).1,by rw[am];exact bU,by omega,?_,fun Qn n W hW=>by have:=hE n W hW;have:=hF.2 Qn;omega,fun n W hW=>AS n W (qz _) (hE n W hW) hW⟩
 ·unfold zlz;rw[zuJ];constructor
  ·rintro ⟨k,hk,hx⟩;obtain⟨W,hW,rfl⟩:=((ziO hC k (by omega)).2 x).1 hx;exact⟨k,W,hW,rfl⟩
  ·rintro ⟨n,W,hW,rfl⟩;have:=hE n W hW;exact⟨n,by omega,((ziO hC n (by omega)).2 _).2 ⟨W,hW,rfl⟩⟩
 ·unfold zzR;exact decide_eq_true (.inr (by rw[hd];exact pb))
end
section
open Go.RowKit Game
theorem zxf{A:Mat}{n:Nat}(hA:Car A n){d1 d2:Vec}(h1:∀i,i<n->0<d1 i)(h2:∀i,i<n->0<d2 i){w l1 l2:List Nat}(hw:∀i∈w,i<n)(p1:zaF A n l1 (act A w d1) d1)(p2:zaF A n l2 (act A w d2) d2):l2.length<=l1.length:=by
 have ha:=ztB hA h1 w hw l1 p1;have bV:Dom n d2:=fun i hi=>Int.le_of_lt (h2 i hi)
 obtain⟨l,hl,iX⟩:=zdg hA bV l1 p1.1.lt;rw[<-ha] at hl;have:=(zaF.unique hA bV p2 hl).1;omega
theorem zjU{A:Mat}{n:Nat}(hA:Car A n){d1 d2:Vec}(h1:∀i,i<n->0<d1 i)(h2:∀i,i<n->0<d2 i){w:List Nat}(hw:∀i∈w,i<n){i:Nat}(hi:i<n)(aW:0<act A w d1 i):0<act A w d2 i:=by
 have dZ:Dom n d1:=fun i hi=>Int.le_of_lt (h1 i hi)
 have bV:Dom n d2:=fun i hi=>Int.le_of_lt (h2 i hi)
 obtain⟨l1,p1,-⟩:=zdg hA dZ w hw;obtain⟨l2,p2,-⟩:=zdg hA bV w hw;have ao:=zaF.ne hA h2 p2 hi;by_cases h:act A w d2 i<0
 ·obtain⟨l',q,am,-⟩:=zaF.first hA bV p2 hi h;have q':=(zaF.cons.1 q).2.2
  have r1:zaF A n (i::l1) (act A (i::w) d1) d1:=by
   refine zaF.cons.2 ⟨hi,?_,?_⟩
   ·simp only[Game.act,Game.s,hA.two i hi];omega
   ·simp only[Game.act];rw[s_s hA hi];exact p1
  have ic:∀k∈i::w,k<n:=fun k hk=>by
   rcases List.mem_cons.1 hk with e|e
   ·rw[e];exact hi
   ·exact hw k e
  have e1:=zxf hA h2 h1 ic (l1:=l') q' r1;have e2:=zxf hA h1 h2 hw p1 p2;simp only[List.length_cons] at e1;omega
 ·omega
theorem zrg(A:Mat)(x y:Int)(a b:Vec):∀w:List Nat,act A w (fun k=>x*a k+y*b k)=fun k=>x*act A w a k+y*act A w b k
 |[]=>rfl
 |i::w=>by
  simp only[Game.act];rw[zrg A x y a b w];funext k;unfold Game.s;simp only[Int.mul_add,Int.add_mul,Int.mul_sub,Int.mul_assoc];omega
theorem zuK{A:Mat}{n:Nat}(hA:Car A n){r d:Vec}{K:Int}(hK:0<=K)(hr:∀i,i<n->0<r i)(hd:∀i,i<n->0<d i/\d i<K*r i){w:List Nat}(hw:∀i∈w,i<n){i:Nat}(hi:i<n){M:Int}(hM:-M<=act A w r i/\act A w r i<=M):
 -(K*M)<=act A w d i/\act A w d i<=K*M:=by
 have h1:∀i,i<n->0<d i:=fun i hi=>(hd i hi).1
 have h2:∀i,i<n->0<(fun k=>K*r k+(-1)*d k) i:=fun i hi=>by have:=hd i hi;show 0<K*r i+(-1)*d i;omega
 have e:act A w (fun k=>K*r k+(-1)*d k) i=K*act A w r i+(-1)*act A w d i:=congrFun (zrg A K (-1) r d w) i;have s1:=zjU hA hr h1 hw hi;have s2:=zjU hA hr h2 hw hi;have s3:=zjU hA h1 hr hw hi;have s4:=zjU hA h2 hr hw hi;rw[e] at s2 s4;obtain⟨l1,p1,-⟩:=zdg hA (fun i hi=>Int.le_of_lt (h1 i hi)) w hw;obtain⟨l2,p2,-⟩:=zdg hA (fun i hi=>Int.le_of_lt (hr i hi)) w hw;have n1:=zaF.ne hA h1 p1 hi;have n2:=zaF.ne hA hr p2 hi;have m1:=Int.mul_le_mul_of_nonneg_left hM.2 hK;have m2:=Int.mul_le_mul_of_nonneg_left hM.1 hK;rw[Int.mul_neg] at m2;generalize act A w r i=p at*;generalize act A w d i=q at*;generalize K*p=kp at*;generalize K*M=km at*;omega
end
end Go.Proofs.YtlgcmaoimpgedaaGreatDoor

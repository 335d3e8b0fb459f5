/- Join Spl Nb Bfs Part Srt PartI -/
import Derived.Test.YtlgcmaoimpgedaaGreatDoorT16
import Derived.Test.YtlgcmaoimpgedaaGreatDoorSlat
import Derived.Lib.AppendIntMem
import Derived.Lib.SplitLaws
import Derived.WalkLawsBesides
import Derived.BigRegion
set_option maxHeartbeats 8000000
set_option maxRecDepth 100000
set_option linter.unusedSimpArgs false
namespace Go.Proofs.YtlgcmaoimpgedaaGreatDoor
open Go.Value renaming slice->qS
section
open Go.RowKit
open Go.Lib (join decDigits itoa)
def zbs(L:List (List UInt8)):List ByteArray:=L.map fun l=>⟨l.toArray⟩
theorem zrR(L:List (List UInt8)):(zbs L).map (·.data.toList)=L:=by
 unfold zbs;rw[List.map_map];have:((fun x:ByteArray=>x.data.toList) ∘ fun l:List UInt8=>⟨l.toArray⟩)=id:=by funext l;simp
 rw[this,List.map_id]
end
section
open Go.RowKit
open Go.Lib (join)
theorem zrS(c:UInt8)(r:List UInt8):∀x:List UInt8,c ∉ x->Lib.index (x++c::r) [c]=(x.length:Int)
 |[],_=>by
  show Lib.index (c::r) [c]=0;unfold Lib.index;rw[if_pos (by simp[List.isPrefixOf])]
 |b::x,h=>by
  have hb:c≠b:=fun e=>h (by simp[e])
  have ih:=zrS c r x fun hm=>h (by simp[hm])
  show Lib.index (b::(x++c::r)) [c]=_;unfold Lib.index;rw[if_neg (by simp[List.isPrefixOf,hb]),ih];rw[if_neg (by rw[beq_iff_eq];omega)];simp
theorem zoP(c:UInt8):∀(L:List (List UInt8)),L≠[]->(∀x∈L,c ∉ x)->Lib.splitK [c] 0 (Lib.count (join L [c]) [c]) (join L [c])=L/\Lib.count (join L [c]) [c]+1=L.length
 |[],h,_=>absurd rfl h
 |[x],_,h=>by
  have e:join [x] [c]=x:=by simp[join,List.intercalate]
  rw[e];have e0:Lib.count x [c]=0:=by rw[Lib.count_one];exact List.count_eq_zero.2 (h x (by simp))
  rw[e0];exact⟨rfl,rfl⟩
 |x::y::L,_,h=>by
  have ih:=zoP c (y::L) (by simp) fun z hz=>h z (by simp[hz])
  have e:join (x::y::L) [c]=x++c::join (y::L) [c]:=by simp[join,List.intercalate,List.intersperse]
  have hx:=h x (by simp)
  have e0:Lib.count (join (x::y::L) [c]) [c]=Lib.count (join (y::L) [c]) [c]+1:=by
   rw[Lib.count_one,Lib.count_one,e,List.count_append,List.count_cons,List.count_eq_zero.2 hx];simp
  rw[e0,e];have hi:=zrS c (join (y::L) [c]) x hx;refine⟨?_,by rw[ih.2];rfl⟩;unfold Lib.splitK;rw[hi,if_neg (by rw[beq_iff_eq];omega)];have ht:((x.length:Int)).toNat=x.length:=by omega
  rw[ht,Nat.add_zero,List.take_left']
  ·congr 1;rw[show x++c::join (y::L) [c]=(x++[c])++join (y::L) [c] by simp,List.drop_left' (by simp)];exact ih.1
  ·rfl
theorem zHS{l:List ByteArray}{L:List (List UInt8)}(h:l.map (·.data.toList)=L):l=zbs L:=by
 subst h;unfold zbs;rw[List.map_map];have:((fun l:List UInt8=>(⟨l.toArray⟩:ByteArray)) ∘ fun x:ByteArray=>x.data.toList)=id:=by funext x;rfl
 rw[this,List.map_id]
def zeR(w:World):Prop:=∃m:Int,w.cell? ⟨0,0,none⟩=some (.int .i64 m)
theorem zeR.below{w w':World}(h:zeR w)(hb:Below w.heap.size w w'):zeR w':=by
 obtain⟨m,hm⟩:=h;exact⟨m,(hb.cell (p:=⟨0,0,none⟩) (World.block_lt_of_cell? w _ hm)).trans hm⟩
theorem zuh(c:UInt8)(L:List (List UInt8))(w:World)(hL:L≠[])(Tb:L.length<=1048576)(hc:∀x∈L,c ∉ x)(hl:(join L [c]).length<4294967281)(hm:zeR w):
 Calls Tryz.prog 211 #[.string ⟨(join L [c]).toArray⟩,.string ⟨#[c]⟩] w fun e w'=>∃g,e= .returned (qS (some ⟨g,0,none⟩) L.length L.length)/\zbp w' w.heap.size g L.length (zbs L)/\Below w.heap.size w w':=by
 obtain⟨m,hm⟩:=hm;have h:=Any.strings_Split Tryz.lays146 (by kernel_rfl) ⟨(join L [c]).toArray⟩ ⟨#[c]⟩ m w (by simpa [ByteArray.size] using hl) hm (by simp[ByteArray.size])
 change Calls Tryz.prog 211 _ _ _ at h
 have e1:Lib.countB ⟨(join L [c]).toArray⟩ ⟨#[c]⟩=Lib.count (join L [c]) [c]:=rfl;obtain⟨s1,s2⟩:=zoP c L hL hc
 have e2:Lib.splitB ⟨#[c]⟩ 0 (Lib.count (join L [c]) [c]) ⟨(join L [c]).toArray⟩=zbs L:=by
  apply zHS;rw[Lib.splitB_data];exact s1
 rw[e1,s2,e2] at h;refine h.mono ?_;rintro e w' ⟨rfl,rfl⟩;refine⟨w.heap.size,rfl,?_,(Below.refl _ _).alloc (qr _) _⟩;have hn:(zbs L).length=L.length:=by simp[zbs]
 have h2:(w.alloc (.cells ((zbs L).map Value.string).toArray 9)).ownsRow w.heap.size 9 1 (qS (some ⟨w.heap.size,0,none⟩) L.length L.length) L.length ((zbs L).map Value.string).toArray.toList:=
  World.ownsRow_lit w ((zbs L).map Value.string).toArray L.length (qr _) (by unfold maxLen;omega) (by simp[hn])
 unfold zbp zaE;rw[hn];exact h2
end
section
open Go.RowKit
theorem zqt(gc oc n cc:Nat)(i:Int)(w:World):Calls Tryz.prog 103 #[(qS (some ⟨gc,oc,none⟩) n cc),.int .i64 i] w (zap w (.bool (decide (0<=i)&&decide (i<n)))):=by
 by_cases h:0<=i
 ·have h':decide (0<=i)=true:=decide_eq_true h;rw[h']
  go_enter Tryz.func103,Tryz.ntmps103
  go_wp2;go_ret;exact⟨rfl,0,rfl⟩
 ·have h':decide (0<=i)=false:=decide_eq_false h;rw[h']
  go_enter Tryz.func103,Tryz.ntmps103
  go_wp2;go_ret;exact⟨rfl,0,rfl⟩
def zfI(c:LL)(i k:Nat):List Nat:=(List.range k).filter fun j=>j != i&&(ent c i j != 0)
theorem zui{c:LL}{i k:Nat}(h:k≠i)(h2:ent c i k≠0):zfI c i (k+1)=zfI c i k++[k]:=by
 unfold zfI;rw[List.range_succ,List.filter_append];simp[h,h2]
theorem znU{c:LL}{i k:Nat}(h:k=i∨ent c i k=0):zfI c i (k+1)=zfI c i k:=by
 unfold zfI;rw[List.range_succ,List.filter_append]
 rcases h with h|h <;> simp[h]
theorem zrc(c:LL)(i k:Nat):(zfI c i k).length<=k:=by
 unfold zfI;exact qt (List.length_filter_le _ _) (by simp)
theorem zgW(gc oc n cc i:Nat)(c:LL)(w:World)(hn:c.length=n)(hC:IsC c)(hi:i<c.length)(ah:gc<w.heap.size)(hr:zal w gc oc c):
 Calls Tryz.prog 165 #[(qS (some ⟨gc,oc,none⟩) n cc),.int .i64 i] w (zav w (zae (nbL c i))):=by
 subst hn;have aR:=hC.2.1;have aN:Below w.heap.size w (w.alloc (.cells #[] 3)):=zgu;have BV:(decide ((0:Int)<=(i:Int))&&decide ((i:Int)<(c.length:Int)))=true:=by simp;omega
 go_enter Tryz.func165,Tryz.ntmps165
 go_wp2_with fail;refine(zcz gc oc _ cc c _ rfl (by omega) (fun j hj=>by have:=hC.2.2.1 j hj;omega) (hr.below aN ah)).mono ?_;rintro e w1 ⟨rfl,m1,rfl⟩;rw[decide_eq_true hC];go_wp2_with fail;refine(zqt gc oc _ cc i _).mono ?_;rintro e w2 ⟨rfl,m2,rfl⟩;rw[BV];clear BV;obtain⟨ga,oa,ca,q1,q2,q3,q4⟩:=hr i hi;have mf:=hC.2.2.1 i hi;rw[mf] at q1;have IJ:(i:Int)<(c.length:Int):=by omega
 go_wp2_with fail;go_loopw [5,6,20] (fun s _ k wr=>∃t g' c' n':Nat,t<=c.length/\k= .int .i64 t/\s=(qS (some ⟨g',0,none⟩) n' c')/\Hid ((zfI c i t).length=n')/\Own wr w.heap.size g' c' (zae (zfI c i t))/\Below w.heap.size w wr) (fun _ _ k _=>c.length-(intOf k).toNat)
 case atStart=>exact⟨0,w.heap.size,0,0,qz _,rfl,rfl,rfl,Own.drewN (Own.empty (w:=w) (qr _)) _,below_drewN aN _⟩
 case round=>
  obtain⟨t,g',c',n',ht,rfl,rfl,fa,ho,hb⟩:=hrel;have iX:=zrc c i t;rw[fa.out] at iX;by_cases ac:t<c.length
  ·have ff:(t:Int)<(c.length:Int):=by omega
   have r1:=(hb.cell (p:=⟨gc,oc+i,none⟩) ah).trans q1;have r2:=q4.below hb q3 t (by rw[mf];exact ac);have dI:(c.getD i []).getD t 0=ent c i t:=rfl;rw[dI] at r2;by_cases rL:t=i
   ·have hS:=znU (c:=c) (i:=i) (k:=t) (.inl rL);have HS:=qd hS;have hd:((t:Int) != (i:Int))=false:=by simp;omega
    clear hS rL dI r1 r2;go_wp2;go_roundw
    case rel=>exact⟨t+1,g',c',n',by omega,by go_num,rfl,by show _=_;rw[HS.out];exact fa.out,by rw[HS.out];exact ho,hb⟩
    case measure=>simp[intOf];omega
   ·have hd:((t:Int) != (i:Int))=true:=by simp;omega
    by_cases hz:ent c i t=0
    ·have hS:=znU (c:=c) (i:=i) (k:=t) (.inr hz);have HS:=qd hS;rw[hz] at r2;clear hS rL dI hz;go_wp2;go_roundw
     case rel=>exact⟨t+1,g',c',n',by omega,by go_num,rfl,by show _=_;rw[HS.out];exact fa.out,by rw[HS.out];exact ho,hb⟩
     case measure=>simp[intOf];omega
    ·have hS:=zui (c:=c) rL hz;have HS:=qd hS;have Cq:(ent c i t != 0)=true:=by simpa using hz
     clear hS rL dI hz;generalize ent c i t=x at*;go_wp2_with (at_builtin;refine zay rfl _ _ rfl w.heap.size g' c' n' (zae (zfI c i t)) (t:Int) (by rw[zai];exact fa.out) ho rfl rfl (by omega) ?_);intro g3 c3 w3 al aK _;go_wp2;go_roundw
     case rel=>
      rw[<-zdN,<-HS.out] at al;exact⟨t+1,g3,c3,n'+1,by omega,by go_num,rfl,by show _=_;rw[HS.out,qA,fa.out];rfl,al,hb.grown aK hb.size (by intro j hj;cases hj;exact ho.base)⟩
     case measure=>simp[intOf];omega
  ·obtain rfl:t=c.length:=by omega
   have hN:zfI c i c.length=nbL c i:=rfl;rw[hN] at ho fa;go_wp2;go_ret;exact zav.mk' g' c' (by rw[zai];exact fa.out) ho hb
theorem zlw(gc oc n cc i:Nat)(c:LL)(w:World)(hn:c.length=n)(hC:IsC c)(hi:i<c.length)(ah:gc<w.heap.size)(hr:zal w gc oc c):
 Calls Tryz.prog 242 #[(qS (some ⟨gc,oc,none⟩) n cc),.int .i64 i] w (zav w (zae (nbL c i))):=by
 subst hn;have aR:=hC.2.1
 have fo:Hid (∀W,Below w.heap.size w W->Calls Tryz.prog 96 #[(qS (some ⟨gc,oc,none⟩) c.length cc)] W (zap W (.bool true))):=fun W hW=>by
  have:=zbD gc oc _ cc c W rfl (by omega) (fun j hj=>by have:=hC.2.2.1 j hj;omega) (hr.below hW ah)
  rwa [decide_eq_true hC] at this
 have bR:Hid (∀W,Calls Tryz.prog 65 #[.int .i64 i,.int .i64 0,.int .i64 ((c.length:Int)-1)] W (zap W (.bool true))):=fun W=>by
  have:=zdJ i 0 ((c.length:Int)-1) W
  rwa [show(decide ((0:Int)<=(i:Int))&&decide ((i:Int)<=(c.length:Int)-1))=true by rw[Bool.and_eq_true,decide_eq_true_eq,decide_eq_true_eq];omega] at this
 have ew:IntKind.i64.wrap ((c.length:Int)-1)=(c.length:Int)-1:=IntWalk.i64_in _ (by omega);obtain⟨ga,oa,ca,q1,q2,q3,q4⟩:=hr i hi;have mf:=hC.2.2.1 i hi;rw[mf] at q1;have IJ:(i:Int)<(c.length:Int):=by omega
 go_enter Tryz.func242,Tryz.ntmps242
 go_wp2_with fail;go_loopw [5,6] (fun s k wr=>∃t g' c' n':Nat,t<=c.length/\k= .int .i64 t/\s=(qS (some ⟨g',0,none⟩) n' c')/\Hid ((zfI c i t).length=n')/\Own wr w.heap.size g' c' (zae (zfI c i t))/\Below w.heap.size w wr) (fun _ k _=>c.length-(intOf k).toNat)
 case atStart=>exact⟨0,w.heap.size,0,0,qz _,rfl,rfl,rfl,Own.empty (w:=w) (qr _),(Below.refl _ _).alloc (qr _) _⟩
 case round=>
  obtain⟨t,g',c',n',ht,rfl,rfl,fa,ho,hb⟩:=hrel;have iX:=zrc c i t;rw[fa.out] at iX;by_cases ac:t<c.length
  ·have ff:(t:Int)<(c.length:Int):=by omega
   go_wp2_with fail;refine(fo.out _ hb).mono ?_;rintro e w2 ⟨rfl,m2,rfl⟩;go_wp2_with fail;refine(bR.out _).mono ?_;rintro e w3 ⟨rfl,m3,rfl⟩;have ag:Below w.heap.size w (wr.drewN (m2+m3)):=below_drewN hb (m2+m3);have al:Own (wr.drewN (m2+m3)) w.heap.size g' c' (zae (zfI c i t)):=ho.drewN (m2+m3);have r1:=(hb.cell (p:=⟨gc,oc+i,none⟩) ah).trans q1;have r2:=q4.below hb q3 t (by rw[mf];exact ac);have dI:(c.getD i []).getD t 0=ent c i t:=rfl;rw[dI] at r2;by_cases rL:t=i
   ·have hS:=znU (c:=c) (i:=i) (k:=t) (.inl rL);have HS:=qd hS;have hd:((t:Int) != (i:Int))=false:=by simp;omega
    clear hS rL dI r1 r2;go_wp2_with fail;go_roundw
    case rel=>exact⟨t+1,g',c',n',by omega,by go_num,rfl,by show _=_;rw[HS.out];exact fa.out,by rw[HS.out];exact al,ag⟩
    case measure=>simp[intOf];omega
   ·have hd:((t:Int) != (i:Int))=true:=by simp;omega
    by_cases hz:ent c i t=0
    ·have hS:=znU (c:=c) (i:=i) (k:=t) (.inr hz);have HS:=qd hS;rw[hz] at r2;clear hS rL dI hz;go_wp2_with fail;go_roundw
     case rel=>exact⟨t+1,g',c',n',by omega,by go_num,rfl,by show _=_;rw[HS.out];exact fa.out,by rw[HS.out];exact al,ag⟩
     case measure=>simp[intOf];omega
    ·have hS:=zui (c:=c) rL hz;have HS:=qd hS;have Cq:(ent c i t != 0)=true:=by simpa using hz
     clear hS rL dI hz;generalize ent c i t=x at*;go_wp2_with (at_builtin;refine zay (w:=wr.drewN (m2+m3)) rfl _ _ rfl w.heap.size g' c' n' (zae (zfI c i t)) (t:Int) (by rw[zai];exact fa.out) al rfl rfl (by omega) ?_);intro g4 c4 w4 aw aT _;go_wp2;go_roundw
     case rel=>
      rw[<-zdN,<-HS.out] at aw;exact⟨t+1,g4,c4,n'+1,by omega,by go_num,rfl,by show _=_;rw[HS.out,qA,fa.out];rfl,aw,ag.grown aT ag.size (by intro j hj;cases hj;exact ho.base)⟩
     case measure=>simp[intOf];omega
  ·obtain rfl:t=c.length:=by omega
   have hN:zfI c i c.length=nbL c i:=rfl;rw[hN] at ho fa;go_wp2_with fail;go_ret;exact zav.mk' g' c' (by rw[zai];exact fa.out) ho hb
end
section
open Go.RowKit
theorem zDt:(Tryz.prog.info? 4).map (fun i=>(i.zero,i.size,i.bytes))=some (some (.bool false),1,1):=by kernel_rfl
def zcc(w:World)(B g cap:Nat)(bs:List Bool):Prop:=zaI w B 4 g cap (bs.map Value.bool)
section
variable {w w':World} {B g cap:Nat} {bs:List Bool}
theorem zcc.lt(h:zcc w B g cap bs):g<w.heap.size:=zaI.lt h
theorem zcc.base(h:zcc w B g cap bs):B<=g:=zaI.base h
theorem zcc.cell(h:zcc w B g cap bs)(j:Nat)(hj:j<bs.length):w.cell? ⟨g,j,none⟩=some (.bool (bs.getD j false)):=by
 have:=zaI.cell h j (by simpa using hj);rw[this];simp[List.getD,hj]
theorem zcc.frozen(h:zcc w B g cap bs)(j:Nat):w.frozen? ⟨g,j,none⟩=false:=zaI.frozen h j
theorem zcc.below{B':Nat}(h:zcc w B g cap bs)(hb:Below B' w w')(hg:g<B'):zcc w' B g cap bs:=zaI.below h hb hg
theorem zcc.grown{row:Option Nat}(h:zcc w B g cap bs)(hg:w.grownBy w' row)(ao:some g≠row):zcc w' B g cap bs:=zaI.grown h hg ao
theorem zcc.alloc(h:zcc w B g cap bs)(o:Obj):zcc (w.alloc o) B g cap bs:=zaI.alloc h o
theorem zcc.set(h:zcc w B g cap bs)(j:Nat)(b:Bool):zcc (w.setCell ⟨g,j,none⟩ (.bool b)) B g cap (bs.set j b)/\w.grownBy (w.setCell ⟨g,j,none⟩ (.bool b)) (some g):=by
 have:=zaI.set h j (.bool b);refine⟨?_,this.2⟩;unfold zcc;rw[List.map_set];exact this.1
end
theorem zkM{w:World}{ops:Array Oper}{rest:List Oper}{o:Oper}{a:Act}{Q:Exit->Act->World->Prop}(dH:o.guard=none)(l c:Operand)
 (cS:o.op=Op.makeSlice 158 l c) (B n:Nat) (C:Int) (hC:C=(n:Int)) (hl:a.eval l= .int .i64 C) (hc:a.eval c= .int .i64 C) (hn:n<=1048576) (hB:B<=w.heap.size)
 (h:∀w',zcc w' B w.heap.size n (List.replicate n false)->w.grownBy w' none->wpList Tryz.prog ops Q rest (a.put o.dst (qS (some ⟨w.heap.size,0,none⟩) n n)) w'):
 wpList Tryz.prog ops Q (o::rest) a w:=by
 obtain⟨i0,hi,fP,eJ,gK⟩:=info_parts zDt;refine wpList_make_full _ dH l c 158 cS B 4 i0 (.bool false) 1 Tryz.underlying158 hi fP eJ _ _ _ _ n hl hc hC hC (by rw[gK];omega) (by unfold maxLen;omega) hB ?_;intro w' ai bn;refine h w' ?_ bn;unfold zcc zaI;rw[List.length_map,List.length_replicate,List.map_replicate]
 have e:(madeCells (Value.bool false).cells (n*1)).toList=List.replicate n (Value.bool false):=by
  rw[Nat.mul_one];exact toList_madeCells_one _ _
 rw[<-e];exact ai
theorem zqu(s:Bst)(l:List Nat)(u:Nat)(hu:u<l.length):zdB s (l.take (u+1))=zfG (zdB s (l.take u)) (l.getD u 0):=by
 unfold zdB;rw[qT hu,List.foldl_append];simp[List.getD,hu]
theorem zmg{s:Bst}{j:Nat}(h:s.1.getD j false=true):zfG s j=s:=by unfold zfG;rw[if_pos h]
theorem znb{s:Bst}{j:Nat}(h:s.1.getD j false=false):zfG s j=(s.1.set j true,s.2++[j]):=by unfold zfG;rw[if_neg (by rw[h];simp)]
theorem zxd{tab:List (List Nat)}{f k:Nat}{s fin:Bst}(h:zgP tab f k s=some fin)(hk:k<s.2.length):∃f',f=f'+1/\zgP tab f' (k+1) (zdB s (tab.getD (s.2.getD k 0) []))=some fin:=by
 cases f with
 |zero=>unfold zgP at h;rw[if_pos hk] at h;simp at h
 |succ f=>unfold zgP at h;rw[if_pos hk] at h;exact⟨f,rfl,h⟩
theorem zuj{tab:List (List Nat)}{f k:Nat}{s fin:Bst}(h:zgP tab f k s=some fin)(hk:¬k<s.2.length):fin=s:=by
 cases f with
 |zero=>unfold zgP at h;rw[if_neg hk] at h;exact(Option.some.inj h).symm
 |succ f=>unfold zgP at h;rw[if_neg hk] at h;exact(Option.some.inj h).symm
def BOk(n m:Nat)(s:Bst):Prop:=s.1.length=n/\(∀x∈s.2,x<n)/\s.2.length<=m
theorem BOk.visit{n m:Nat}{s:Bst}{j:Nat}(h:BOk n m s)(hj:j<n):BOk n (m+1) (zfG s j):=by
 unfold zfG
 split
 ·exact⟨h.1,h.2.1,by have:=h.2.2;omega⟩
 ·refine⟨by simpa using h.1,fun x hx=>?_,by have:=h.2.2;simp;omega⟩
  rcases List.mem_append.1 hx with e|e
  ·exact h.2.1 x e
  ·simp at e;omega
theorem BOk.weak{n m m':Nat}{s:Bst}(h:BOk n m s)(hm:m<=m'):BOk n m' s:=⟨h.1,h.2.1,qt h.2.2 hm⟩
theorem zzE{c:LL}{i j:Nat}(h:j∈nbL c i):j<c.length:=by
 unfold nbL at h;exact List.mem_range.1 (List.mem_filter.1 h).1
theorem zxe(c:LL)(i:Nat):(nbL c i).length<=c.length:=zrc c i c.length
theorem zzF{c:LL}{i:Nat}(h:i<c.length):(zbx c).getD i []=nbL c i:=by simp[zbx,List.getD,h]
theorem znc(c:LL):(zbx c).length=c.length:=by simp[zbx]
def zfi(seen:List Bool)(k:Nat):List Nat:=(List.range k).filter fun k=>seen.getD k false
theorem zyd{seen:List Bool}{k:Nat}(h:seen.getD k false=true):zfi seen (k+1)=zfi seen k++[k]:=by
 unfold zfi;rw[List.range_succ,List.filter_append,List.filter_cons_of_pos (by simpa using h)];rfl
theorem zzG{seen:List Bool}{k:Nat}(h:seen.getD k false=false):zfi seen (k+1)=zfi seen k:=by
 unfold zfi;rw[List.range_succ,List.filter_append,List.filter_cons_of_neg (by rw[h];simp)];simp
theorem zzH(seen:List Bool)(k:Nat):(zfi seen k).length<=k:=by
 unfold zfi;exact qt (List.length_filter_le _ _) (by simp)
theorem zrd(gc oc n cc i:Nat)(c:LL)(p:List Nat)(w:World)(hn:c.length=n)(hC:IsC c)(hi:i<c.length)(hp:ziD (zbx c) i=some p)(ah:gc<w.heap.size)(hr:zal w gc oc c):
 Calls Tryz.prog 220 #[(qS (some ⟨gc,oc,none⟩) n cc),.int .i64 i] w (zav w (zae p)):=by
 subst hn;have aR:=hC.2.1;have BV:(i:Int)<(c.length:Int):=by omega
 obtain⟨fin,bF,Io⟩:∃fin:Bst,zgP (zbx c) 5 0 ((List.replicate c.length false).set i true,[i])=some fin/\p=zzo fin.1:=by
  unfold ziD ztb at hp;rw[znc] at hp
  cases h:zgP (zbx c) 5 0 ((List.replicate c.length false).set i true,[i]) with
  |none=>rw[h] at hp;simp at hp
  |some fin=>rw[h] at hp;exact⟨fin,rfl,(by simpa using hp.symm)⟩
 have IK:=qd Io;have dW:=qd bF;clear hp Io bF
 go_enter Tryz.func220,Tryz.ntmps220
 go_wp2_with (at_make;refine zkM rfl _ _ rfl w.heap.size c.length _ rfl rfl rfl (by omega) (qr _) ?_);intro w1 pa Cr;have ad:=zeG Cr;have dc:Below w.heap.size w w1:=ad;have q1:=pa.cell i (by simpa using hi);have f1:=pa.frozen i;have bh:=pa.set i true;have Ix:=qd bh;have Be:w.heap.size<w1.heap.size:=pa.lt;generalize Cs:w.heap.size=gs at*;clear bh Cr ad;generalize (List.replicate c.length false).getD i false=b0 at q1;go_wp2;go_loopw [6,7,8,9] (fun qv kv _ _ wr=>∃(f k gq cq m:Nat) (s:Bst),f+k=5/\kv= .int .i64 k/\qv=(qS (some ⟨gq,0,none⟩) m cq)/\Hid (s.2.length=m)/\Hid (zgP (zbx c) f k s=some fin)/\BOk c.length (1+4*k) s/\zcc wr gs gs c.length s.1/\Own wr gs gq cq (zae s.2)/\gs≠gq/\Below gs w wr) (fun _ kv _ _ _=>6-(intOf kv).toNat)
 case atStart=>
  refine⟨5,0,(w1.setCell ⟨gs,i,none⟩ (.bool true)).heap.size,1,1,((List.replicate c.length false).set i true,[i]),rfl,rfl,by simp,rfl,dW.out,⟨by simp,by intro x hx;simp at hx;omega,by simp⟩,Ix.out.1.alloc _,?_,by simp;omega,?_⟩
  ·exact Own.new (w:=w1.setCell ⟨gs,i,none⟩ (.bool true)) (i:Int) (by simp;omega)
  ·exact(dc.grown Ix.out.2 (by omega) (by intro j hj;cases hj;exact qr _)).alloc (by simp;omega) _
 case round=>
  obtain⟨f,k,gq,cq,m,s,FV,rfl,rfl,cC,lS,aV,eG,mD,ao,hB⟩:=hrel;have PX:=eG.base;have IL:gs<=wr.heap.size:=by have:=hB.size;omega
  by_cases ac:k<m
  ·obtain⟨f',rfl,kz⟩:=zxd lS.out (by rw[cC.out];exact ac);have ff:(k:Int)<(m:Int):=by omega
   have hx:s.2.getD k 0<c.length:=aV.2.1 _ (by have:=cC.out;rw[show s.2.getD k 0=s.2[k]'(by omega) by simp[List.getD,show k<s.2.length by omega]];exact List.getElem_mem _);rw[zzF hx] at kz;have qk:=mD.cell k (by rw[zai,cC.out];exact ac);rw[zbB _ _ (by rw[cC.out];exact ac)] at qk;generalize s.2.getD k 0=x at*;have am:=zxe c x;have be:Hid (∀j∈nbL c x,j<c.length):=fun j hj=>zzE hj
   have fI:=zlw gc oc _ cc x c wr rfl hC hx (by omega) (hr.below (by rw[Cs];exact hB) (by omega));have Bf:=qd kz;generalize nbL c x=L at*;generalize Ct:L.length=ll at*;have pI:=qd Ct;clear kz Ct lS hx;go_wp2_with fail;refine fI.mono ?_;rintro e w2 ⟨gl,cl,rfl,mB,ae⟩;have AT:=mB.base;rw[zai,pI.out];have Gj:=mD.lt;have uS:=eG.lt;have rM:=eG.below ae uS;have IM:=mD.below ae Gj;have az:Below gs w w2:=hB.trans (ae.mono IL);have yB:gl≠gs:=by omega
   have yC:gl≠gq:=by omega
   have pJ:=mB.mono (B':=gs) (by omega);clear ae fI mB AT qk eG mD hB Gj uS;clear ac ff;go_wp2;go_loopw [6,9] (fun qv nv wi=>∃(u gq cq m:Nat),u<=ll/\nv= .int .i64 u/\qv=(qS (some ⟨gq,0,none⟩) m cq)/\Hid ((zdB s (L.take u)).2.length=m)/\BOk c.length (1+4*k+u) (zdB s (L.take u))/\zcc wi gs gs c.length (zdB s (L.take u)).1/\Own wi gs gq cq (zae (zdB s (L.take u)).2)/\gs≠gq/\gl≠gq/\gl≠gs/\Own wi gs gl cl (zae L)/\Below gs w wi) (fun _ nv _=>6-(intOf nv).toNat)
   case atStart=>exact⟨0,gq,cq,m,qz _,rfl,rfl,cC,aV,rM,IM,ao,yC,yB,pJ,az⟩
   case round=>
    obtain⟨u,gq,cq,m,hu,rfl,rfl,cC,aV,eG,mD,ao,qW,rN,pJ,hB⟩:=hrel;have PX:=eG.base;have IN:gs<=wr.heap.size:=by have:=hB.size;omega
    have PY:m<=1+4*k+u:=by have:=aV.2.2;have:=cC.out;omega
    by_cases ac:u<ll
    ·have ff:(u:Int)<(ll:Int):=by omega
     have hv:=zqu s L u (by rw[pI.out];exact ac);have hj:L.getD u 0<c.length:=be.out _ (by have:=pI.out;rw[show L.getD u 0=L[u]'(by omega) by simp[List.getD,show u<L.length by omega]];exact List.getElem_mem _);have ql:=pJ.cell u (by rw[zai,pI.out];exact ac);rw[zbB _ _ (by rw[pI.out];exact ac)] at ql;generalize L.getD u 0=j at*;have qs:=eG.cell j (by rw[aV.1];exact hj);have fs:=eG.frozen j;have PZ:(j:Int)<(c.length:Int):=by omega
     have ju:=aV.visit hj;rw[<-hv] at ju;have om:=qd ju;generalize zdB s (L.take u)=s2 at*
     cases hb:s2.1.getD j false with
     |true=>
      rw[zmg hb] at hv;have Hv:=qd hv;rw[hb] at qs;clear hv ju;go_wp2;go_roundw
      case rel=>exact⟨u+1,gq,cq,m,by omega,by go_num,rfl,by show _=_;rw[Hv.out];exact cC.out,om.out,by rw[Hv.out];exact eG,by rw[Hv.out];exact mD,ao,qW,rN,pJ,hB⟩
      case measure=>simp[intOf];omega
     |false=>
      rw[znb hb] at hv;have Hv:=qd hv;rw[hb] at qs;have bK:=qd (eG.set j true);clear hv ju;have fJ:(wr.setCell ⟨gs,j,none⟩ (.bool true)).heap.size=wr.heap.size:=by simp
      have tX:=qd fJ;clear fJ;go_wp2_with (at_builtin;refine zay (w:=wr.setCell ⟨gs,j,none⟩ (.bool true)) rfl _ _ rfl gs gq cq m (zae s2.2) (j:Int) (by rw[zai];exact cC.out) (mD.grown bK.out.2 (by intro e;cases e;exact ao rfl)) rfl (by rw[tX.out];rfl) (by omega) ?_);intro g4 c4 w4 aw aT aY;have Cu:=pJ.lt;have Qa:wr.heap.size<=(wr.setCell ⟨gs,j,none⟩ (.bool true)).heap.size:=bK.out.2.size;go_wp2;go_roundw
      case rel=>
       rw[<-zdN] at aw;refine⟨u+1,g4,c4,m+1,by omega,by go_num,rfl,by show _=_;rw[Hv.out,qA,cC.out];rfl,om.out,?_,?_,?_,?_,?_,?_,?_⟩
       ·rw[Hv.out];exact bK.out.1.grown aT (by intro e;cases e;exact ao rfl)
       ·rw[Hv.out];exact aw
       ·rcases aY with e|e
        ·rw[e];exact ao
        ·have:=eG.lt;omega
       ·rcases aY with e|e
        ·rw[e];exact qW
        ·omega
       ·exact rN
       ·exact(pJ.grown bK.out.2 (by intro e;cases e;exact rN rfl)).grown aT (by intro e;cases e;exact qW rfl)
       ·exact(hB.grown bK.out.2 IN (by intro j hj;cases hj;exact qr _)).grown aT (by omega) (by intro j hj;cases hj;exact mD.base)
      case measure=>simp[intOf];omega
    ·obtain rfl:u=ll:=by omega
     have ht:L.take u=L:=qF (by rw[pI.out];exact qr _);rw[ht] at cC aV eG mD;go_wp2;go_roundw
     case rel=>exact⟨f',k+1,gq,cq,m,zdB s L,by omega,by go_num,rfl,cC,Bf.out,aV.weak (by omega),eG,mD,ao,hB⟩
     case measure=>simp[intOf];omega
  ·have bF:=zuj lS.out (by rw[cC.out];exact ac);rw[bF] at IK;have pK:=aV.1;obtain⟨seen,qs⟩:=s;simp only at IK eG pK;have Cv:(m:Int)<=(k:Int):=by omega
   clear lS bF mD cC aV ao ac dW;have Cw:=qd pK;clear pK;go_wp2;generalize decide (k<m)=bkm;clear Cv;go_loopw [10,11] (fun ov kv wi=>∃(t go co no:Nat),t<=c.length/\kv= .int .i64 t/\ov=(qS (some ⟨go,0,none⟩) no co)/\Hid ((zfi seen t).length=no)/\zcc wi gs gs c.length seen/\Own wi gs go co (zae (zfi seen t))/\gs≠go/\Below gs w wi) (fun _ kv _=>c.length-(intOf kv).toNat)
   case atStart=>exact⟨0,wr.heap.size,0,0,qz _,rfl,rfl,rfl,eG.alloc _,Own.empty (w:=wr) IL,by have:=eG.lt;omega,hB.alloc IL _⟩
   case round=>
    obtain⟨t,go,co,no,ht,rfl,rfl,aJ,eG,Bg,ao,hB⟩:=hrel;have IO:gs<=wr.heap.size:=by have:=hB.size;omega
    have iX:=zzH seen t;rw[aJ.out] at iX;by_cases ac:t<c.length
    ·have ff:(t:Int)<(c.length:Int):=by omega
     have qs:=eG.cell t (by rw[Cw.out];exact ac)
     cases hb:seen.getD t false with
     |true=>
      have hv:=zyd hb;have Hv:=qd hv;rw[hb] at qs;clear hv hb;go_wp2_with (at_builtin;refine zay (w:=wr) rfl _ _ rfl gs go co no (zae (zfi seen t)) (t:Int) (by rw[zai];exact aJ.out) Bg rfl rfl (by omega) ?_);intro g4 c4 w4 aw aT aY;go_wp2;go_roundw
      case rel=>
       rw[<-zdN,<-Hv.out] at aw;refine⟨t+1,g4,c4,no+1,by omega,by go_num,rfl,by show _=_;rw[Hv.out,qA,aJ.out];rfl,eG.grown aT (by intro e;cases e;exact ao rfl),aw,?_,hB.grown aT IO (by intro j hj;cases hj;exact Bg.base)⟩
       rcases aY with e|e
       ·rw[e];exact ao
       ·have:=eG.lt;omega
      case measure=>simp[intOf];omega
     |false=>
      have hv:=zzG hb;have Hv:=qd hv;rw[hb] at qs;clear hv hb;go_wp2;go_roundw
      case rel=>exact⟨t+1,go,co,no,by omega,by go_num,rfl,by show _=_;rw[Hv.out];exact aJ.out,eG,by rw[Hv.out];exact Bg,ao,hB⟩
      case measure=>simp[intOf];omega
    ·obtain rfl:t=c.length:=by omega
     have uT:zfi seen c.length=p:=by rw[IK.out,<-Cw.out];rfl
     rw[uT] at Bg aJ;go_wp2;go_ret;rw[<-Cs] at Bg hB;exact zav.mk' go co (by rw[zai];exact aJ.out) Bg hB
end
section
open Go.RowKit
theorem zuk{tab:List (List Nat)}{t:Nat}{out:List (List Nat)}{p:List Nat}(ho:zcL tab t=some out)(hp:ziD tab t=some p):
 zcL tab (t+1)=some (if p.getD 0 0==t then out++[p] else out):=by
 conv=>lhs;unfold zcL
 rw[ho,hp]
theorem zgX(gc oc n cc:Nat)(c:LL)(P:List (List Nat))(w:World)(hn:c.length=n)(hC:IsC c)(hP:zcL (zbx c) c.length=some P)(uT:∀i,i<c.length->∃p,ziD (zbx c) i=some p/\1<=p.length/\p.length<=4)(ah:gc<w.heap.size)(hr:zal w gc oc c):
 Calls Tryz.prog 179 #[(qS (some ⟨gc,oc,none⟩) n cc)] w (zbC w (P.map zae)):=by
 subst hn;have aR:=hC.2.1;have Qb:=qd uT;have HP:=qd hP;clear uT hP
 have fo:Hid (∀W,Below w.heap.size w W->Calls Tryz.prog 96 #[(qS (some ⟨gc,oc,none⟩) c.length cc)] W (zap W (.bool true))):=fun W hW=>by
  have:=zbD gc oc _ cc c W rfl (by omega) (fun j hj=>by have:=hC.2.2.1 j hj;omega) (hr.below hW ah)
  rwa [decide_eq_true hC] at this
 go_enter Tryz.func179,Tryz.ntmps179
 go_wp2_with fail;go_loopw [3,4,5] (fun ov iv _ wr=>∃(t g' c' n':Nat) (rs:List RowRef) (out:List (List Nat)),t<=c.length/\iv= .int .i64 t/\ov=(qS (some ⟨g',0,none⟩) n' c')/\Hid (rs.length=n')/\n'<=t/\Hid (zcL (zbx c) t=some out)/\Hid (zaa rs=out.map zae)/\zab wr w.heap.size g' c' rs/\Below w.heap.size w wr) (fun _ iv _ _=>c.length-(intOf iv).toNat)
 case atStart=>exact⟨0,w.heap.size,0,0,[],[],qz _,rfl,rfl,rfl,qr _,rfl,rfl,zab.empty (w:=w) (qr _),(Below.refl _ _).alloc (qr _) _⟩
 case round=>
  obtain⟨t,g',c',n',rs,out,ht,rfl,rfl,cK,Qc,lq,ak,ho,hb⟩:=hrel;by_cases ac:t<c.length
  ·have ff:(t:Int)<(c.length:Int):=by omega
   obtain⟨p,hp,ls,tV⟩:=Qb.out t ac;have cG:=qd (zuk lq.out hp);go_wp2_with fail;refine(fo.out _ hb).mono ?_;rintro e w2 ⟨rfl,m2,rfl⟩;have ae:Below w.heap.size w (wr.drewN m2):=below_drewN hb m2;have ar:zab (wr.drewN m2) w.heap.size g' c' rs:=ho.drewN m2;clear hb ho;generalize wr.drewN m2=w2 at*;go_wp2_with fail;refine(zrd gc oc _ cc t c p w2 rfl hC ac hp (by have:=ae.size;omega) (hr.below ae ah)).mono ?_;rintro e w3 ⟨g3,c3,rfl,al,ag⟩;rw[zai];have q0:=al.cell 0 (by rw[zai];omega);rw[zbB _ _ (by omega)] at q0;have ap:Below w.heap.size w w3:=ae.trans (ag.mono ae.size);have bg:=ar.below ag;have aC:zah (g3,c3,zae p)=(qS (some ⟨g3,0,none⟩) p.length c3):=by unfold zah;rw[zai]
   have ao:∀r∈rs,r.1≠g3:=fun r hr=>by have h1:=(ar.2.1 r hr).lt;have h2:=al.base;omega
   have cn:=al.mono ae.size;have ev:=qd aC;have uJ:=qd ao;generalize hx:p.getD 0 0=x at*;have kh:Hid (x=p.getD 0 0):=hx.symm;clear ag aC ao al ar ae hp hx;by_cases Cx:x=t
   ·have hs:=cG.out;rw[Cx,if_pos (by simp)] at hs;have Hs:=qd hs;rw[Cx] at q0;clear hs cG kh Cx;go_wp2_with (at_builtin;refine zao rfl _ _ rfl w.heap.size g' c' n' w3.heap.size rs (g3,c3,zae p) _ cK.out (by rw[ev.out]) rfl bg cn uJ.out rfl rfl (by omega) ?_);intro g4 c4 w4 aw aT _;go_wp2;go_roundw
    case rel=>exact⟨t+1,g4,c4,n'+1,_,_,by omega,by go_num,rfl,by show _=_;rw[qA,cK.out];rfl,by omega,Hs.out,by show _=_;rw[zcA,ak.out,List.map_append];rfl,aw,ap.grown aT ap.size (by intro j hj;cases hj;exact bg.base)⟩
    case measure=>simp[intOf];omega
   ·have hs:=cG.out;rw[if_neg (by simpa using Cx)] at hs;have Hs:=qd hs;have Tc:((x:Int)==(t:Int))=false:=by simp;omega
    clear hs cG kh Cx;go_wp2;go_roundw
    case rel=>exact⟨t+1,g',c',n',rs,out,by omega,by go_num,rfl,cK,by omega,Hs.out,ak,bg,ap⟩
    case measure=>simp[intOf];omega
  ·obtain rfl:t=c.length:=by omega
   have Gk:P=out:=Option.some.inj (HP.out.symm.trans lq.out);go_wp2_with fail;go_ret;rw[Gk];have hl:rs.length=(out.map zae).length:=by rw[<-ak.out];simp[zaa]
   obtain rfl:n'=(out.map zae).length:=by rw[<-hl,cK.out]
   exact⟨g',c',rs,rfl,ak.out,ho,hb⟩
theorem zmq(gc oc n cc:Nat)(c:LL)(P:List (List Nat))(w:World)(hn:c.length=n)(hC:IsC c)(hP:zcL (zbx c) c.length=some P)(uT:∀i,i<c.length->∃p,ziD (zbx c) i=some p/\1<=p.length/\p.length<=4)(ah:gc<w.heap.size)(hr:zal w gc oc c):
 Calls Tryz.prog 241 #[(qS (some ⟨gc,oc,none⟩) n cc)] w (zbb w (.bool (P.length==1))):=by
 go_enter Tryz.func241,Tryz.ntmps241
 go_wp2_with fail;refine(zgX gc oc n cc c P w hn hC hP uT ah hr).mono ?_;rintro e w1 ⟨g1,c1,rs1,rfl,aI,au,ad⟩;go_wp2_with fail;go_ret;refine⟨zaK ?_,ad⟩;by_cases h:P.length=1
 ·rw[h];rfl
 ·have h1:(P.length==1)=false:=by simpa using h
  have h2:((P.length:Int)==1)=false:=by simp;omega
  rw[h1];exact h2
end
section
open Go.RowKit
theorem zzI(x:Int)(w:World):Calls Tryz.prog 169 #[.int .i64 x] w (zap w (.bool false)):=by
 go_enter Tryz.func169,Tryz.ntmps169
 go_wp2;go_ret;exact⟨zaK (by simp),0,rfl⟩
theorem zlx(x y:Int)(w:World):Calls Tryz.prog 266 #[.int .i64 x,.int .i64 y] w (zap w (.bool (decide (x<y)))):=by
 go_enter Tryz.func266,Tryz.ntmps266
 go_wp2_with fail;refine(zzI x _).mono ?_;rintro e w1 ⟨rfl,m1,rfl⟩;go_wp2_with fail;go_ret;exact⟨rfl,m1,rfl⟩
def zez(x:Int):LI->LI
 |[]=>[x]
 |y::l=>if x<y then x::y::l else y::zez x l
def zdZ(l:LI):LI:=l.foldl (fun a x=>zez x a) []
theorem zye{x:Int}:∀{A B:LI},(∀y∈A,¬x<y)->(∀y∈B,x<y)->zez x (A++B)=A++x::B:=by
 intro A
 induction A with
 |nil=>
  intro B _ hB
  cases B with
  |nil=>rfl
  |cons y B=>simp[zez,hB y (by simp)]
 |cons a A ih=>
  intro B hA hB;simp only[List.cons_append,zez];rw[if_neg (hA a (by simp)),ih (fun y hy=>hA y (by simp[hy])) hB]
theorem zDu{x y:Int}:∀{S:LI},y∈zez x S->y=x∨y∈S:=by
 intro S
 induction S with
 |nil=>intro h;simp[zez] at h;exact .inl h
 |cons a S ih=>
  intro h;simp only[zez] at h
  split at h
  ·simp at h;rcases h with h|h|h <;> simp[h]
  ·simp at h
   rcases h with h|h
   ·simp[h]
   ·rcases ih h with h|h <;> simp[h]
theorem zwt{x:Int}:∀{S:LI},S.Pairwise (·<=·)->(zez x S).Pairwise (·<=·):=by
 intro S
 induction S with
 |nil=>intro _;simp[zez]
 |cons a S ih=>
  intro h;simp only[zez]
  split
  ·rename_i hx
   rw[List.pairwise_cons] at h ⊢;refine⟨fun y hy=>?_,List.pairwise_cons.2 h⟩
   rcases List.mem_cons.1 hy with e|e
   ·omega
   ·have:=h.1 y e;omega
  ·rename_i hx
   rw[List.pairwise_cons] at h ⊢;refine⟨fun y hy=>?_,ih h.2⟩
   rcases zDu hy with e|e
   ·omega
   ·exact h.1 y e
theorem zDv(x:Int)(S:LI):(zez x S).length=S.length+1:=by
 induction S with
 |nil=>rfl
 |cons a S ih=>simp only[zez];split <;> simp[ih]
theorem zyf(l:LI)(x:Int):zdZ (l++[x])=zez x (zdZ l):=by simp[zdZ]
theorem zul(l:LI):(zdZ l).Pairwise (·<=·):=by
 have:∀(l S:LI),S.Pairwise (·<=·)->(l.foldl (fun a x=>zez x a) S).Pairwise (·<=·):=by
  intro l
  induction l with
  |nil=>intro S h;exact h
  |cons x l ih=>intro S h;exact ih _ (zwt h)
 exact this l [] (by simp)
theorem zrT(l:LI):(zdZ l).length=l.length:=by
 have:∀(l S:LI),(l.foldl (fun a x=>zez x a) S).length=S.length+l.length:=by
  intro l
  induction l with
  |nil=>intro S;simp
  |cons x l ih=>intro S;simp only[List.foldl_cons,ih,zDv,List.length_cons];omega
 have h:=this l [];simpa [zdZ] using h
def zfJ(S:LI)(x:Int)(R:LI)(j:Nat):LI:=S.take j++x::(S.drop j++R)
theorem zDw(S:LI)(x:Int)(R:LI)(j:Nat)(hj:j<=S.length):(zfJ S x R j).length=S.length+1+R.length:=by simp[zfJ];omega
theorem zHT{S:LI}{x:Int}{R:LI}{j:Nat}(hj:j<=S.length):(zfJ S x R j).getD j 0=x:=by
 simp only[zfJ,List.getD];rw[List.getElem?_append_right (by rw[List.length_take];omega),List.length_take,show j-min j S.length=0 by omega];rfl
theorem zwu{S:LI}{x:Int}{R:LI}{s:Nat}(hs:s<S.length):(zfJ S x R (s+1)).getD s 0=S.getD s 0:=by
 simp only[zfJ,List.getD];rw[List.getElem?_append_left (by rw[List.length_take];omega),List.getElem?_take,if_pos (by omega)]
theorem zzJ{S:LI}{x:Int}{R:LI}{s:Nat}(hs:s<S.length):((zfJ S x R (s+1)).set (s+1) (S.getD s 0)).set s x=zfJ S x R s:=by
 have hl:(S.take (s+1)).length=s+1:=by rw[List.length_take];omega
 have e1:S.take (s+1)=S.take s++[S[s]]:=qT hs;have e2:S.drop s=S[s]::S.drop (s+1):=List.drop_eq_getElem_cons hs;have e3:S.getD s 0=S[s]:=by simp[List.getD,hs]
 unfold zfJ;rw[List.set_append_right _ _ (by omega),hl,Nat.sub_self,List.set_cons_zero,e1,e2,e3,List.append_assoc];rw[List.set_append_right _ _ (by rw[List.length_take];omega),List.length_take,show s-min s S.length=0 by omega];simp only[List.set_cons_zero,List.cons_append,List.nil_append]
theorem zzK{S:LI}{x:Int}{R:LI}{j:Nat}(hA:∀y∈S.take j,¬x<y)(hB:∀y∈S.drop j,x<y):zfJ S x R j=zez x S++R:=by
 have h:=zye hA hB;rw[List.take_append_drop] at h;rw[h,zfJ];simp
theorem zyg(S:LI)(x:Int)(R:LI):zfJ S x R S.length=S++x::R:=by simp[zfJ]
theorem zsJ(B g cap n:Nat)(xs:LI)(w:World)(hn:xs.length=n)(oq:n<=12)(ai:Own w B g cap xs):
 Calls Tryz.prog 260 #[(qS (some ⟨g,0,none⟩) n cap),.int .i64 0,.int .i64 n] w (fun e w'=>e= .returned (.tuple #[])/\Own w' B g cap (zdZ xs)/\w.grownBy w' (some g)):=by
 go_enter Tryz.func260,Tryz.ntmps260
 go_wp2;go_loopw [6,7] (fun i _ wr=>∃t:Nat,1<=t/\t<=n+1/\i= .int .i64 t/\Own wr B g cap (zdZ (xs.take t)++xs.drop t)/\w.grownBy wr (some g)) (fun i _ _=>14-(intOf i).toNat)
 case atStart=>
  refine⟨1,by omega,by omega,rfl,?_,World.grownBy.refl _ _⟩
  match xs,ai with
  |[],h=>exact h
  |x::l,h=>exact h
 case round=>
  obtain⟨t,Td,ht,rfl,ho,hg⟩:=hrel;by_cases ac:t<n
  ·have ff:(t:Int)<(n:Int):=by omega
   have Bh:t<xs.length:=by omega
   have wG:xs.drop t=xs[t]::xs.drop (t+1):=List.drop_eq_getElem_cons Bh;have Cy:(zdZ (xs.take t)).length=t:=by rw[zrT,List.length_take];omega
   have MF:=zul (xs.take t);have MG:zdZ (xs.take (t+1))=zez xs[t] (zdZ (xs.take t)):=by rw[qT Bh,zyf]
   have MH:(xs.drop (t+1)).length+t+1=n:=by simp;omega
   rw[wG,<-zyg,Cy] at ho;generalize hS:zdZ (xs.take t)=S at*;generalize hx:xs[t]=x at*;generalize hR:xs.drop (t+1)=R at*;have Qd:=qd MG;have Qe:=qd MF;have IP:=qd Cy;have Te:=qd MH;have HR:=qd hR;clear MG MF Cy MH hS hx hR wG;go_wp2;go_loopw [7] (fun j wr=>∃k:Nat,k<=t/\j= .int .i64 k/\Own wr B g cap (zfJ S x R k)/\Hid (∀y∈S.drop k,x<y)/\w.grownBy wr (some g)) (fun j _=>(intOf j).toNat)
   case atStart=>exact⟨t,qr _,rfl,ho,by intro y hy;rw[List.drop_of_length_le (by rw[IP.out];omega)] at hy;simp at hy,hg⟩
   case round=>
    obtain⟨k,hk,rfl,ar,aE,aP⟩:=hrel;have jh:=zDw S x R k (by rw[IP.out];exact hk);have iR:Hid ((∀y∈S.take k,¬x<y)->zfJ S x R k=zdZ (xs.take (t+1))++xs.drop (t+1)):=fun h=>by rw[zzK h aE.out,Qd.out,HR.out]
    by_cases nh:k=0
    ·have hM:zfJ S x R k=zdZ (xs.take (t+1))++xs.drop (t+1):=iR.out (by intro y hy;rw[nh] at hy;simp at hy);have Pk:decide ((0:Int)<(k:Int))=false:=by simp only[decide_eq_false_iff_not];omega
     have BU:decide (0<k)=false:=by simp only[decide_eq_false_iff_not];omega
     have Pl:(k:Int)<=0:=by omega
     have HM:=qd hM;clear hM nh jh;go_wp2;go_quiet (fail)
     go_wp2;go_roundw
     case rel=>exact⟨t+1,by omega,by omega,by go_num,by rw[<-HM.out];exact ar.drewN nq,zkg aP nq⟩
     case measure=>simp[intOf];omega
    ·obtain⟨s,rfl⟩:∃s,k=s+1:=⟨k-1,by omega⟩;have Bi:s<S.length:=by rw[IP.out];omega
     have q1:=ar.cell (s+1) (by rw[jh];omega);have q0:=ar.cell s (by rw[jh];omega);rw[zHT (by omega)] at q1;rw[zwu Bi] at q0;have hgt:(0:Int)<(s:Int)+1:=by omega
     have mE:IntKind.i64.wrap ((s:Int)+1-1)=(s:Int):=by rw[show(s:Int)+1-1=s by omega];exact IntWalk.i64_in _ (by omega)
     have Qf:s+1<n:=by omega
     have Qg:s<n:=by omega
     by_cases kP:x<S.getD s 0
     ·have ig:=zzJ (S:=S) (x:=x) (R:=R) Bi
      have wJ:∀y∈S.drop s,x<y:=by
       intro y hy;rw[List.drop_eq_getElem_cons Bi] at hy
       rcases List.mem_cons.1 hy with e|e
       ·rw[e];simpa [List.getD,Bi] using kP
       ·exact aE.out y e
      have f1:=ar.frozen (s+1);have f0:=ar.frozen s;have Qh:=qd ig;have Cz:=qd wJ;clear ig wJ iR jh;generalize hy:S.getD s 0=y at*;have Hy:=qd hy;clear hy;go_wp2;go_quiet ((go_at_call 266;first|exact Calls.quiet_of (zlx _ _ _)|exact zap.quiet4 (zlx _ _ _)))
      go_wp2;have bK:=(ar.drewN (nq+1)).set2 (s+1) s y x;rw[Qh.out] at bK;have kg:=qd bK;clear bK
      go_region
      all_goals
       go_wp2;go_roundw
       case rel=>
        refine⟨s,by omega,by go_num,kg.out.1,Cz.out,?_⟩;exact World.grownBy.trans' (zkg aP (nq+1)) kg.out.2
       case measure=>simp[intOf]
     ·have hM:zfJ S x R (s+1)=zdZ (xs.take (t+1))++xs.drop (t+1):=iR.out (by
       intro y hy;obtain⟨u,hu,rfl⟩:=List.getElem_of_mem hy;rw[List.length_take] at hu;rw[List.getElem_take]
       have h1:S[u]<=S[s]:=by
        by_cases e:u=s
        ·subst e;exact Int.le_refl _
        ·exact List.pairwise_iff_getElem.1 Qe.out u s (by omega) Bi (by omega)
       have h2:S.getD s 0=S[s]:=by simp[List.getD,Bi]
       omega)
      have HM:=qd hM;have Qi:S.getD s 0<=x:=by omega
      clear hM jh iR kP;generalize S.getD s 0=y at*;go_wp2;go_quiet ((go_at_call 266;first|exact Calls.quiet_of (zlx _ _ _)|exact zap.quiet4 (zlx _ _ _)))
      go_wp2;go_roundw
      case rel=>exact⟨t+1,by omega,by omega,by go_num,by rw[<-HM.out];exact ar.drewN nq,zkg aP nq⟩
      case measure=>simp[intOf];omega
  ·have h1:xs.drop t=[]:=List.drop_eq_nil_of_le (by omega);have h2:xs.take t=xs:=qF (by omega);rw[h1,h2,List.append_nil] at ho;clear h1 h2;go_wp2
   go_end0
   exact⟨rfl,ho,hg⟩
theorem zzL(n:Nat)(w:World)(hn:n<=12):Calls Tryz.prog 210 #[.int .u64 n] w (fun e w'=>∃b:Int,e= .returned (.int .i64 b)/\∃m,w'=w.drewN m):=by
 have:n=0∨n=1∨n=2∨n=3∨n=4∨n=5∨n=6∨n=7∨n=8∨n=9∨n=10∨n=11∨n=12:=by omega
 rcases this with rfl|rfl|rfl|rfl|rfl|rfl|rfl|rfl|rfl|rfl|rfl|rfl|rfl
 all_goals
  go_enter Tryz.func210,Tryz.ntmps210
  go_wp2;go_ret;exact⟨_,rfl,(by first|exact⟨_,rfl⟩|exact⟨0,rfl⟩|exact zam _ _ _|exact zan _ _ _ _)⟩
theorem zHU(n:Nat)(w:World)(hn:n<=12):Calls Tryz.prog 161 #[.int .u64 n] w (fun e w'=>∃b:Int,e= .returned (.int .i64 b)/\∃m,w'=w.drewN m):=by
 go_enter Tryz.func161,Tryz.ntmps161
 go_wp2_with fail;refine(zzL n w hn).mono ?_;rintro e w1 ⟨b,rfl,m1,rfl⟩;go_wp2_with fail;go_ret;exact⟨b,rfl,m1,rfl⟩
theorem zHV(B g cap n:Nat)(b:Int)(xs:LI)(w:World)(hn:xs.length=n)(oq:n<=12)(ai:Own w B g cap xs):
 Calls Tryz.prog 236 #[(qS (some ⟨g,0,none⟩) n cap),.int .i64 0,.int .i64 n,.int .i64 b] w (fun e w'=>e= .returned (.tuple #[])/\Own w' B g cap (zdZ xs)/\w.grownBy w' (some g)):=by
 go_enter Tryz.func236,Tryz.ntmps236
 go_wp2_with fail;refine wp_loop_rounds 1 ?_;rw[rounds_succ];go_wp2_with fail;refine(zsJ B g cap n xs w hn oq ai).mono ?_;rintro e w1 ⟨rfl,au,bm⟩;go_wp2_with fail
 first|go_end0|refine bodyPost_ret (results_none rfl _ _ _) rfl ?_
 exact⟨rfl,au,bm⟩
theorem zDx(B g cap n:Nat)(xs:LI)(w:World)(hn:xs.length=n)(oq:n<=12)(ai:Own w B g cap xs):
 Calls Tryz.prog 215 #[(qS (some ⟨g,0,none⟩) n cap)] w (fun e w'=>e= .returned (.tuple #[])/\Own w' B g cap (zdZ xs)/\w.grownBy w' (some g)):=by
 go_enter Tryz.func215,Tryz.ntmps215
 go_wp2_with fail;refine(zHU n w oq).mono ?_;rintro e w1 ⟨b,rfl,m1,rfl⟩;go_wp2_with fail;refine(zHV B g cap n b xs (w.drewN m1) hn oq (ai.drewN m1)).mono ?_;rintro e w2 ⟨rfl,ar,aP⟩;go_wp2_with fail
 go_end0
 exact⟨rfl,ar,⟨aP.os,aP.tape,aP.output,aP.size,aP.block⟩⟩
end
section
open Go.RowKit
theorem zum{tab:List (List Nat)}{t d:Nat}{r:List Bool × List (List Nat)}(h:zbA tab (t+d)=some r):∃s,zbA tab t=some s:=by
 induction d generalizing r with
 |zero=>exact⟨r,h⟩
 |succ d ih=>
  have h2:zbA tab (t+d+1)=some r:=h;unfold zbA at h2
  cases ho:zbA tab (t+d) with
  |none=>rw[ho] at h2;simp at h2
  |some out=>exact ih ho
theorem zwv{tab:List (List Nat)}{t d:Nat}{fs:List Bool}{P:List (List Nat)}(h:zbA tab (t+d)=some (fs,P)){s:List Bool}{out:List (List Nat)}(h2:zbA tab t=some (s,out)):∀p∈out,p∈P:=by
 induction d generalizing fs P with
 |zero=>
  rw[Nat.add_zero,h2] at h;obtain⟨rfl,rfl⟩:=Prod.mk.inj (Option.some.inj h);exact fun p hp=>hp
 |succ d ih=>
  have h3:zbA tab (t+d+1)=some (fs,P):=h;unfold zbA at h3
  cases ho:zbA tab (t+d) with
  |none=>rw[ho] at h3;simp at h3
  |some r=>
   obtain⟨s1,o1⟩:=r;rw[ho] at h3;simp only at h3;have hi:=ih ho
   split at h3
   ·obtain⟨rfl,rfl⟩:=Prod.mk.inj (Option.some.inj h3);exact hi
   ·split at h3
    ·simp at h3
    ·obtain⟨rfl,rfl⟩:=Prod.mk.inj (Option.some.inj h3);exact fun p hp=>List.mem_append_left _ (hi p hp)
theorem zun{tab:List (List Nat)}{t:Nat}{seen:List Bool}{out:List (List Nat)}(h:zbA tab t=some (seen,out))(hs:seen.getD t false=true):zbA tab (t+1)=some (seen,out):=by
 conv=>lhs;unfold zbA
 rw[h];simp only;rw[if_pos hs]
theorem zww{tab:List (List Nat)}{t:Nat}{seen:List Bool}{out:List (List Nat)}(h:zbA tab t=some (seen,out))(hs:seen.getD t false=false){r:List Bool × List (List Nat)}(h2:zbA tab (t+1)=some r):
 ∃fin:Bst,zgP tab 5 0 (seen.set t true,[t])=some fin/\zbA tab (t+1)=some (fin.1,out++[zjI fin.2]):=by
 have h3:=h2;unfold zbA at h3;rw[h] at h3;simp only at h3;rw[if_neg (by rw[hs];simp)] at h3
 cases hg:ztb tab seen t with
 |none=>rw[hg] at h3;simp at h3
 |some fin=>
  rw[hg] at h3;exact⟨fin,hg,by rw[h2,<-h3]⟩
theorem zwx(x:Nat)(l:List Nat):zez (x:Int) (zae l)=zae (ztz x l):=by
 induction l with
 |nil=>rfl
 |cons y l ih=>
  have e:zae (y::l)=(y:Int)::zae l:=rfl;rw[e];unfold zez ztz;by_cases h:x<y
  ·rw[if_pos (by omega),if_pos h];rfl
  ·rw[if_neg (by omega),if_neg h,ih];rfl
theorem znd(l:List Nat):zdZ (zae l)=zae (zjI l):=by
 have:∀(l a:List Nat),(zae l).foldl (fun a x=>zez x a) (zae a)=zae (l.foldl (fun a x=>ztz x a) a):=by
  intro l
  induction l with
  |nil=>intro a;rfl
  |cons x l ih=>
   intro a;have e:zae (x::l)=(x:Int)::zae l:=rfl;rw[e,List.foldl_cons,List.foldl_cons,zwx,ih]
 exact this l []
theorem zrU(l:List Nat):(zjI l).length=l.length:=by
 have h:=zrT (zae l);rw[znd,zai,zai] at h;exact h
theorem zab.grownK{w w':World}{B g cap k:Nat}{rs:List RowRef}(h:zab w B g cap rs)(hg:w.grownBy w' (some k))(h1:g≠k)(h2:∀r∈rs,r.1≠k):zab w' B g cap rs:=
 ⟨h.1.grown hg (by intro e;cases e;exact h1 rfl),fun r hr=>(h.2.1 r hr).grown hg (by intro e;cases e;exact h2 r hr rfl),h.2.2⟩
theorem zcc.toV{w:World}{B g cap:Nat}{bs:List Bool}(h:zcc w B g cap bs):zaI w B 4 g cap (bs.map Value.bool):=h
structure zgY(w:World)(n B gs go co:Nat)(rs:List RowRef)(seen:List Bool)(gp cp:Nat)(part:List Nat)(wi:World):Prop where
 hs:zcc wi B gs n seen
 ho:zab wi B go co rs
 hp:Own wi B gp cp (zae part)
 hd:∀r∈rs,r.1≠gp
 hb:Below B w wi
section
variable {w wi w':World} {n B gs go co gp cp:Nat} {rs:List RowRef} {seen:List Bool} {part:List Nat}
theorem zgY.size(h:zgY w n B gs go co rs seen gp cp part wi)(hB:B<=w.heap.size):B<=wi.heap.size:=qt hB h.hb.size
theorem zgY.below(h:zgY w n B gs go co rs seen gp cp part wi)(hB:B<=w.heap.size)(hb:Below wi.heap.size wi w'):zgY w n B gs go co rs seen gp cp part w':=
 ⟨h.hs.below hb h.hs.lt,h.ho.below hb,h.hp.below hb h.hp.lt,h.hd,h.hb.trans (hb.mono (h.size hB))⟩
theorem zgY.mark(h:zgY w n B gs go co rs seen gp cp part wi)(hB:B<=w.heap.size)(j:Nat):zgY w n B gs go co rs (seen.set j true) gp cp part (wi.setCell ⟨gs,j,none⟩ (.bool true)):=by
 have bK:=h.hs.set j true;have n1:gp≠gs:=h.hp.toV.ne h.hs.toV (by decide);have n2:go≠gs:=h.ho.1.ne h.hs.toV (by decide)
 exact⟨bK.1,h.ho.grownK bK.2 n2 (fun r hr=>(h.ho.2.1 r hr).toV.ne h.hs.toV (by decide)),h.hp.grown bK.2 (by intro e;cases e;exact n1 rfl),h.hd,
  h.hb.grown bK.2 (h.size hB) (by intro k hk;cases hk;exact h.hs.base)⟩
theorem zgY.push{g' c':Nat}{part':List Nat}(h:zgY w n B gs go co rs seen gp cp part wi)(hB:B<=w.heap.size)(hg:wi.grownBy w' (some gp))(uE:Own w' B g' c' (zae part'))(aY:g'=gp∨wi.heap.size<g'):
 zgY w n B gs go co rs seen g' c' part' w':=by
 have n1:gs≠gp:=h.hs.toV.ne h.hp.toV (by decide);have n2:go≠gp:=h.ho.1.ne h.hp.toV (by decide);refine⟨h.hs.grown hg (by intro e;cases e;exact n1 rfl),h.ho.grownK hg n2 h.hd,uE,fun r hr=>?_,h.hb.grown hg (h.size hB) (by intro k hk;cases hk;exact h.hp.base)⟩
 rcases aY with e|e
 ·rw[e];exact h.hd r hr
 ·have:=(h.ho.2.1 r hr).lt;omega
end
theorem zgZ(gc oc n cc:Nat)(c:LL)(P:List (List Nat))(fs:List Bool)(w:World)(hn:c.length=n)(hC:IsC c)(hP:zbA (zbx c) c.length=some (fs,P))(cU:∀p∈P,p.length<=4)(ah:gc<w.heap.size)(hr:zal w gc oc c):
 Calls Tryz.prog 164 #[(qS (some ⟨gc,oc,none⟩) n cc)] w (zbC w (P.map zae)):=by
 subst hn;have aR:=hC.2.1;have aN:Below w.heap.size w (w.alloc (.cells #[] 25)):=zgu;have HP:=qd hP;have mF:=qd cU;clear hP cU
 go_enter Tryz.func164,Tryz.ntmps164
 go_wp2_with fail;refine(zcz gc oc _ cc c _ rfl (by omega) (fun j hj=>by have:=hC.2.2.1 j hj;omega) (hr.below aN ah)).mono ?_;rintro e w1 ⟨rfl,m1,rfl⟩;rw[decide_eq_true hC];have AV:zab ((w.alloc (.cells #[] 25)).drewN m1) w.heap.size w.heap.size 0 []:=(zab.empty (w:=w) (qr _)).drewN m1;have ad:Below w.heap.size w ((w.alloc (.cells #[] 25)).drewN m1):=below_drewN aN m1;have yD:w.heap.size<=((w.alloc (.cells #[] 25)).drewN m1).heap.size:=by simp
 generalize ((w.alloc (.cells #[] 25)).drewN m1)=w1 at*;go_wp2_with (at_make;refine zkM rfl _ _ rfl w.heap.size c.length _ rfl rfl rfl (by omega) yD ?_);intro w2 kT me;have ae:Below w.heap.size w w2:=ad.trans ((zeG me).mono yD);have ar:=AV.below (zeG me);clear me ad AV yD aN;generalize w1.heap.size=gs at*;go_wp2_with fail;go_loopw [3,5,6,7,9,20] (fun ov _ _ _ _ iv wr=>∃(t g' c' n':Nat) (rs:List RowRef) (seen:List Bool) (out:List (List Nat)),t<=c.length/\iv= .int .i64 t/\ov=(qS (some ⟨g',0,none⟩) n' c')/\Hid (rs.length=n')/\n'<=t/\Hid (zbA (zbx c) t=some (seen,out))/\seen.length=c.length/\Hid (zaa rs=out.map zae)/\zcc wr w.heap.size gs c.length seen/\zab wr w.heap.size g' c' rs/\Below w.heap.size w wr) (fun _ _ _ _ _ iv _=>c.length-(intOf iv).toNat)
 case atStart=>exact⟨0,w.heap.size,0,0,[],List.replicate c.length false,[],qz _,rfl,rfl,rfl,qr _,by show _=_;simp[zbA,znc],by simp,rfl,kT,ar,ae⟩
 case round=>
  obtain⟨t,g',c',n',rs,seen,out,ht,rfl,rfl,cK,Qc,lq,cC,ak,eG,ho,hb⟩:=hrel;by_cases ac:t<c.length
  ·have ff:(t:Int)<(c.length:Int):=by omega
   have qs:=eG.cell t (by omega);have fs0:=eG.frozen t
   cases Bj:seen.getD t false with
   |true=>
    have cG:=qd (zun lq.out Bj);rw[Bj] at qs;clear Bj;go_wp2;go_roundw
    case rel=>exact⟨t+1,g',c',n',rs,seen,out,by omega,by go_num,rfl,cK,by omega,cG.out,cC,ak,eG,ho,hb⟩
    case measure=>simp[intOf];omega
   |false=>
    obtain⟨r1,nH⟩:∃r,zbA (zbx c) (t+1)=some r:=zum (d:=c.length-(t+1)) (by rw[show t+1+(c.length-(t+1))=c.length by omega];exact HP.out);obtain⟨fin,bF,cG⟩:=zww lq.out Bj nH;have dW:=qd bF;have dO:=qd cG;rw[Bj] at qs
    have yE:zgY w c.length w.heap.size gs g' c' rs (seen.set t true) ((wr.setCell ⟨gs,t,none⟩ (.bool true)).heap.size) 1 [t] ((wr.setCell ⟨gs,t,none⟩ (.bool true)).alloc (.cells #[.int .i64 (t:Int)] 3)):=by
     have bK:=eG.set t true;have n2:g'≠gs:=ho.1.ne eG.toV (by decide);have nH:=ho.grownK bK.2 n2 (fun r hr=>(ho.2.1 r hr).toV.ne eG.toV (by decide));have bE:=hb.grown bK.2 hb.size (by intro k hk;cases hk;exact eG.base);exact⟨bK.1.alloc _,nH.below zgu,Own.new (w:=wr.setCell ⟨gs,t,none⟩ (.bool true)) (t:Int) bE.size,fun r hr=>by have:=(nH.2.1 r hr).lt;omega,bE.alloc bE.size _⟩
    have fJ:(wr.setCell ⟨gs,t,none⟩ (.bool true)).heap.size=wr.heap.size:=by simp
    rw[fJ] at yE;have yw:=qd yE;clear bF cG nH Bj yE fJ;have pK:(seen.set t true).length=c.length:=by simpa using cC
    have yF:BOk c.length 1 (seen.set t true,[t]):=⟨pK,by intro x hx;simp at hx;omega,by simp⟩;generalize seen.set t true=seen1 at*;clear eG ho hb cC pK;obtain⟨Bw,gJ⟩:∃b,b=w.heap.size:=⟨_,rfl⟩;rw[<-gJ] at yw;have IQ:=qd gJ;clear gJ;go_wp2;go_loopw [6,7,9] (fun qv kv _ wi=>∃(f k gq cq m:Nat) (s:Bst),f+k=5/\kv= .int .i64 k/\qv=(qS (some ⟨gq,0,none⟩) m cq)/\Hid (s.2.length=m)/\Hid (zgP (zbx c) f k s=some fin)/\BOk c.length (1+4*k) s/\zgY w c.length Bw gs g' c' rs s.1 gq cq s.2 wi) (fun _ kv _ _=>6-(intOf kv).toNat)
    case atStart=>exact⟨5,0,wr.heap.size,1,1,(seen1,[t]),rfl,rfl,rfl,rfl,dW.out,yF,yw.out⟩
    case round=>
     obtain⟨f,k,gq,cq,m,s,FV,rfl,rfl,cC,lS,aV,hI⟩:=hrel;have mD:=hI.hp;have gJ:Bw<=w.heap.size:=by rw[IQ.out];exact qr _
     have yG:Below w.heap.size w wr:=by have:=hI.hb;rw[IQ.out] at this;exact this
     by_cases ac:k<m
     ·obtain⟨f',rfl,kz⟩:=zxd lS.out (by rw[cC.out];exact ac);have CB:(k:Int)<(m:Int):=by omega
      have hx:s.2.getD k 0<c.length:=aV.2.1 _ (by have:=cC.out;rw[show s.2.getD k 0=s.2[k]'(by omega) by simp[List.getD,show k<s.2.length by omega]];exact List.getElem_mem _);rw[zzF hx] at kz;have qk:=mD.cell k (by rw[zai,cC.out];exact ac);rw[zbB _ _ (by rw[cC.out];exact ac)] at qk;generalize s.2.getD k 0=x at*;have am:=zxe c x;have be:Hid (∀j∈nbL c x,j<c.length):=fun j hj=>zzE hj
      have fI:=zgW gc oc _ cc x c wr rfl hC hx (by have:=yG.size;omega) (hr.below yG ah);have Bf:=qd kz;generalize nbL c x=L at*;generalize Ct:L.length=ll at*;have pI:=qd Ct;clear kz Ct lS hx;go_wp2_with fail;refine fI.mono ?_;rintro e w2 ⟨gl,cl,rfl,mB,ae⟩;have AT:=mB.base;rw[zai,pI.out];have Gj:=mD.lt;have uS:=hI.hs.lt;have rO:=hI.below gJ ae;have yB:gl≠gs:=by omega
      have yC:gl≠gq:=by omega
      have pJ:=mB.mono (B':=Bw) (qt (hI.size gJ) (qr _));clear ae fI mB AT qk mD Gj uS hI yG;go_wp2_with fail;clear ac CB;go_loopw [6,9,45] (fun qv _ nv wi=>∃(u gq cq m:Nat) (s':Bst),u<=ll/\nv= .int .i64 u/\qv=(qS (some ⟨gq,0,none⟩) m cq)/\Hid (s'=zdB s (L.take u))/\Hid (s'.2.length=m)/\BOk c.length (1+4*k+u) s'/\zgY w c.length Bw gs g' c' rs s'.1 gq cq s'.2 wi/\gl≠gq/\Own wi Bw gl cl (zae L)) (fun _ _ nv _=>6-(intOf nv).toNat)
      case atStart=>exact⟨0,gq,cq,m,s,qz _,rfl,rfl,rfl,cC,aV,rO,yC,pJ⟩
      case round=>
       obtain⟨u,gq,cq,m,s',hu,rfl,rfl,tR,cC,aV,hI,qW,pJ⟩:=hrel;have PY:m<=1+4*k+u:=by have:=aV.2.2;have:=cC.out;omega
       by_cases ac:u<ll
       ·have MI:(u:Int)<(ll:Int):=by omega
        have hv:=zqu s L u (by rw[pI.out];exact ac);rw[<-tR.out] at hv;have hj:L.getD u 0<c.length:=be.out _ (by have:=pI.out;rw[show L.getD u 0=L[u]'(by omega) by simp[List.getD,show u<L.length by omega]];exact List.getElem_mem _);have ql:=pJ.cell u (by rw[zai,pI.out];exact ac);rw[zbB _ _ (by rw[pI.out];exact ac)] at ql;generalize L.getD u 0=j at*;have qs:=hI.hs.cell j (by rw[aV.1];exact hj);have fs:=hI.hs.frozen j;have PZ:(j:Int)<(c.length:Int):=by omega
        have ju:=aV.visit hj;have om:=qd ju
        cases hb:s'.1.getD j false with
        |true=>
         rw[zmg hb] at hv om;have Hv:=qd hv;rw[hb] at qs;clear hv ju;go_wp2;go_roundw
         case rel=>exact⟨u+1,gq,cq,m,s',by omega,by go_num,rfl,Hv.out.symm,cC,om.out,hI,qW,pJ⟩
         case measure=>simp[intOf];omega
        |false=>
         rw[znb hb] at hv om;have Hv:=qd hv;rw[hb] at qs;have bK:=qd (hI.mark gJ j);have fJ:(wr.setCell ⟨gs,j,none⟩ (.bool true)).heap.size=wr.heap.size:=by simp
         have tX:=qd fJ;clear hv ju fJ;go_wp2_with (at_builtin;refine zay (w:=wr.setCell ⟨gs,j,none⟩ (.bool true)) rfl _ _ rfl Bw gq cq m (zae s'.2) (j:Int) (by rw[zai];exact cC.out) bK.out.hp rfl (by rw[tX.out];rfl) (by omega) ?_);intro g4 c4 w4 aw aT aY;have Cu:=pJ.lt;rw[<-zdN] at aw;have Qj:=bK.out.push gJ aT aw (by rw[tX.out];exact aY);have IR:Own w4 Bw gl cl (zae L):=(pJ.grown (hI.hs.set j true).2 (by intro e;cases e;exact yB rfl)).grown aT (by intro e;cases e;exact qW rfl)
         have lk:gl≠g4:=by
          rcases aY with e|e
          ·rw[e];exact qW
          ·omega
         clear aw aY Cu bK;go_wp2;go_roundw
         case rel=>exact⟨u+1,g4,c4,m+1,_,by omega,by go_num,rfl,Hv.out.symm,by show _=_;rw[qA,cC.out];rfl,om.out,Qj,lk,IR⟩
         case measure=>simp[intOf];omega
       ·obtain rfl:u=ll:=by omega
        have ht:L.take u=L:=qF (by rw[pI.out];exact qr _);rw[ht] at tR;go_wp2;go_roundw
        case rel=>exact⟨f',k+1,gq,cq,m,s',by omega,by go_num,rfl,cC,by rw[tR.out];exact Bf.out,aV.weak (by omega),hI⟩
        case measure=>simp[intOf];omega
     ·have bF:=zuj lS.out (by rw[cC.out];exact ac);have Cv:(m:Int)<=(k:Int):=by omega
      have uU:m<=12:=by
       have h1:zjI fin.2∈P:=zwv (d:=c.length-(t+1)) (by rw[show t+1+(c.length-(t+1))=c.length by omega];exact HP.out) dO.out _ (by simp);have h2:=mF.out _ h1;rw[zrU,bF,cC.out] at h2;omega
      have is:=zDx Bw gq cq m (zae s.2) wr (by rw[zai];exact cC.out) uU mD;rw[znd] at is;have wK:(zjI s.2).length=m:=by rw[zrU,cC.out]
      have CC:=qd wK;have IS:=aV.1;rw[bF] at dO;have MJ:=hI;clear lS mD bF dW ac aV wK;go_wp2_with fail;refine is.mono ?_;rintro e w2 ⟨rfl,ar,aP⟩;have rO:=MJ.push gJ aP ar (.inl rfl);have aC:zah (gq,cq,zae (zjI s.2))=(qS (some ⟨gq,0,none⟩) m cq):=by unfold zah;rw[zai,CC.out]
      have ev:=qd aC;clear is hI MJ aC aP yG;go_wp2_with (at_builtin;refine zao rfl _ _ rfl Bw g' c' n' w2.heap.size rs (gq,cq,zae (zjI s.2)) _ cK.out (by rw[ev.out]) rfl rO.ho rO.hp rO.hd rfl rfl (by omega) ?_);intro g4 c4 w4 aw aT _;go_wp2;go_roundw
      case rel=>
       have n1:gs≠g':=rO.hs.toV.ne rO.ho.1 (by decide);have ko:=rO.hs.grown aT (by intro e;cases e;exact n1 rfl);have aM:=rO.hb.grown aT (rO.size gJ) (by intro j hj;cases hj;exact rO.ho.base);rw[IQ.out] at ko aw aM;exact⟨t+1,g4,c4,n'+1,_,s.1,_,by omega,by go_num,rfl,by show _=_;rw[qA,cK.out];rfl,by omega,dO.out,IS,by show _=_;rw[zcA,ak.out,List.map_append];rfl,ko,aw,aM⟩
      case measure=>simp[intOf];omega
  ·obtain rfl:t=c.length:=by omega
   have Gk:(fs,P)=(seen,out):=Option.some.inj (HP.out.symm.trans lq.out);obtain⟨rfl,rfl⟩:=Prod.mk.inj Gk;clear Gk;go_wp2_with fail;go_ret;have hl:rs.length=(P.map zae).length:=by rw[<-ak.out];simp[zaa]
   obtain rfl:n'=(P.map zae).length:=by rw[<-hl,cK.out]
   exact⟨g',c',rs,rfl,ak.out,ho,hb⟩
theorem zmr(gc oc n cc:Nat)(c:LL)(P:List (List Nat))(fs:List Bool)(w:World)(hn:c.length=n)(hC:IsC c)(hP:zbA (zbx c) c.length=some (fs,P))(cU:∀p∈P,p.length<=4)(ah:gc<w.heap.size)(hr:zal w gc oc c):
 Calls Tryz.prog 230 #[(qS (some ⟨gc,oc,none⟩) n cc)] w (zbb w (.bool (P.length==1))):=by
 go_enter Tryz.func230,Tryz.ntmps230
 go_wp2_with fail;refine(zgZ gc oc n cc c P fs w hn hC hP cU ah hr).mono ?_;rintro e w1 ⟨g1,c1,rs1,rfl,aI,au,ad⟩;go_wp2_with fail;go_ret;refine⟨zaK ?_,ad⟩;by_cases h:P.length=1
 ·rw[h];rfl
 ·have h1:(P.length==1)=false:=by simpa using h
  have h2:((P.length:Int)==1)=false:=by simp;omega
  rw[h1];exact h2
end
end Go.Proofs.YtlgcmaoimpgedaaGreatDoor

/- Base Rw Rh Arg -/
import Derived.Test.YtlgcmaoimpgedaaGreatDoorProg
import Derived.WalkKit
import Derived.WalkSmall
import Derived.RegionTactic
import Derived.BigQuiet
import Derived.Deep.QuietTactic
import Derived.Lib.Hide
import Derived.Outline
import Derived.Deep.Matrix
import Derived.Lib.SmallJoins
set_option maxHeartbeats 1000000
set_option maxRecDepth 100000
set_option linter.unusedSimpArgs false
namespace Go.Proofs.YtlgcmaoimpgedaaGreatDoor
open Go.Value renaming slice->qS
abbrev LI:=List Int
abbrev LL:=List LI
section
open Go.RowKit
theorem qd{p:Prop}(h:p):Hid p:=Lib.hid h
theorem qL{a b c:Nat}(h:a<b)(k:b<=c):a<c:=Nat.lt_of_lt_of_le h k
theorem qt{a b c:Nat}(h:a<=b)(k:b<=c):a<=c:=Nat.le_trans h k
theorem qr(n:Nat):n<=n:=Nat.le_refl n
theorem qz(n:Nat):0<=n:=Nat.zero_le n
theorem qT{α:Type _}{i:Nat}{l:List α}(h:i<l.length):l.take (i+1)=l.take i++[l[i]]:=List.take_succ_eq_append_getElem h
theorem qA{α:Type _}{xs ys:List α}:(xs++ys).length=xs.length+ys.length:=List.length_append
theorem qF{α:Type _}{i:Nat}{l:List α}(h:l.length<=i):l.take i=l:=List.take_of_length_le h
end
section
open Go.RowKit
theorem zxB:(Tryz.prog.info? 3).map (fun i=>(i.zero,i.size,i.bytes))=some (some (.int .i64 0),1,8):=by kernel_rfl
def zag(w:World)(g o:Nat)(xs:LI):Prop:=∀j,j<xs.length->w.cell? ⟨g,o+j,none⟩=some (.int .i64 (xs.getD j 0))
def Own(w:World)(B g cap:Nat)(xs:LI):Prop:=
 w.ownsRow B 3 1 (qS (some ⟨g,0,none⟩) xs.length cap) xs.length (xs.map (Value.int .i64))
theorem Own.base{w:World}{B g cap:Nat}{xs:LI}(h:Own w B g cap xs):B<=g:=(World.ownsRow.lt h g rfl).1
theorem Own.lt{w:World}{B g cap:Nat}{xs:LI}(h:Own w B g cap xs):g<w.heap.size:=(World.ownsRow.lt h g rfl).2
theorem Own.capLe{w:World}{B g cap:Nat}{xs:LI}(h:Own w B g cap xs):xs.length<=cap:=by
 rcases h.2 with⟨h',_⟩|⟨g',cap',cur,h',_,_,hn,_⟩
 ·simp at h'
 ·simp only[Value.slice.injEq] at h';omega
theorem Own.cell{w:World}{B g cap:Nat}{xs:LI}(h:Own w B g cap xs)(j:Nat)(hj:j<xs.length):w.cell? ⟨g,j,none⟩=some (.int .i64 (xs.getD j 0)):=by
 rw[World.ownsRow.cellAt h j (by omega)];simp[List.getD,hj]
theorem Own.cells{w:World}{B g cap:Nat}{xs:LI}(h:Own w B g cap xs):zag w g 0 xs:=fun j hj=>by
 rw[Nat.zero_add];exact h.cell j hj
theorem Own.frozen{w:World}{B g cap:Nat}{xs:LI}(h:Own w B g cap xs)(j:Nat):w.frozen? ⟨g,j,none⟩=false:=World.ownsRow.frozenAt h j
theorem Own.mono{w:World}{B B' g cap:Nat}{xs:LI}(h:Own w B g cap xs)(hB:B'<=B):Own w B' g cap xs:=by
 refine⟨h.1,?_⟩
 rcases h.2 with⟨h',_⟩|⟨g',cap',cur,h',hb,r⟩
 ·simp at h'
 ·exact .inr ⟨g',cap',cur,h',by omega,r⟩
theorem Own.grown{w w':World}{row:Option Nat}{B g cap:Nat}{xs:LI}(h:Own w B g cap xs)(hg:w.grownBy w' row)(ao:some g≠row):Own w' B g cap xs:=
 World.ownsRow.kept h hg (.inr ao)
theorem Own.below{w w':World}{B B' g cap:Nat}{xs:LI}(h:Own w B g cap xs)(hb:Below B' w w')(hg:g<B'):Own w' B g cap xs:=by
 refine⟨h.1,?_⟩
 rcases h.2 with⟨h',_⟩|⟨g',cap',cur,h',du,hh,r⟩
 ·simp at h'
 ·refine .inr ⟨g',cap',cur,h',du,?_,r⟩;simp only[Value.slice.injEq,Option.some.injEq,Addr.mk.injEq] at h';obtain⟨⟨rfl,_⟩,_⟩:=h';rw[hb.block _ hg];exact hh
theorem Own.drewN{w:World}{B g cap:Nat}{xs:LI}(h:Own w B g cap xs)(n:Nat):Own (w.drewN n) B g cap xs:=h
theorem Own.drew{w:World}{B g cap:Nat}{xs:LI}(h:Own w B g cap xs):Own w.drew B g cap xs:=h
theorem Own.alloc{w:World}{B g cap:Nat}{xs:LI}(h:Own w B g cap xs)(o:Obj):Own (w.alloc o) B g cap xs:=World.ownsRow.alloc h o
theorem Own.set{w:World}{B g cap:Nat}{xs:LI}(h:Own w B g cap xs)(j:Nat)(n:Int):
 Own (w.setCell ⟨g,j,none⟩ (.int .i64 n)) B g cap (xs.set j n)/\w.grownBy (w.setCell ⟨g,j,none⟩ (.int .i64 n)) (some g):=by
 have:=World.ownsRow.stored h j (.int .i64 n);refine⟨?_,this.2⟩;unfold Own;rw[List.length_set,List.map_set];exact this.1
theorem Own.set2{w:World}{B g cap:Nat}{xs:LI}(h:Own w B g cap xs)(i j:Nat)(a b:Int):
 Own ((w.setCell ⟨g,i,none⟩ (.int .i64 a)).setCell ⟨g,j,none⟩ (.int .i64 b)) B g cap ((xs.set i a).set j b)/\w.grownBy ((w.setCell ⟨g,i,none⟩ (.int .i64 a)).setCell ⟨g,j,none⟩ (.int .i64 b)) (some g):=
 have h2:=(h.set i a).1.set j b;have h1:=(h.set i a).2
 ⟨h2.1,⟨h2.2.os.trans h1.os,h2.2.tape.trans h1.tape,h2.2.output.trans h1.output,qt h1.size h2.2.size,fun k hk ao=>(h2.2.block k (qL hk h1.size) ao).trans (h1.block k hk ao)⟩⟩
theorem zpL{a b:World}{row:Option Nat}(h:a.grownBy b row):a.grownBy b.drew row:=⟨h.os,h.tape,h.output,h.size,h.block⟩
theorem zkg{a b:World}{row:Option Nat}(h:a.grownBy b row)(n:Nat):a.grownBy (b.drewN n) row:=⟨h.os,h.tape,h.output,h.size,h.block⟩
theorem zag.below{w w':World}{B g o:Nat}{xs:LI}(h:zag w g o xs)(hb:Below B w w')(hg:g<B):zag w' g o xs:=
 fun j hj=>(hb.cell (p:=⟨g,o+j,none⟩) hg).trans (h j hj)
theorem zag.grown{w w':World}{row:Option Nat}{g o:Nat}{xs:LI}(h:zag w g o xs)(hg:w.grownBy w' row)(ao:some g≠row):zag w' g o xs:=
 fun j hj=>hg.cell (a:=⟨g,o+j,none⟩) (h j hj) ao
theorem zag.take{w:World}{g o:Nat}{xs:LI}(h:zag w g o xs)(n:Nat):zag w g o (xs.take n):=fun j hj=>by
 have fC:j<xs.length:=by rw[List.length_take] at hj;omega
 have hn:j<n:=by rw[List.length_take] at hj;omega
 rw[h j fC];simp[List.getD,hn]
theorem zag.drop{w:World}{g o:Nat}{xs:LI}(h:zag w g o xs)(n:Nat):zag w g (o+n) (xs.drop n):=fun j hj=>by
 have fC:n+j<xs.length:=by rw[List.length_drop] at hj;omega
 rw[Nat.add_assoc,h (n+j) fC];simp[List.getD,List.getElem?_drop]
def zdw(w:World)(a:Option Addr)(xs:LI):Prop:=xs=[]∨∃g o,a=some ⟨g,o,none⟩/\g<w.heap.size/\zag w g o xs
theorem zdw.below{w w':World}{a:Option Addr}{xs:LI}(h:zdw w a xs)(hb:Below w.heap.size w w'):zdw w' a xs:=by
 rcases h with h|⟨g,o,ha,hg,hc⟩
 ·exact .inl h
 ·exact .inr ⟨g,o,ha,qL hg hb.size,hc.below hb hg⟩
theorem zpM{w:World}{a:Option Addr}{len cap:Nat}{zs:LI}
 (h:(a=none/\len=0/\cap=0/\zs=[])∨∃x:Addr,a=some x/\len<=cap/\cap<=maxLen/\zs.length=cap/\(∀i,i<zs.length->w.cell? (x.add i)=some (.int .i64 (zs.getD i 0)))/\∀n∈zs,(Lit.int .i64 n).wf=true):
 zdw w a (zs.take len)/\(zs.take len).length=len/\∀n∈zs.take len,(Lit.int .i64 n).wf=true:=by
 rcases h with⟨rfl,rfl,rfl,rfl⟩|⟨x,rfl,hl,hm,hz,hc,hw⟩
 ·exact⟨.inl rfl,rfl,by simp⟩
 ·refine⟨?_,by rw[List.length_take];omega,fun n hn=>hw n (List.mem_of_mem_take hn)⟩;by_cases h0:len=0
  ·subst h0;exact .inl rfl
  ·have h1:=hc 0 (by omega);obtain⟨b,o,s⟩:=x
   cases s with
   |none=>
    refine .inr ⟨b,o,rfl,World.block_lt_of_cell? w _ h1,?_⟩;have:zag w b o zs:=fun j hj=>by have:=hc j hj;rwa [Addr.add_lit] at this
    exact this.take len
   |some s=>simp[World.cell?,Addr.add] at h1;split at h1 <;> simp_all
def zap(w:World)(v:Value)(e:Ending)(w':World):Prop:=e= .returned v/\∃n,w'=w.drewN n
def zav(w:World)(xs:LI)(e:Ending)(w':World):Prop:=
 ∃g cap,e= .returned (qS (some ⟨g,0,none⟩) xs.length cap)/\Own w' w.heap.size g cap xs/\Below w.heap.size w w'
theorem zav.mk'{w w':World}{xs:LI}{n:Nat}(g cap:Nat)(hn:xs.length=n)(ho:Own w' w.heap.size g cap xs)(hb:Below w.heap.size w w'):
 zav w xs (.returned (qS (some ⟨g,0,none⟩) n cap)) w':=by subst hn;exact⟨g,cap,rfl,ho,hb⟩
def zbl(w:World)(xs:LI)(b:Bool)(e:Ending)(w':World):Prop:=
 ∃g cap,e= .returned (.tuple #[(qS (some ⟨g,0,none⟩) xs.length cap),.bool b])/\Own w' w.heap.size g cap xs/\Below w.heap.size w w'
theorem zbl.mk'{w w':World}{xs:LI}{b:Bool}{n:Nat}(g cap:Nat)(hn:xs.length=n)(ho:Own w' w.heap.size g cap xs)(hb:Below w.heap.size w w'):
 zbl w xs b (.returned (.tuple #[(qS (some ⟨g,0,none⟩) n cap),.bool b])) w':=by subst hn;exact⟨g,cap,rfl,ho,hb⟩
theorem zam(w:World)(n m:Nat):∃k,(w.drewN n).drewN m=w.drewN k:=⟨_,World.drewN_drewN _ _ _⟩
theorem zan(w:World)(n m l:Nat):∃k,((w.drewN n).drewN m).drewN l=w.drewN k:=⟨n+(m+l),by rw[World.drewN_drewN,World.drewN_drewN]⟩
theorem zcr{B:Nat}(w:World)(n:Nat):Below B w (w.drewN n):=below_drewN (Below.refl B w) n
theorem zgu{B:Nat}{w w':World}(h:Below B w w':=by repeat (first|with_reducible exact Below.refl _ _|with_reducible assumption|with_reducible refine below_drewN ?_ _|with_reducible refine Below.drew ?_|(with_reducible refine Below.alloc ?_ ?_ _;rotate_left;·first|(simp;done)|(simp;omega)|exact Below.size (by assumption)|(have fJ:=Below.size (by assumption:Below _ _ _);simp at fJ ⊢;omega))|(with_reducible refine Below.setCell ?_ ?_ _;rotate_left;·first|(simp;done)|(simp;omega)))):Below B w w':=h
theorem zaK{a b:Bool}(h:a=b):Ending.returned (Value.bool a)= .returned (.bool b):=by rw[h]
theorem zce{a b:Int}(h:a=b):Ending.returned (Value.int .i64 a)= .returned (.int .i64 b):=by rw[h]
theorem zfr{w:World}{B g cap:Nat}{xs:LI}(ai:Own w B g cap xs){g2 o2 c2:Nat}{ys:LI}(hc:zag w g2 o2 ys)(am:xs.length+ys.length<=1099511627776)(ty:TypeId):
 ∃g' cap' w',(Builtin.append_ #[25,25] ty #[(qS (some ⟨g,0,none⟩) xs.length cap),(qS (some ⟨g2,o2,none⟩) ys.length c2)]).run Tryz.prog w= .ok (qS (some ⟨g',0,none⟩) (xs.length+ys.length) cap') w'/\
  Own w' B g' cap' (xs++ys)/\w.grownBy w' (some g)/\(g'=g∨g'=w.heap.size):=by
 obtain⟨i0,hi,fP,eJ,gK⟩:=info_parts zxB;have ac:=ai.lt;have lZ:=ai.base
 have dp:∀j u,(ys.map (Value.int .i64))[j]? =some u->w.cell? ((⟨g2,o2,none⟩:Addr).add j)=some u:=by
  intro j u hu;have hj:j<ys.length:=by have:=(List.getElem?_eq_some_iff.1 hu).1;simpa using this
  rw[Addr.add_lit,hc j hj];rw[<-hu];simp[List.getD,hj]
 have hl:(ys.map (Value.int .i64)).length=ys.length*i0.size:=by simp[eJ]
 obtain⟨v',w',hr,ho,hg,-⟩:=run_append_own (P:=Tryz.prog) w B 25 ty 3 i0 (.int .i64 0) 1 8 Tryz.underlying25 hi fP eJ gK rfl (by decide) _ xs.length _ ai ⟨g2,o2,none⟩ ys.length c2
  (ys.map (Value.int .i64)) (by simp) dp (ints_oneCell _ _) (by unfold maxLen;omega) (by omega) (by omega)
 have fin:∀g' cap',v'=(qS (some ⟨g',0,none⟩) (xs.length+ys.length) cap')->(g'=g∨g'=w.heap.size)->∃g' cap' w',(Builtin.append_ #[25,25] ty #[(qS (some ⟨g,0,none⟩) xs.length cap),(qS (some ⟨g2,o2,none⟩) ys.length c2)]).run Tryz.prog w= .ok (qS (some ⟨g',0,none⟩) (xs.length+ys.length) cap') w'/\
  Own w' B g' cap' (xs++ys)/\w.grownBy w' (some g)/\(g'=g∨g'=w.heap.size):=by
  intro g' cap' hv aY;subst hv;refine⟨g',cap',w',hr,?_,hg,aY⟩;unfold Own;rw[qA,List.map_append];exact ho
 by_cases iM:xs.length+ys.length<=cap
 ·rcases ai.2 with⟨h',_⟩|⟨g1,cap1,cur,hv,hb,hh,hn,hm,hs,bQ⟩
  ·simp at h'
  simp only[Value.slice.injEq,Option.some.injEq,Addr.mk.injEq,and_true,true_and] at hv;obtain⟨rfl,rfl⟩:=hv;have jf:=run_append_room (P:=Tryz.prog) w 25 ty 3 i0 Tryz.underlying25 hi g xs.length cap cur hh ⟨g2,o2,none⟩ ys.length c2 (ys.map (Value.int .i64)) hl dp (ints_oneCell _ _) iM (by rw[eJ] at*;simp;omega);rw[jf] at hr;simp only[Result.ok.injEq] at hr;exact fin g cap hr.1.symm (.inl rfl)
 ·have jf:=run_append_grow (P:=Tryz.prog) w 25 ty 3 i0 (.int .i64 0) Tryz.underlying25 hi fP ⟨g,0,none⟩ xs.length cap (xs.map (Value.int .i64)) (by simp[eJ]) (World.ownsRow.cells ai rfl) ⟨g2,o2,none⟩ ys.length c2 _ hl dp (by omega) (by omega) (growslice_fits (by omega) (by rw[gK];omega));rw[jf] at hr;simp only[Result.ok.injEq] at hr;exact fin _ _ hr.1.symm (.inr rfl)
theorem zic{w:World}{ops:Array Oper}{rest:List Oper}{o:Oper}{a:Act}{Q:Exit->Act->World->Prop}(dH:o.guard=none)(s x:Operand)
 (ho:o.op= .call {callee:= .builtin .append,args:=#[s,x],argTypes:=#[25,25]})
 (B g cap:Nat) (xs:LI) (ai:Own w B g cap xs) (g2 o2 c2:Nat) (ys:LI) (hc:zag w g2 o2 ys)
 (hs:a.eval s=(qS (some ⟨g,0,none⟩) xs.length cap)) (hx:a.eval x=(qS (some ⟨g2,o2,none⟩) ys.length c2)) (am:xs.length+ys.length<=1099511627776)
 (h:∀g' cap' w',Own w' B g' cap' (xs++ys)->w.grownBy w' (some g)->(g'=g∨g'=w.heap.size)->wpList Tryz.prog ops Q rest (a.put o.dst (qS (some ⟨g',0,none⟩) (xs.length+ys.length) cap')) w'):
 wpList Tryz.prog ops Q (o::rest) a w:=by
 obtain⟨g',cap',w',hr,h2,h3,h4⟩:=zfr ai hc (c2:=c2) am o.type;refine wpList_plain dH fun K hK=>?_
 unfold Oper.wp execOp;simp only[ho,resolve,invoke,builtin,Sem.run_bind,Sem.run_pure,Result.andThen_ok,List.map_toArray,List.map_cons,List.map_nil,hs,hx,hr];exact hK _ _ (h g' cap' w' h2 h3 h4)
theorem zbF{w:World}{ops:Array Oper}{rest:List Oper}{o:Oper}{a:Act}{Q:Exit->Act->World->Prop}(dH:o.guard=none)(l c:Operand)
 (cS:o.op=Op.makeSlice 25 l c) (B n:Nat) (C:Int) (hC:C=(n:Int)) (hl:a.eval l= .int .i64 C) (hc:a.eval c= .int .i64 C) (hn:n<=1099511627776) (hB:B<=w.heap.size)
 (h:∀w',Own w' B w.heap.size n (List.replicate n 0)->w.grownBy w' none->wpList Tryz.prog ops Q rest (a.put o.dst (qS (some ⟨w.heap.size,0,none⟩) n n)) w'):
 wpList Tryz.prog ops Q (o::rest) a w:=by
 obtain⟨i0,hi,fP,eJ,gK⟩:=info_parts zxB;refine wpList_make_full _ dH l c 25 cS B 3 i0 (.int .i64 0) 1 Tryz.underlying25 hi fP eJ _ _ _ _ n hl hc hC hC (by rw[gK];omega) (by unfold maxLen;omega) hB ?_;intro w' ai bn;refine h w' ?_ bn;unfold Own;rw[List.length_replicate,List.map_replicate]
 have e:(madeCells (Value.int IntKind.i64 0).cells (n*1)).toList=List.replicate n (Value.int .i64 0):=by
  rw[Nat.mul_one];exact toList_madeCells_one _ _
 rw[<-e];exact ai
theorem zeG{w w':World}(h:w.grownBy w' none):Below w.heap.size w w':=(Below.refl _ _).grown h (qr _) (by intro k hk;cases hk)
theorem Own.new{w:World}{B:Nat}(n:Int)(hB:B<=w.heap.size):Own (w.alloc (.cells #[.int .i64 n] 3)) B w.heap.size 1 [n]:=
 World.ownsRow_lit w #[.int .i64 n] 1 hB (by decide) rfl
theorem Own.empty{w:World}{B:Nat}(hB:B<=w.heap.size):Own (w.alloc (.cells #[] 3)) B w.heap.size 0 []:=
 World.ownsRow_lit w #[] 0 hB (by decide) rfl
theorem zol{w:World}{ops:Array Oper}{rest:List Oper}{o:Oper}{a:Act}{Q:Exit->Act->World->Prop}(dH:o.guard=none)(s x:Operand)
 (ho:o.op= .call {callee:= .builtin .append,args:=#[s,x],argTypes:=#[25,25]})
 (B g cap:Nat) (xs:LI) (z:Int) (ai:Own w B g cap xs) (hs:a.eval s=(qS (some ⟨g,0,none⟩) xs.length cap)) (hx:a.eval x=(qS (some ⟨w.heap.size,0,none⟩) 1 1)) (am:xs.length+1<=1099511627776)
 (h:∀g' cap' w',Own w' B g' cap' (xs++[z])->w.grownBy w' (some g)->(g'=g∨w.heap.size<g')->wpList Tryz.prog ops Q rest (a.put o.dst (qS (some ⟨g',0,none⟩) (xs.length+1) cap')) w'):
 wpList Tryz.prog ops Q (o::rest) a (w.alloc (.cells #[.int .i64 z] 3)):=by
 refine zic dH s x ho B g cap xs (ai.alloc _) w.heap.size 0 1 [z] (Own.new (B:=w.heap.size) z (qr _)).cells hs hx am fun g' cap' w' h1 h2 h3=>?_
 have bn:w.grownBy w' (some g):=⟨h2.os,h2.tape,h2.output,qt (by simp) h2.size,fun k hk ao=>(h2.block k (by simp;omega) ao).trans (Below.heap_alloc _ _ _ hk)⟩;exact h g' cap' w' h1 bn (h3.imp id (by simp;omega))
theorem zaV{w:World}{ops:Array Oper}{rest:List Oper}{o:Oper}{a:Act}{Q:Exit->Act->World->Prop}(dH:o.guard=none)(s x:Operand)
 (ho:o.op= .call {callee:= .builtin .append,args:=#[s,x],argTypes:=#[25,25]})
 (g2 o2 n2 c2:Nat) (ys:LI) (hn:ys.length=n2) (hg:g2<w.heap.size) (hc:zag w g2 o2 ys)
 (hs:a.eval s=(qS (some ⟨w.heap.size,0,none⟩) 0 0)) (hx:a.eval x=(qS (some ⟨g2,o2,none⟩) n2 c2)) (am:ys.length<=1099511627776)
 (h:∀g' cap' w',Own w' w.heap.size g' cap' ys->Below w.heap.size w w'->wpList Tryz.prog ops Q rest (a.put o.dst (qS (some ⟨g',0,none⟩) n2 cap')) w'):
 wpList Tryz.prog ops Q (o::rest) a (w.alloc (.cells #[] 3)):=by
 subst hn;refine zic dH s x ho w.heap.size w.heap.size 0 [] (Own.empty (qr _)) g2 o2 c2 ys (hc.below ((Below.refl _ _).alloc (qr _) _) hg) hs hx (by simp;omega) fun g' cap' w' h1 h2 h3=>?_
 have:=h g' cap' w' h1 (((Below.refl _ _).alloc (qr _) _).grown h2 (by simp) (by intro k hk;cases hk;exact qr _));simpa using this
end
section
open Go.RowKit
theorem ziQ{xs ys:LI}{k:Nat}(hl:xs.length=ys.length)(hk:k<xs.length)(h:xs.take k=ys.take k)(he:xs.getD k 0=ys.getD k 0):xs.take (k+1)=ys.take (k+1):=by
 have ma:k<ys.length:=by omega
 rw[qT hk,qT ma,h];simp[List.getD,hk,ma] at he;rw[he]
theorem zxC(g1 o1 c1 g2 o2 c2:Nat)(xs ys:LI)(w:World)(hx:xs.length<=1099511627776)(hy:ys.length<=1099511627776)
 (fh:zag w g1 o1 xs) (gS:zag w g2 o2 ys):
 Calls Tryz.prog 31 #[(qS (some ⟨g1,o1,none⟩) xs.length c1),(qS (some ⟨g2,o2,none⟩) ys.length c2)] w (zap w (.bool (decide (xs=ys)))):=by
 by_cases hl:xs.length=ys.length
 ·go_enter Tryz.func31,Tryz.ntmps31
  go_wp2;go_loopw [5] (fun i wr=>∃k:Nat,k<=xs.length/\i= .int .i64 k/\xs.take k=ys.take k/\∃n,wr=w.drewN n) (fun i _=>xs.length-(intOf i).toNat)
  case atStart=>exact⟨0,qz _,rfl,rfl,0,rfl⟩
  case round=>
   obtain⟨k,hk,rfl,he,n,rfl⟩:=hrel;have He:=qd he;clear he;have Hl:=qd hl;clear hl;by_cases ac:k<xs.length
   ·have h1:=fh k ac;have h2:=gS k (by rw[<-Hl.out];omega);have fc:k<ys.length:=by rw[<-Hl.out];omega
    go_wp2;go_quiet (fail)
    go_wp2
    ·have ht:(xs[k] != ys[k])=true:=by assumption
     go_ret;have ao:xs≠ys:=fun e=>by subst e;simp at ht
     exact⟨zaK (by simp[ao]),(by first|exact⟨_,rfl⟩|exact⟨0,rfl⟩|exact zam _ _ _|exact zan _ _ _ _)⟩
    ·have ht:(xs[k] != ys[k])=false:=by assumption
     go_roundw
     case rel=>exact⟨k+1,by omega,by go_num,ziQ Hl.out ac He.out (by simpa [List.getD,ac,fc] using ht),(by first|exact⟨_,rfl⟩|exact⟨0,rfl⟩|exact zam _ _ _|exact zan _ _ _ _)⟩
     case measure=>simp[intOf];omega
   ·go_wp2;go_ret;refine⟨zaK ?_,n,rfl⟩;have h3:=He.out;rw[qF (by omega),qF (by have:=Hl.out;omega)] at h3;simp[h3]
 ·have hb:((xs.length:Int) != (ys.length:Int))=true:=by rw[bne_iff_ne];omega
  go_enter Tryz.func31,Tryz.ntmps31
  go_wp2;go_ret;exact⟨zaK (by simp;intro e;exact hl (by rw[e])),0,rfl⟩
def zbU(k n:Nat):LI:=(List.range n).map fun i=>((k+i:Nat):Int)
theorem zdR(k n:Nat):(zbU k n).length=n:=by simp[zbU]
theorem zxD(k n j:Nat)(h:j<n):(zbU k n).getD j 0=((k+j:Nat):Int):=by simp[zbU,List.getD,h]
theorem ztj(k n i:Nat)(xs:LI)(hx:xs.length=n)(hi:i<n):
 (zbU k i++xs.drop i).set i (((k+i:Nat):Int))=zbU k (i+1)++xs.drop (i+1):=by
 rw[List.set_append_right _ _ (by simp[zbU])];simp only[zdR,Nat.sub_self];have e:xs.drop i=xs[i]::xs.drop (i+1):=List.drop_eq_getElem_cons (by omega);rw[e,List.set_cons_zero];have e2:zbU k (i+1)=zbU k i++[((k+i:Nat):Int)]:=by simp[zbU,List.range_succ]
 rw[e2,List.append_assoc];rfl
theorem zBB(xs:LI)(j:Nat)(hj:j<xs.length):
 (xs.take j++List.replicate (xs.length-j) 0).set j xs[j]=xs.take (j+1)++List.replicate (xs.length-(j+1)) 0:=by
 have e:xs.length-j=(xs.length-(j+1))+1:=by omega
 rw[List.set_append_right _ _ (by rw[List.length_take];omega),e,List.replicate_succ,qT hj];have e2:j-(xs.take j).length=0:=by rw[List.length_take];omega
 rw[e2,List.set_cons_zero,List.append_assoc];rfl
theorem World.grownBy.trans'{a b c:World}{row:Option Nat}(h:a.grownBy b row)(k:b.grownBy c row):a.grownBy c row:=
 ⟨k.os.trans h.os,k.tape.trans h.tape,k.output.trans h.output,qt h.size k.size,fun i hi ao=>(k.block i (qL hi h.size) ao).trans (h.block i hi ao)⟩
theorem ztk(B g cap:Nat)(xs:LI)(k0:Nat)(w:World)(hx:xs.length<=1099511627776)(nh:k0<=1099511627776)(ai:Own w B g cap xs):
 Calls Tryz.prog 34 #[(qS (some ⟨g,0,none⟩) xs.length cap),.int .i64 k0] w fun e w'=>
  e= .returned (.int .i64 ((k0+xs.length:Nat):Int))/\Own w' B g cap (zbU k0 xs.length)/\w.grownBy w' (some g):=by
 go_enter Tryz.func34,Tryz.ntmps34
 go_wp2;go_loopw [1,5] (fun k i wr=>∃j:Nat,j<=xs.length/\i= .int .i64 j/\k= .int .i64 ((k0+j:Nat):Int)/\Own wr B g cap (zbU k0 j++xs.drop j)/\w.grownBy wr (some g)) (fun _ i _=>xs.length-(intOf i).toNat)
 case atStart=>exact⟨0,qz _,rfl,rfl,by simpa [zbU] using ai,World.grownBy.refl _ _⟩
 case round=>
  obtain⟨j,hj,rfl,rfl,ho,hg⟩:=hrel;by_cases ac:j<xs.length
  ·have hl:(zbU k0 j++xs.drop j).length=xs.length:=by simp[zdR];omega
   have h1:=ho.cell j (by rw[hl];exact ac);have h2:=ho.frozen j;have Hl:=qd hl;clear hl;go_wp2;go_roundw
   case rel=>
    have hs:=ho.set j (((k0+j:Nat):Int));rw[ztj k0 xs.length j xs rfl ac] at hs;exact⟨j+1,by omega,by go_num,by go_num,hs.1,World.grownBy.trans' hg hs.2⟩
   case measure=>simp[intOf];omega
  ·obtain rfl:j=xs.length:=by omega
   go_wp2;go_ret;exact⟨rfl,by simpa using ho,hg⟩
theorem zpN(a:Option Addr)(cap:Nat)(xs:LI)(w:World)(hx:xs.length<=1099511627776)(ha:zdw w a xs):
 Calls Tryz.prog 29 #[.slice a xs.length cap] w (zav w xs):=by
 go_enter Tryz.func29,Tryz.ntmps29
 go_wp2_with (at_make;refine zbF rfl _ _ rfl w.heap.size xs.length _ rfl rfl rfl hx (qr _) ?_);intro w1 mb bn;have aN:=zeG bn;go_wp2;go_loopw [4] (fun i wr=>∃j:Nat,j<=xs.length/\i= .int .i64 j/\Own wr w.heap.size w.heap.size xs.length (xs.take j++List.replicate (xs.length-j) 0)/\Below w.heap.size w wr) (fun i _=>xs.length-(intOf i).toNat)
 case atStart=>exact⟨0,qz _,rfl,by simpa using mb,aN⟩
 case round=>
  obtain⟨j,hj,rfl,ho,hb⟩:=hrel;by_cases ac:j<xs.length
  ·rcases ha with rfl|⟨g,o,rfl,hg,hc⟩
   ·simp at ac
   have hl:(xs.take j++List.replicate (xs.length-j) 0).length=xs.length:=by simp;omega
   have h0:=hc.below hb hg j ac;have h1:=ho.cell j (by rw[hl];exact ac);have h2:=ho.frozen j;have Hl:=qd hl;clear hl;go_wp2;go_roundw
   case rel=>
    have hs:=ho.set j xs[j];rw[zBB xs j ac] at hs;exact⟨j+1,by omega,by go_num,hs.1,hb.grown hs.2 (by exact hb.size) (by intro k hk;cases hk;exact qr _)⟩
   case measure=>simp[intOf];omega
  ·obtain rfl:j=xs.length:=by omega
   go_wp2;go_ret;exact⟨w.heap.size,xs.length,rfl,by simpa using ho,hb⟩
theorem zkh(g1 o1 n1 c1 g2 o2 n2 c2:Nat)(xs:LI)(w:World)(h1:xs.length=n1)(h2:xs.length=n2)(hx:xs.length<=1099511627776)
 (fh:zag w g1 o1 xs) (gS:zag w g2 o2 xs):Calls Tryz.prog 31 #[(qS (some ⟨g1,o1,none⟩) n1 c1),(qS (some ⟨g2,o2,none⟩) n2 c2)] w (zap w (.bool true)):=by
 subst h1;subst h2;have:=zxC g1 o1 c1 g2 o2 c2 xs xs w hx hx fh gS
 rwa [decide_eq_true rfl] at this
theorem zpO(B g n cap:Nat)(xs:LI)(k0:Nat)(K:Int)(w:World)(hK:K=(k0:Int))(hn:xs.length=n)(hx:xs.length<=1099511627776)(nh:k0<=1099511627776)(ai:Own w B g cap xs):
 Calls Tryz.prog 34 #[(qS (some ⟨g,0,none⟩) n cap),.int .i64 K] w fun e w'=>
  e= .returned (.int .i64 ((k0+n:Nat):Int))/\Own w' B g cap (zbU k0 n)/\w.grownBy w' (some g):=by
 subst hn;subst hK;exact ztk B g cap xs k0 w hx nh ai
end
section
open Go.RowKit
def zbb(w:World)(v:Value)(e:Ending)(w':World):Prop:=e= .returned v/\Below w.heap.size w w'
theorem zay{w:World}{ops:Array Oper}{rest:List Oper}{o:Oper}{a:Act}{Q:Exit->Act->World->Prop}(dH:o.guard=none)(s x:Operand)
 (ho:o.op= .call {callee:= .builtin .append,args:=#[s,x],argTypes:=#[25,25]})
 (B g cap n:Nat) (xs:LI) (z:Int) (hn:xs.length=n) (ai:Own w B g cap xs) (hs:a.eval s=(qS (some ⟨g,0,none⟩) n cap)) (hx:a.eval x=(qS (some ⟨w.heap.size,0,none⟩) 1 1)) (am:n+1<=1099511627776)
 (h:∀g' cap' w',Own w' B g' cap' (xs++[z])->w.grownBy w' (some g)->(g'=g∨w.heap.size<g')->wpList Tryz.prog ops Q rest (a.put o.dst (qS (some ⟨g',0,none⟩) (n+1) cap')) w'):
 wpList Tryz.prog ops Q (o::rest) a (w.alloc (.cells #[.int .i64 z] 3)):=by
 subst hn;exact zol dH s x ho B g cap xs z ai hs hx am h
end
section
open Go.RowKit
theorem zkC:(Tryz.prog.info? 25).map (fun i=>(i.zero,i.size,i.bytes))=some (some (.slice none 0 0),1,24):=by kernel_rfl
def zaI(w:World)(B:Nat)(E:TypeId)(g cap:Nat)(vs:List Value):Prop:=w.ownsRow B E 1 (qS (some ⟨g,0,none⟩) vs.length cap) vs.length vs
section
variable {w w':World} {B g cap:Nat} {E:TypeId} {vs:List Value}
theorem zaI.base(h:zaI w B E g cap vs):B<=g:=(World.ownsRow.lt h g rfl).1
theorem zaI.lt(h:zaI w B E g cap vs):g<w.heap.size:=(World.ownsRow.lt h g rfl).2
theorem zaI.row(h:zaI w B E g cap vs):∃cur,w.heap[g]? =some (.cells cur E (0,0))/\vs.length<=cap/\cap<=maxLen:=by
 rcases h.2 with⟨h',_⟩|⟨g',cap',cur,h',_,hh,hn,hm,_⟩
 ·simp at h'
 ·simp only[Value.slice.injEq,Option.some.injEq,Addr.mk.injEq] at h';obtain⟨⟨rfl,_⟩,_,rfl⟩:=h';exact⟨cur,hh,hn,hm⟩
theorem zaI.capLe(h:zaI w B E g cap vs):vs.length<=cap:=by obtain⟨_,_,h,_⟩:=h.row;exact h
theorem zaI.cell(h:zaI w B E g cap vs)(j:Nat)(hj:j<vs.length):w.cell? ⟨g,j,none⟩=some vs[j]:=by
 rw[World.ownsRow.cellAt h j (by omega)];simp[hj]
theorem zaI.frozen(h:zaI w B E g cap vs)(j:Nat):w.frozen? ⟨g,j,none⟩=false:=World.ownsRow.frozenAt h j
theorem zaI.mono{B':Nat}(h:zaI w B E g cap vs)(hB:B'<=B):zaI w B' E g cap vs:=by
 refine⟨h.1,?_⟩
 rcases h.2 with⟨h',_⟩|⟨g',cap',cur,h',hb,r⟩
 ·simp at h'
 ·exact .inr ⟨g',cap',cur,h',by omega,r⟩
theorem zaI.grown{row:Option Nat}(h:zaI w B E g cap vs)(hg:w.grownBy w' row)(ao:some g≠row):zaI w' B E g cap vs:=World.ownsRow.kept h hg (.inr ao)
theorem zaI.below{B':Nat}(h:zaI w B E g cap vs)(hb:Below B' w w')(hg:g<B'):zaI w' B E g cap vs:=by
 refine⟨h.1,?_⟩
 rcases h.2 with⟨h',_⟩|⟨g',cap',cur,h',du,hh,r⟩
 ·simp at h'
 ·refine .inr ⟨g',cap',cur,h',du,?_,r⟩;simp only[Value.slice.injEq,Option.some.injEq,Addr.mk.injEq] at h';obtain⟨⟨rfl,_⟩,_⟩:=h';rw[hb.block _ hg];exact hh
theorem zaI.alloc(h:zaI w B E g cap vs)(o:Obj):zaI (w.alloc o) B E g cap vs:=World.ownsRow.alloc h o
theorem zaI.set(h:zaI w B E g cap vs)(j:Nat)(v:Value):zaI (w.setCell ⟨g,j,none⟩ v) B E g cap (vs.set j v)/\w.grownBy (w.setCell ⟨g,j,none⟩ v) (some g):=by
 have:=World.ownsRow.stored h j v;refine⟨?_,this.2⟩;unfold zaI;rw[List.length_set];exact this.1
theorem zaI.ne{B' g' cap':Nat}{E':TypeId}{vs':List Value}(h:zaI w B E g cap vs)(h':zaI w B' E' g' cap' vs')(hE:E≠E'):g≠g':=by
 rintro rfl;obtain⟨c1,e1,_⟩:=h.row;obtain⟨c2,e2,_⟩:=h'.row;rw[e1] at e2;simp at e2;exact hE e2.2
theorem Own.toV{xs:LI}(h:Own w B g cap xs):zaI w B 3 g cap (xs.map (Value.int .i64)):=by
 unfold zaI;rw[List.length_map];exact h
end
abbrev RowRef:=Nat × Nat × LI
def zah(r:RowRef):Value:=(qS (some ⟨r.1,0,none⟩) r.2.2.length r.2.1)
def zcS(w:World)(B:Nat)(rs:List RowRef):Prop:=(∀r∈rs,Own w B r.1 r.2.1 r.2.2)/\(rs.map (·.1)).Nodup
def zab(w:World)(B g cap:Nat)(rs:List RowRef):Prop:=zaI w B 25 g cap (rs.map zah)/\zcS w B rs
def zaa(rs:List RowRef):LL:=rs.map (·.2.2)
def zal(w:World)(g o:Nat)(rows:LL):Prop:=
 ∀j,j<rows.length->∃gj oj cj,w.cell? ⟨g,o+j,none⟩=some (qS (some ⟨gj,oj,none⟩) ((rows.getD j []).length) cj)/\(rows.getD j []).length<=cj/\gj<w.heap.size/\zag w gj oj (rows.getD j [])
theorem zal.below{w w':World}{g o:Nat}{rows:LL}(h:zal w g o rows)(hb:Below w.heap.size w w')(hg:g<w.heap.size):zal w' g o rows:=fun j hj=>by
 obtain⟨gj,oj,cj,h1,h2,h3,h4⟩:=h j hj;exact⟨gj,oj,cj,(hb.cell (p:=⟨g,o+j,none⟩) hg).trans h1,h2,qL h3 hb.size,h4.below hb h3⟩
theorem zcS.below{w w':World}{B:Nat}{rs:List RowRef}(h:zcS w B rs)(hb:Below w.heap.size w w'):zcS w' B rs:=
 ⟨fun r hr=>(h.1 r hr).below hb (h.1 r hr).lt,h.2⟩
theorem zab.below{w w':World}{B g cap:Nat}{rs:List RowRef}(h:zab w B g cap rs)(hb:Below w.heap.size w w'):zab w' B g cap rs:=
 ⟨h.1.below hb h.1.lt,h.2.below hb⟩
theorem zab.drewN{w:World}{B g cap:Nat}{rs:List RowRef}(h:zab w B g cap rs)(n:Nat):zab (w.drewN n) B g cap rs:=h
theorem zcS.mono{w:World}{B B':Nat}{rs:List RowRef}(h:zcS w B rs)(hB:B'<=B):zcS w B' rs:=⟨fun r hr=>(h.1 r hr).mono hB,h.2⟩
theorem zab.mono{w:World}{B B' g cap:Nat}{rs:List RowRef}(h:zab w B g cap rs)(hB:B'<=B):zab w B' g cap rs:=⟨h.1.mono hB,h.2.mono hB⟩
theorem zab.base{w:World}{B g cap:Nat}{rs:List RowRef}(h:zab w B g cap rs):B<=g:=h.1.base
theorem zab.lt{w:World}{B g cap:Nat}{rs:List RowRef}(h:zab w B g cap rs):g<w.heap.size:=h.1.lt
theorem zab.capLe{w:World}{B g cap:Nat}{rs:List RowRef}(h:zab w B g cap rs):rs.length<=cap:=by have:=h.1.capLe;rwa [List.length_map] at this
theorem zcS.append{w:World}{B:Nat}{rs:List RowRef}{r:RowRef}(h:zcS w B rs)(hr:Own w B r.1 r.2.1 r.2.2)(hn:∀s∈rs,s.1≠r.1):zcS w B (rs++[r]):=by
 refine⟨fun s hs=>?_,?_⟩
 ·rcases List.mem_append.1 hs with h1|h1
  ·exact h.1 s h1
  ·rw[List.mem_singleton] at h1;subst h1;exact hr
 ·rw[List.map_append,List.nodup_append];refine⟨h.2,by simp,fun a ha b hb=>?_⟩;obtain⟨s,hs,rfl⟩:=List.mem_map.1 ha;simp only[List.map_cons,List.map_nil,List.mem_singleton] at hb;subst hb;exact hn s hs
theorem zab.rows2{w:World}{B g cap:Nat}{rs:List RowRef}(h:zab w B g cap rs):zal w g 0 (zaa rs):=by
 intro j hj;have fC:j<rs.length:=by simpa [zaa] using hj
 have hm:rs[j]∈rs:=List.getElem_mem fC;have e:(zaa rs).getD j []=rs[j].2.2:=by simp[zaa,List.getD,fC]
 have ho:=h.2.1 _ hm;rw[e];refine⟨rs[j].1,0,rs[j].2.1,?_,ho.capLe,ho.lt,ho.cells⟩;rw[Nat.zero_add,h.1.cell j (by simpa using fC)];simp[zah]
def zbC(w:World)(rows:LL)(e:Ending)(w':World):Prop:=
 ∃g cap rs,e= .returned (qS (some ⟨g,0,none⟩) rows.length cap)/\zaa rs=rows/\zab w' w.heap.size g cap rs/\Below w.heap.size w w'
def zeH(w:World)(a:Option Addr)(rows:LL):Prop:=
 rows=[]∨∃g o,a=some ⟨g,o,none⟩/\g<w.heap.size/\∀j,j<rows.length->∃aj cj,w.cell? ⟨g,o+j,none⟩=some (.slice aj (rows.getD j []).length cj)/\zdw w aj (rows.getD j [])
theorem zeH.below{w w':World}{a:Option Addr}{rows:LL}(h:zeH w a rows)(hb:Below w.heap.size w w'):zeH w' a rows:=by
 rcases h with h|⟨g,o,ha,hg,hc⟩
 ·exact .inl h
 ·refine .inr ⟨g,o,ha,qL hg hb.size,fun j hj=>?_⟩;obtain⟨aj,cj,h1,h2⟩:=hc j hj;exact⟨aj,cj,(hb.cell (p:=⟨g,o+j,none⟩) hg).trans h1,h2.below hb⟩
theorem zoW{w:World}{ops:Array Oper}{rest:List Oper}{o:Oper}{a:Act}{Q:Exit->Act->World->Prop}(dH:o.guard=none)(l c:Operand)
 (cS:o.op=Op.makeSlice 24 l c) (B n:Nat) (C:Int) (hC:C=(n:Int)) (hl:a.eval l= .int .i64 C) (hc:a.eval c= .int .i64 C) (hn:n<=1099511627776) (hB:B<=w.heap.size)
 (h:∀w',zaI w' B 25 w.heap.size n (List.replicate n (.slice none 0 0))->w.grownBy w' none->wpList Tryz.prog ops Q rest (a.put o.dst (qS (some ⟨w.heap.size,0,none⟩) n n)) w'):
 wpList Tryz.prog ops Q (o::rest) a w:=by
 obtain⟨i0,hi,fP,eJ,gK⟩:=info_parts zkC;refine wpList_make_full _ dH l c 24 cS B 25 i0 (.slice none 0 0) 1 Tryz.underlying24 hi fP eJ _ _ _ _ n hl hc hC hC (by rw[gK];omega) (by unfold maxLen;omega) hB ?_;intro w' ai bn;refine h w' ?_ bn;unfold zaI;rw[List.length_replicate]
 have e:(madeCells (qS none 0 0).cells (n*1)).toList=List.replicate n (.slice none 0 0):=by
  rw[Nat.mul_one];exact toList_madeCells_one _ _
 rw[<-e];exact ai
end
section
open Go.RowKit
def szL(n:Nat)(left:Int):Int:=if left-n<0 then -1 else left-n
theorem zpP(a:Option Addr)(n c:Nat)(left:Int)(w:World)(hl:0<=left/\left<=1048576)(hn:n<=9223372036854775807):
 Calls Tryz.prog 67 #[.slice a n c,.int .i64 left] w (zap w (.int .i64 (szL n left))):=by
 have e0:IntKind.i64.wrap (left-(n:Int))=left-n:=IntWalk.i64_in _ (by omega);by_cases h:left-(n:Int)<0
 ·have e:szL n left=-1:=by unfold szL;rw[if_pos h]
  rw[e]
  go_enter Tryz.func67,Tryz.ntmps67
  go_wp2;go_ret;exact⟨rfl,0,rfl⟩
 ·have e:szL n left=left-n:=by unfold szL;rw[if_neg h]
  rw[e]
  go_enter Tryz.func67,Tryz.ntmps67
  go_wp2;go_ret;exact⟨rfl,0,rfl⟩
def zci(rows:LL)(k:Nat):Nat:=(rows.take k).foldl (fun s r=>s+r.length) 0
theorem zhO(rows:LL)(k:Nat)(hk:k<rows.length):zci rows (k+1)=zci rows k+(rows.getD k []).length:=by
 unfold zci;rw[qT hk,List.foldl_append];simp[List.getD,hk]
theorem zki(rows:LL){k n:Nat}(h:k<=n):zci rows k<=zci rows n:=by
 induction n with
 |zero=>obtain rfl:k=0:=by omega
        exact qr _
 |succ n ih=>
  by_cases e:k=n+1
  ·subst e;exact qr _
  ·have h1:=ih (by omega);by_cases hn:n<rows.length
   ·rw[zhO _ _ hn];omega
   ·have e2:zci rows (n+1)=zci rows n:=by
     unfold zci;rw[qF (by omega),qF (by omega)]
    omega
def zmD(rows:LL)(left:Int):Int:=if left-rows.length-zci rows rows.length<0 then -1 else left-rows.length-zci rows rows.length
theorem zvH(a:Option Addr)(n c:Nat)(rows:LL)(left:Int)(w:World)(am:rows.length=n)(hl:0<=left/\left<=1048576)(hn:n<=9223372036854775807)
 (an:∀j,j<rows.length->(rows.getD j []).length<=9223372036854775807) (ha:zeH w a rows):
 Calls Tryz.prog 27 #[.slice a n c,.int .i64 left] w (zap w (.int .i64 (zmD rows left))):=by
 subst am;have e0:IntKind.i64.wrap (left-(rows.length:Int))=left-rows.length:=IntWalk.i64_in _ (by omega);by_cases h:left-(rows.length:Int)<0
 ·have e:zmD rows left=-1:=by unfold zmD;rw[if_pos (by omega)]
  rw[e]
  go_enter Tryz.func27,Tryz.ntmps27
  go_wp2;go_ret;exact⟨rfl,0,rfl⟩
 ·go_enter Tryz.func27,Tryz.ntmps27
  go_wp2;go_loopw [1,5] (fun l i wr=>∃k:Nat,k<=rows.length/\i= .int .i64 k/\l= .int .i64 (left-rows.length-zci rows k)/\0<=left-rows.length-zci rows k/\∃m,wr=w.drewN m) (fun _ i _=>rows.length-(intOf i).toNat)
  case atStart=>exact⟨0,qz _,rfl,by simp[zci],by simp[zci];omega,0,rfl⟩
  case round=>
   obtain⟨k,hk,rfl,rfl,h0,m,rfl⟩:=hrel;by_cases ac:k<rows.length
   ·rcases ha with rfl|⟨g,o,rfl,hg,hc⟩
    ·simp at ac
    obtain⟨aj,cj,aA,xL⟩:=hc k ac;have dK:=an k ac;have ke:=zhO rows k ac;obtain⟨R,hR⟩:∃R,rows.getD k []=R:=⟨_,rfl⟩;rw[hR] at aA xL dK ke;have kf:=qd ke;have HR:=qd hR;clear ke hR xL;obtain⟨S,hS⟩:∃S:Nat,zci rows k=S:=⟨_,rfl⟩;rw[hS] at h0 kf ⊢;have HS:=qd hS;clear hS;have hm:=zki rows (k:=k+1) (n:=rows.length) ac;have Hm:=qd hm;clear hm;by_cases dw:left-rows.length-S-(R.length:Int)<0
    ·have aa:=zpP aj R.length cj (left-rows.length-S) (w.drewN m) (by omega) dK;rw[show szL R.length (left-rows.length-S)=-1 from by unfold szL;rw[if_pos dw]] at aa;have ab:=qd aa;clear aa;go_wp2_with fail;refine ab.out.mono ?_;rintro e w' ⟨rfl,m',rfl⟩;go_wp2;go_ret;refine⟨zce ?_,(by first|exact⟨_,rfl⟩|exact⟨0,rfl⟩|exact zam _ _ _|exact zan _ _ _ _)⟩;unfold zmD;have h1:=kf.out;have h2:=Hm.out;rw[if_pos (by omega)]
    ·have aa:=zpP aj R.length cj (left-rows.length-S) (w.drewN m) (by omega) dK;rw[show szL R.length (left-rows.length-S)=left-rows.length-S-R.length from by unfold szL;rw[if_neg dw]] at aa;have ab:=qd aa;clear aa;go_wp2_with fail;refine ab.out.mono ?_;rintro e w' ⟨rfl,m',rfl⟩;go_wp2;go_roundw
     case rel=>exact⟨k+1,by omega,by go_num,by rw[kf.out];go_num,by rw[kf.out];omega,(by first|exact⟨_,rfl⟩|exact⟨0,rfl⟩|exact zam _ _ _|exact zan _ _ _ _)⟩
     case measure=>simp[intOf];omega
   ·obtain rfl:k=rows.length:=by omega
    go_wp2;go_ret;exact⟨zce (by unfold zmD;rw[if_neg (by omega)]),(by first|exact⟨_,rfl⟩|exact⟨0,rfl⟩|exact zam _ _ _|exact zan _ _ _ _)⟩
theorem zcZ(rs:List RowRef)(r:RowRef):zaa (rs++[r])=zaa rs++[r.2.2]:=by simp[zaa]
theorem zac(rs:List RowRef):(zaa rs).length=rs.length:=by simp[zaa]
theorem zyY(rs:List RowRef)(r:RowRef){k n:Nat}(ac:rs.length<n)(hk:rs.length=k):
 (rs.map zah++List.replicate (n-k) (qS none 0 0)).set k (qS (some ⟨r.1,0,none⟩) r.2.2.length r.2.1)=(rs++[r]).map zah++List.replicate (n-(k+1)) (qS none 0 0):=by
 subst hk;have e:n-rs.length=(n-(rs.length+1))+1:=by omega
 rw[List.set_append_right _ _ (by simp),e,List.replicate_succ];simp[zah]
theorem zvI(a:Option Addr)(n c:Nat)(rows:LL)(w:World)(am:rows.length=n)(hn:n<=1048576)(an:∀j,j<rows.length->(rows.getD j []).length<=1099511627776)(ha:zeH w a rows):
 Calls Tryz.prog 28 #[.slice a n c] w (zbC w rows):=by
 subst am
 go_enter Tryz.func28,Tryz.ntmps28
 go_wp2_with (at_make;refine zoW rfl _ _ rfl w.heap.size rows.length _ rfl rfl rfl (by omega) (qr _) ?_);intro w1 mb bn;have aN:=zeG bn;clear bn;go_wp2;go_loopw [4] (fun i wr=>∃(k:Nat) (rs:List RowRef),k<=rows.length/\i= .int .i64 k/\Hid (zaa rs=rows.take k)/\zaI wr w.heap.size 25 w.heap.size rows.length (rs.map zah++List.replicate (rows.length-k) (.slice none 0 0))/\zcS wr w.heap.size rs/\Below w.heap.size w wr) (fun i _=>rows.length-(intOf i).toNat)
 case atStart=>exact⟨0,[],qz _,rfl,rfl,by simpa using mb,⟨by simp,by simp⟩,aN⟩
 case round=>
  obtain⟨k,rs,hk,rfl,br,ho,bR,hb⟩:=hrel;have cK:rs.length=k:=by have:=congrArg List.length br.out;rw[zac,List.length_take] at this;omega
  have AN:=qd cK;clear cK;by_cases ac:k<rows.length
  ·have OU:=ha.below hb
   rcases OU with h|⟨g,o,rfl,hg,hc⟩
   ·rw[h] at ac;simp at ac
   obtain⟨aj,cj,aA,xL⟩:=hc k ac;have dK:=an k ac;obtain⟨R,hR⟩:∃R,rows.getD k []=R:=⟨_,rfl⟩;rw[hR] at aA xL dK;have HR:=qd hR;clear hR;have hl:(rs.map zah++List.replicate (rows.length-k) (qS none 0 0)).length=rows.length:=by simp[AN.out];omega
   have h1:=ho.cell k (by rw[hl];exact ac);have h2:=ho.frozen k
   have hv:(rs.map zah++List.replicate (rows.length-k) (qS none 0 0))[k]'(by rw[hl];exact ac)= .slice none 0 0:=by
    rw[List.getElem_append_right (by simp[AN.out])];simp
   rw[hv] at h1;clear hv hl;go_wp2_with fail;refine(zpN aj cj R wr dK xL).mono ?_;rintro e w2 ⟨g1,c1,rfl,au,ad⟩;have ar:=ho.below ad ho.lt;have Md:=(ad.cell (p:=⟨w.heap.size,k,none⟩) ho.lt).trans h1;have Me:=ar.frozen k;have bK:=ar.set k (qS (some ⟨g1,0,none⟩) R.length c1);have kg:=qd bK;clear bK h1 h2;go_wp2;go_roundw
   case rel=>
    have hs:=kg.out;rw[zyY rs (g1,c1,R) (by rw[AN.out];exact ac) AN.out] at hs;have ae:=hb.trans (ad.mono hb.size);have ao:w.heap.size≠g1:=by have h3:=ho.lt;have h4:=au.base;omega
    refine⟨k+1,rs++[(g1,c1,R)],by omega,by go_num,?_,hs.1,?_,ae.grown hs.2 ae.size (by intro j hj;cases hj;exact qr _)⟩
    ·show zaa _=_;rw[zcZ,br.out,qT ac,<-HR.out];simp[List.getD,ac]
    ·have xM:=(bR.below ad).append (r:=(g1,c1,R)) (au.mono hb.size) (fun s tR=>by have h3:=(bR.1 s tR).lt;have h4:=au.base;show s.1≠g1;omega);refine⟨fun r hr=>(xM.1 r hr).grown hs.2 ?_,xM.2⟩;intro e;exact ar.ne (xM.1 r hr).toV (by decide) (Option.some.inj e).symm
   case measure=>simp[intOf];omega
  ·obtain rfl:k=rows.length:=by omega
   go_wp2;go_ret;have wa:=br.out;rw[List.take_length] at wa;rw[Nat.sub_self,List.replicate_zero,List.append_nil] at ho;exact⟨w.heap.size,rows.length,rs,rfl,wa,⟨ho,bR⟩,hb⟩
theorem zap.quiet3{f:FuncId}{args:Array Value}{w:World}{m n:Nat}{v:Value}(h:Calls Tryz.prog f args (w.drewN (m+n)) (zap (w.drewN (m+n)) v)):
 Calls Tryz.prog f args (w.drewN (m+n)) fun e w''=>e= .returned v/\∃k,w''=w.drewN (m+k):=
 h.mono fun _ _ ⟨he,k,hk⟩=>⟨he,n+k,by rw[hk,World.drewN_drewN,Nat.add_assoc]⟩
theorem ztl(g1 o1 n1 c1 g2 o2 n2 c2:Nat)(rows:LL)(w:World)(h1:rows.length=n1)(h2:rows.length=n2)(hx:rows.length<=1048576)(an:∀j,j<rows.length->(rows.getD j []).length<=1099511627776)
 (nH:zal w g1 o1 rows) (jf:zal w g2 o2 rows):Calls Tryz.prog 30 #[(qS (some ⟨g1,o1,none⟩) n1 c1),(qS (some ⟨g2,o2,none⟩) n2 c2)] w (zap w (.bool true)):=by
 subst h1;subst h2
 go_enter Tryz.func30,Tryz.ntmps30
 go_wp2;go_loopw [5] (fun i wr=>∃k:Nat,k<=rows.length/\i= .int .i64 k/\∃m,wr=w.drewN m) (fun i _=>rows.length-(intOf i).toNat)
 case atStart=>exact⟨0,qz _,rfl,0,rfl⟩
 case round=>
  obtain⟨k,hk,rfl,m,rfl⟩:=hrel;by_cases ac:k<rows.length
  ·obtain⟨ga,oa,ca,q1,q2,q3,q4⟩:=nH k ac;obtain⟨gb,ob,cb,p1,p2,p3,p4⟩:=jf k ac;have dK:=an k ac;obtain⟨R,hR⟩:∃R,rows.getD k []=R:=⟨_,rfl⟩;rw[hR] at q1 q2 q4 p1 p2 p4 dK;clear hR nH jf an;go_wp2;go_quiet ((go_at_call 31;exact zap.quiet3 (zkh ga oa _ ca gb ob _ cb R _ rfl rfl dK q4 p4)))
   go_wp2;go_roundw
   case rel=>exact⟨k+1,by omega,by go_num,(by first|exact⟨_,rfl⟩|exact⟨0,rfl⟩|exact zam _ _ _|exact zan _ _ _ _)⟩
   case measure=>simp[intOf];omega
  ·obtain rfl:k=rows.length:=by omega
   go_wp2;go_ret;exact⟨rfl,m,rfl⟩
end
section
open Go.Joins Go.ChangeShapes Go.WideShapes Go.RowKit Go.Deep
def zJd(rows:LL):Prop:=∀r∈rows,∀n∈r,(Lit.int .i64 n).wf=true
section
variable {H:Type} {enc:TypeId × Value->H} {w:World} {base:Nat}
theorem ztm{fuel:Nat}{v:Value}{x:DataW H × List MemPlace}(h:DataW.trod enc Tryz.prog w base (fun _=>true) true fuel 25 [v]=some x):
 ∃a c,∃xs:LI,v= .slice a xs.length c/\zdw w a xs/\xs.length<=maxLen/\∀n∈xs,(Lit.int .i64 n).wf=true:=by
 rcases open_ints Tryz.underlying25 Tryz.underlying3 (by kernel_rfl) h with⟨ni,_⟩|⟨a,l,c,zs,ni,_,hl,hm,hz,_,aA,OV⟩
 ·simp at ni;exact⟨none,0,[],ni,.inl rfl,qz _,by simp⟩
 ·simp at ni;have OW:zs.length=c:=by simpa using hz
  obtain⟨h1,h2,h3⟩:=zpM (w:=w) (a:=some a) (len:=l) (cap:=c) (zs:=zs) (.inr ⟨a,rfl,hl,hm,OW,aA,OV⟩);exact⟨some a,c,zs.take l,by rw[h2];exact ni,h1,by rw[h2];omega,h3⟩
theorem ztn{fuel:Nat}{v:Value}{x:DataW H × List MemPlace}(h:DataW.trod enc Tryz.prog w base (fun _=>true) true fuel 24 [v]=some x):
 ∃a c,∃rows:LL,v= .slice a rows.length c/\zeH w a rows/\rows.length<=maxLen/\(∀j,j<rows.length->(rows.getD j []).length<=maxLen)/\zJd rows:=by
 rcases open_int_rows Tryz.underlying24 Tryz.underlying25 Tryz.underlying3 (by kernel_rfl) (by kernel_rfl) h with⟨ni,_⟩|⟨a,l,c,A,L,C,Z,ni,_,hl,hm,_,hr⟩
 ·simp at ni;exact⟨none,0,[],ni,.inl rfl,qz _,by simp,by intro r hr;cases hr⟩
 ·simp at ni
  have aC:∀r,r<c->zdw w (A r) ((Z r).take (L r))/\((Z r).take (L r)).length=L r/\(∀n∈(Z r).take (L r),(Lit.int .i64 n).wf=true)/\L r<=maxLen:=by
   intro r xN;obtain⟨e0,e1,e2,e3,e4,e5,e6⟩:=hr r xN
   have hq:zdw w (A r) ((Z r).take (L r))/\((Z r).take (L r)).length=L r/\∀n∈(Z r).take (L r),(Lit.int .i64 n).wf=true:=by
    apply zpM (cap:=C r)
    cases hA:A r with
    |none=>
     have uq:=e5 hA;exact .inl ⟨rfl,by omega,uq,List.length_eq_zero_iff.1 (by omega)⟩
    |some a'=>
     exact .inr ⟨a',rfl,e1,e2,e3,fun i hi=>(e6 a' hA).2 i (by omega),e4⟩
   exact⟨hq.1,hq.2.1,hq.2.2,by omega⟩
  refine⟨some a,c,(List.range l).map fun r=>(Z r).take (L r),by simpa using ni,?_,by simp;omega,?_,?_⟩
  ·by_cases h0:l=0
   ·subst h0;exact .inl rfl
   obtain⟨b,o,s⟩:=a;have uq:=(hr 0 (by omega)).1
   cases s with
   |some s=>simp[World.cell?,Addr.add] at uq;split at uq <;> simp_all
   |none=>
    refine .inr ⟨b,o,rfl,World.block_lt_of_cell? w _ uq,fun j hj=>?_⟩;simp only[List.length_map,List.length_range] at hj;have e:((List.range l).map fun r=>(Z r).take (L r)).getD j []=(Z j).take (L j):=by simp[List.getD_eq_getElem?_getD,hj]
    rw[e];obtain⟨q1,q2,_,_⟩:=aC j (by omega);refine⟨A j,C j,?_,q1⟩;rw[q2];have:=(hr j (by omega)).1
    rwa [Addr.add_lit] at this
  ·intro j hj;simp only[List.length_map,List.length_range] at hj;have e:((List.range l).map fun r=>(Z r).take (L r)).getD j []=(Z j).take (L j):=by simp[List.getD_eq_getElem?_getD,hj]
   rw[e];obtain⟨_,q2,_,q4⟩:=aC j (by omega);rw[q2];exact q4
  ·intro r df n hn;obtain⟨j,hj,rfl⟩:=List.mem_map.1 df;exact(aC j (by have:=List.mem_range.1 hj;omega)).2.2.1 n hn
end
theorem zaB{W W':World}{b o:Nat}{v:Value}(hb:Below W.heap.size W W')(h:W.cell? ⟨b,o,none⟩=some v):W'.cell? ⟨b,o,none⟩=some v:=
 (hb.cell (p:=⟨b,o,none⟩) (World.block_lt_of_cell? W _ h)).trans h
end
end Go.Proofs.YtlgcmaoimpgedaaGreatDoor

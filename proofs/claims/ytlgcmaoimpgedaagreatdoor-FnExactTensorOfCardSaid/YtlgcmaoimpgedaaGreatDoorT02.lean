/- Held ArgAt Fin AppRow Set RegApp2 -/
import Derived.Test.YtlgcmaoimpgedaaGreatDoorT01
import Derived.Lib.RabinKarpLaws
set_option maxHeartbeats 2000000
set_option maxRecDepth 100000
set_option linter.unusedSimpArgs false
namespace Go.Proofs.YtlgcmaoimpgedaaGreatDoor
open Go.Value renaming slice->qS
section
open Go.RowKit
def zkE(rows:LL):Prop:=rows.length<=1048576/\(∀j,j<rows.length->(rows.getD j []).length<=1048576)/\zci rows rows.length<=1048576
theorem zBD{rows:LL}{left:Int}(hl:left<=1048576)(h:0<=zmD rows left):zkE rows/\zmD rows left<=1048576:=by
 unfold zmD at*
 split at h
 ·omega
 ·rename_i hh
  rw[if_neg hh];refine⟨⟨by omega,fun j hj=>?_,by omega⟩,by omega⟩;have h1:=zhO rows j hj;have h2:=zki rows (k:=j+1) (n:=rows.length) hj;omega
structure zdy(B E:Nat)(w w':World):Prop where
 os:w'.os=w.os
 tape:w'.tape=w.tape
 output:w'.output=w.output
 size:w.heap.size<=w'.heap.size
 block:∀k,k<w.heap.size->(k<B∨E<=k)->w'.heap[k]? =w.heap[k]?
theorem zdy.refl(B E:Nat)(w:World):zdy B E w w:=⟨rfl,rfl,rfl,qr _,fun _ _ _=>rfl⟩
theorem zdy.trans{B E:Nat}{a b c:World}(h:zdy B E a b)(k:zdy B E b c):zdy B E a c:=
 ⟨k.os.trans h.os,k.tape.trans h.tape,k.output.trans h.output,qt h.size k.size,fun i hi hd=>(k.block i (qL hi h.size) hd).trans (h.block i hi hd)⟩
theorem zdy.of_grown{B E g:Nat}{w w':World}(h:w.grownBy w' (some g))(hB:B<=g)(hE:g<E):zdy B E w w':=
 ⟨h.os,h.tape,h.output,h.size,fun k hk hd=>h.block k hk (by intro e;cases e;omega)⟩
theorem Below.only{b B E:Nat}{w w1 w2:World}(h:Below b w w1)(k:zdy B E w1 w2)(hB:b<=B)(hb:b<=w.heap.size):Below b w w2:=
 ⟨k.os.trans h.os,k.tape.trans h.tape,k.output.trans h.output,qt h.size k.size,fun i hi=>(k.block i (by have:=h.size;omega) (.inl (by omega))).trans (h.block i hi)⟩
theorem Own.same{w w':World}{B g cap:Nat}{xs:LI}(h:Own w B g cap xs)(hs:w'.heap[g]? =w.heap[g]?):Own w' B g cap xs:=by
 refine⟨h.1,?_⟩
 rcases h.2 with⟨h',_⟩|⟨g',cap',cur,h',du,hh,r⟩
 ·simp at h'
 ·refine .inr ⟨g',cap',cur,h',du,?_,r⟩;simp only[Value.slice.injEq,Option.some.injEq,Addr.mk.injEq] at h';obtain⟨⟨rfl,_⟩,_⟩:=h';rw[hs];exact hh
theorem zaE.same{w w':World}{B g cap n k:Nat}{E:TypeId}{cs:List Value}(h:zaE w B E k g cap n cs)(hs:w'.heap[g]? =w.heap[g]?):zaE w' B E k g cap n cs:=by
 refine⟨h.1,?_⟩
 rcases h.2 with⟨h',_⟩|⟨g',cap',cur,h',du,hh,r⟩
 ·simp at h'
 ·refine .inr ⟨g',cap',cur,h',du,?_,r⟩;simp only[Value.slice.injEq,Option.some.injEq,Addr.mk.injEq] at h';obtain⟨⟨rfl,_⟩,_⟩:=h';rw[hs];exact hh
theorem zaI.same{w w':World}{B g cap:Nat}{E:TypeId}{vs:List Value}(h:zaI w B E g cap vs)(hs:w'.heap[g]? =w.heap[g]?):zaI w' B E g cap vs:=by
 refine⟨h.1,?_⟩
 rcases h.2 with⟨h',_⟩|⟨g',cap',cur,h',du,hh,r⟩
 ·simp at h'
 ·refine .inr ⟨g',cap',cur,h',du,?_,r⟩;simp only[Value.slice.injEq,Option.some.injEq,Addr.mk.injEq] at h';obtain⟨⟨rfl,_⟩,_⟩:=h';rw[hs];exact hh
def zek(w:World)(B E g cap:Nat)(xs:LI):Prop:=Own w B g cap xs/\g<E
def zel(w:World)(B E g cap:Nat)(rows:LL):Prop:=∃rs,zaa rs=rows/\zab w B g cap rs/\g<E/\∀r∈rs,r.1<E
def zeE(w:World)(B E g cap:Nat)(l:List Wt):Prop:=∃rs,zaz rs=l/\zas w B g cap rs/\g<E/\∀r∈rs,r.1.1<E
section
variable {w w':World} {B E b B2 E2 g cap:Nat} {xs:LI} {rows:LL} {l:List Wt}
theorem zek.lt(h:zek w B E g cap xs):g<w.heap.size:=h.1.lt
theorem zek.cells(h:zek w B E g cap xs):zag w g 0 xs:=h.1.cells
theorem zek.capLe(h:zek w B E g cap xs):xs.length<=cap:=h.1.capLe
theorem zek.below(h:zek w B E g cap xs)(hb:Below b w w')(hE:E<=b):zek w' B E g cap xs:=⟨h.1.same (hb.block _ (by have:=h.2;omega)),h.2⟩
theorem zek.only(h:zek w B E g cap xs)(hb:zdy B2 E2 w w')(hd:E<=B2∨E2<=B):zek w' B E g cap xs:=⟨h.1.same (hb.block _ h.1.lt (by have:=h.2;have:=h.1.base;omega)),h.2⟩
theorem zel.lt(h:zel w B E g cap rows):g<w.heap.size:=by obtain⟨rs,-,h,-⟩:=h;exact h.lt
theorem zel.rows2(h:zel w B E g cap rows):zal w g 0 rows:=by obtain⟨rs,rfl,h,-⟩:=h;exact h.rows2
theorem zel.capLe(h:zel w B E g cap rows):rows.length<=cap:=by obtain⟨rs,rfl,h,-⟩:=h;have:=h.capLe;simpa [zaa] using this
theorem zcS.same{rs:List RowRef}(h:zcS w B rs)(hs:∀r∈rs,w'.heap[r.1]? =w.heap[r.1]?):zcS w' B rs:=⟨fun r hr=>(h.1 r hr).same (hs r hr),h.2⟩
theorem zel.below(h:zel w B E g cap rows)(hb:Below b w w')(hE:E<=b):zel w' B E g cap rows:=by
 obtain⟨rs,hc,ho,h1,h2⟩:=h;exact⟨rs,hc,⟨ho.1.same (hb.block _ (by omega)),ho.2.same (fun r hr=>hb.block _ (by have:=h2 r hr;omega))⟩,h1,h2⟩
theorem zel.only(h:zel w B E g cap rows)(hb:zdy B2 E2 w w')(hd:E<=B2∨E2<=B):zel w' B E g cap rows:=by
 obtain⟨rs,hc,ho,h1,h2⟩:=h;exact⟨rs,hc,⟨ho.1.same (hb.block _ ho.1.lt (by have:=ho.1.base;omega)),ho.2.same (fun r hr=>hb.block _ (ho.2.1 r hr).lt (by have:=h2 r hr;have:=(ho.2.1 r hr).base;omega))⟩,h1,h2⟩
theorem zeE.lt(h:zeE w B E g cap l):g<w.heap.size:=by obtain⟨rs,-,h,-⟩:=h;exact h.lt
theorem zeE.wrows(h:zeE w B E g cap l):zgo w g 0 l:=by obtain⟨rs,rfl,h,-⟩:=h;exact h.wrows
theorem zeE.below(h:zeE w B E g cap l)(hb:Below b w w')(hE:E<=b):zeE w' B E g cap l:=by
 obtain⟨rs,hc,ho,h1,h2⟩:=h;refine⟨rs,hc,⟨ho.1.same (hb.block _ (by omega)),ho.2.same (fun r hr=>?_)⟩,h1,h2⟩;obtain⟨x,hx,rfl⟩:=List.mem_map.1 hr;exact hb.block _ (by have:=h2 x hx;omega)
theorem zeE.only(h:zeE w B E g cap l)(hb:zdy B2 E2 w w')(hd:E<=B2∨E2<=B):zeE w' B E g cap l:=by
 obtain⟨rs,hc,ho,h1,h2⟩:=h;refine⟨rs,hc,⟨ho.1.same (hb.block _ ho.1.lt (by have:=ho.1.base;omega)),ho.2.same (fun r hr=>?_)⟩,h1,h2⟩;have hl:=(ho.2.1 r hr).lt;have kn:=(ho.2.1 r hr).base;obtain⟨x,hx,rfl⟩:=List.mem_map.1 hr;exact hb.block _ hl (by have:=h2 x hx;omega)
end
theorem zdz(a:Option Addr)(c:Nat)(xs:LI)(w:World)(hx:xs.length<=1048576)(ha:zdw w a xs):
 Calls Tryz.prog 29 #[.slice a xs.length c] w (fun e w'=>∃g cap,e= .returned (qS (some ⟨g,0,none⟩) xs.length cap)/\zek w' w.heap.size w'.heap.size g cap xs/\Below w.heap.size w w'):=
 (zpN a c xs w (by omega) ha).mono fun _ _ ⟨g,cap,he,ho,hb⟩=>⟨g,cap,he,⟨ho,ho.lt⟩,hb⟩
theorem zeY(a:Option Addr)(c:Nat)(rows:LL)(w:World)(hx:zkE rows)(ha:zeH w a rows):
 Calls Tryz.prog 28 #[.slice a rows.length c] w (fun e w'=>∃g cap,e= .returned (qS (some ⟨g,0,none⟩) rows.length cap)/\zel w' w.heap.size w'.heap.size g cap rows/\Below w.heap.size w w'):=
 (zvI a _ c rows w rfl hx.1 (fun j hj=>by have:=hx.2.1 j hj;omega) ha).mono fun _ _ ⟨g,cap,rs,he,hc,ho,hb⟩=>⟨g,cap,he,⟨rs,hc,ho,ho.lt,fun r hr=>(ho.2.1 r hr).lt⟩,hb⟩
theorem zoZ{B E B2 E2 g cap g2 cap2:Nat}{xs:LI}{w:World}(hx:xs.length<=1048576)(h1:zek w B E g cap xs)(h2:zek w B2 E2 g2 cap2 xs):
 Calls Tryz.prog 31 #[(qS (some ⟨g,0,none⟩) xs.length cap),(qS (some ⟨g2,0,none⟩) xs.length cap2)] w (zbb w (.bool true)):=
 (zkh g 0 _ cap g2 0 _ cap2 xs w rfl rfl (by omega) h1.cells h2.cells).mono fun _ _ ⟨he,m,hm⟩=>⟨he,by subst hm;exact zcr w m⟩
theorem zry{B E B2 E2 g cap g2 cap2:Nat}{rows:LL}{w:World}(hx:zkE rows)(h1:zel w B E g cap rows)(h2:zel w B2 E2 g2 cap2 rows):
 Calls Tryz.prog 30 #[(qS (some ⟨g,0,none⟩) rows.length cap),(qS (some ⟨g2,0,none⟩) rows.length cap2)] w (zbb w (.bool true)):=
 (ztl g 0 _ cap g2 0 _ cap2 rows w rfl rfl hx.1 (fun j hj=>by have:=hx.2.1 j hj;omega) h1.rows2 h2.rows2).mono fun _ _ ⟨he,m,hm⟩=>⟨he,by subst hm;exact zcr w m⟩
theorem zee{B E B2 E2 g cap g2 cap2:Nat}{l:List Wt}{w:World}(hx:zgb l)(h1:zeE w B E g cap l)(h2:zeE w B2 E2 g2 cap2 l):
 Calls Tryz.prog 32 #[(qS (some ⟨g,0,none⟩) l.length cap),(qS (some ⟨g2,0,none⟩) l.length cap2)] w (zbb w (.bool true)):=
 zoY g 0 _ cap g2 0 _ cap2 l w rfl rfl hx h1.lt h2.lt h1.wrows h2.wrows
theorem zrz(a:Option Addr)(c:Nat)(rows:LL)(left:Int)(w:World)(hl:0<=left/\left<=1048576)(hn:rows.length<=maxLen)(an:∀j,j<rows.length->(rows.getD j []).length<=maxLen)(ha:zeH w a rows):
 Calls Tryz.prog 27 #[.slice a rows.length c,.int .i64 left] w (fun e w'=>∃L:Int,e= .returned (.int .i64 L)/\(0<=L->zkE rows/\L<=1048576)/\Below w.heap.size w w'):=by
 have hm:maxLen<=9223372036854775807:=by decide+kernel
 exact(zvH a _ c rows left w rfl hl (by omega) (fun j hj=>by have:=an j hj;omega) ha).mono fun _ _ ⟨he,m,hw⟩=>⟨_,he,fun h=>zBD hl.2 h,by subst hw;exact zcr w m⟩
end
section
open Go.Joins Go.ChangeShapes Go.WideShapes Go.RowKit Go.Deep
section
variable {H:Type} {enc:TypeId × Value->H} {w:World} {base b0:Nat} {r:Reach} {v:Value} {d:DataW H} {p:List MemPlace}
theorem zld(hv:Value.okWide Tryz.prog w r b0 25 v)(h:DataW.Trod enc Tryz.prog w base (fun _=>true) true 25 v d p):
 ∃a c,∃xs:LI,v= .slice a xs.length c/\Hid (zdw w a xs)/\xs.length<=maxLen:=by
 obtain⟨a,l,c,rfl⟩:=okWide_slice Tryz.underlying25 hv;obtain⟨fuel,hf⟩:=h;obtain⟨a',c',xs,he,h1,h2,-⟩:=ztm hf;exact⟨a',c',xs,he,h1,h2⟩
theorem zpR(hv:Value.okWide Tryz.prog w r b0 24 v)(h:DataW.Trod enc Tryz.prog w base (fun _=>true) true 24 v d p):
 ∃a c,∃xs:LL,v= .slice a xs.length c/\Hid (zeH w a xs)/\xs.length<=maxLen/\Hid (∀j,j<xs.length->(xs.getD j []).length<=maxLen):=by
 obtain⟨a,l,c,rfl⟩:=okWide_slice Tryz.underlying24 hv;obtain⟨fuel,hf⟩:=h;obtain⟨a',c',xs,he,h1,h2,h3,-⟩:=ztn hf;exact⟨a',c',xs,he,h1,h2,h3⟩
theorem zzc(hv:Value.okWide Tryz.prog w r b0 3 v)(h:DataW.Trod enc Tryz.prog w base (fun _=>true) true 3 v d p):
 ∃x:Int,v= .int .i64 x/\(Lit.int .i64 x).wf=true:=by
 obtain⟨n,rfl⟩:=okWide_int Tryz.underlying3 hv;obtain⟨fuel,hf⟩:=h;obtain⟨k,hk,hx⟩:=DataW.trod_int Tryz.underlying3 hf;simp[Value.cells] at hk;subst hk;exact⟨n,rfl,hx.2⟩
end
end
section
def zaQ:Nat->(Nat->Int)->Int
 |0,_=>0
 |k+1,g=>zaQ k g+g k
def sgn(j:Nat):Int:=if j % 2=0 then 1 else -1
def zdi(row:LI)(j:Nat):LI:=row.take j++row.drop (j+1)
def zar(m:LL)(j:Nat):LL:=(m.drop 1).map fun row=>zdi row j
def det:Nat->LL->Int
 |0,_=>1
 |n+1,m=>zaQ (n+1) fun j=>sgn j*ent m 0 j*det n (zar m j)
def Sq(n:Nat)(m:LL):Prop:=m.length=n/\(∀i,i<n->(m.getD i []).length=n)/\∀i j,-3<=ent m i j/\ent m i j<=3
def zin:Nat->Int
 |0=>1
 |n+1=>(n+1)*(3*zin n)
theorem zhP(g:Nat->Int)(b:Int)(k:Nat)(h:∀j,j<k→-b<=g j/\g j<=b):-(k*b)<=zaQ k g/\zaQ k g<=k*b:=by
 induction k with
 |zero=>simp[zaQ]
 |succ k ih=>
  have h1:=ih (fun j hj=>h j (by omega));have h2:=h k (by omega);simp only[zaQ];have e:((k+1:Nat):Int)*b=k*b+b:=by rw[Int.natCast_add,Int.add_mul];simp
  rw[e];omega
theorem zmF{row:LI}{j:Nat}(hj:j<row.length):(zdi row j).length=row.length-1:=by
 simp[zdi];omega
theorem zle(row:LI)(j k:Nat):(zdi row j).getD k 0=if k<j/\k<row.length then row.getD k 0 else row.getD (j+1+(k-min j row.length)) 0:=by
 unfold zdi;by_cases h:k<j/\k<row.length
 ·rw[if_pos h];simp only[List.getD];rw[List.getElem?_append_left (by simp;omega),List.getElem?_take,if_pos h.1]
 ·rw[if_neg h];simp only[List.getD];rw[List.getElem?_append_right (by simp;omega),List.getElem?_drop];simp only[List.length_take]
theorem zfS{n:Nat}{m:LL}{j:Nat}(h:Sq (n+1) m)(hj:j<n+1):Sq n (zar m j):=by
 obtain⟨h1,h2,h3⟩:=h
 have hg:∀i,(zar m j).getD i []=zdi (m.getD (i+1) []) j:=by
  intro i;unfold zar;simp only[List.getD,List.getElem?_map,List.getElem?_drop];rw[Nat.add_comm 1 i]
  cases m[i+1]? with
  |none=>simp[zdi]
  |some r=>simp
 refine⟨by simp[zar,h1],fun i hi=>?_,fun i k=>?_⟩
 ·rw[hg,zmF (by rw[h2 _ (by omega)];exact hj),h2 _ (by omega)];omega
 ·unfold ent;rw[hg,zle]
  split
  ·exact h3 _ _
  ·exact h3 _ _
theorem zjF:∀(n:Nat) (m:LL),Sq n m→-(zin n)<=det n m/\det n m<=zin n:=by
 intro n
 induction n with
 |zero=>intro m _;simp[det,zin]
 |succ n ih=>
  intro m hm
  have cE:∀j,j<n+1→-(3*zin n)<=sgn j*ent m 0 j*det n (zar m j)/\sgn j*ent m 0 j*det n (zar m j)<=3*zin n:=by
   intro j hj;have h1:=ih _ (zfS hm hj);have h2:=hm.2.2 0 j;generalize det n (zar m j)=d at*;generalize ent m 0 j=x at*;generalize zin n=D at*;have hx:x=-3∨x=-2∨x=-1∨x=0∨x=1∨x=2∨x=3:=by omega
   unfold sgn
   split <;> rcases hx with rfl|rfl|rfl|rfl|rfl|rfl|rfl <;> omega
  have:=zhP _ _ (n+1) cE;simpa [det,zin] using this
end
section
open Go.RowKit
theorem zaI.new{w:World}{B:Nat}{E:TypeId}(v:Value)(_hv:v.oneCell'=true)(hB:B<=w.heap.size):zaI (w.alloc (.cells #[v] E)) B E w.heap.size 1 [v]:=
 World.ownsRow_lit w #[v] 1 hB (by decide) rfl
theorem zkF{w:World}{B g cap:Nat}{vs:List Value}(ai:zaI w B 25 g cap vs)(v:Value)(hv:v.oneCell'=true)(am:vs.length+1<=1048576)(ty:TypeId):
 ∃g' cap' w',(Builtin.append_ #[24,24] ty #[(qS (some ⟨g,0,none⟩) vs.length cap),(qS (some ⟨w.heap.size,0,none⟩) 1 1)]).run Tryz.prog (w.alloc (.cells #[v] 25))= .ok (qS (some ⟨g',0,none⟩) (vs.length+1) cap') w'/\
  zaI w' B 25 g' cap' (vs++[v])/\w.grownBy w' (some g)/\(g'=g∨w.heap.size<g'):=by
 obtain⟨i0,hi,fP,eJ,gK⟩:=info_parts zkC;have lZ:=ai.base;have ac:=ai.lt;have dr:zaI (w.alloc (.cells #[v] 25)) B 25 g cap vs:=ai.alloc _;have aA:(w.alloc (.cells #[v] 25)).cell? ⟨w.heap.size,0,none⟩=some v:=(zaI.new (B:=w.heap.size) v hv (qr _)).cell 0 (by simp)
 have dp:∀j u,([v]:List Value)[j]? =some u->(w.alloc (.cells #[v] 25)).cell? ((⟨w.heap.size,0,none⟩:Addr).add j)=some u:=by
  intro j u hu;have hj:j=0:=by have:=(List.getElem?_eq_some_iff.1 hu).1;simp at this;exact this
  subst hj;simp at hu;subst hu;rw[Addr.add_lit];exact aA
 have h1:∀u∈([v]:List Value),u.oneCell'=true:=by simp[hv]
 have hl:([v]:List Value).length=1*i0.size:=by simp[eJ]
 obtain⟨v',w',hr,ho,hg,-⟩:=run_append_own (P:=Tryz.prog) (w.alloc (.cells #[v] 25)) B 24 ty 25 i0 (.slice none 0 0) 1 24 Tryz.underlying24 hi fP eJ gK rfl (by decide) _ vs.length _ dr ⟨w.heap.size,0,none⟩ 1 1
  [v] (by simp) dp h1 (by unfold maxLen;omega) (by omega) (by simp;omega)
 have bn:w.grownBy w' (some g):=⟨hg.os,hg.tape,hg.output,qt (by simp) hg.size,fun k hk ao=>(hg.block k (by simp;omega) ao).trans (Below.heap_alloc _ _ _ hk)⟩
 have fin:∀g' cap',v'=(qS (some ⟨g',0,none⟩) (vs.length+1) cap')->(g'=g∨w.heap.size<g')->∃g' cap' w',(Builtin.append_ #[24,24] ty #[(qS (some ⟨g,0,none⟩) vs.length cap),(qS (some ⟨w.heap.size,0,none⟩) 1 1)]).run Tryz.prog (w.alloc (.cells #[v] 25))= .ok (qS (some ⟨g',0,none⟩) (vs.length+1) cap') w'/\
  zaI w' B 25 g' cap' (vs++[v])/\w.grownBy w' (some g)/\(g'=g∨w.heap.size<g'):=by
  intro g' cap' uw aY;subst uw;refine⟨g',cap',w',hr,?_,bn,aY⟩;unfold zaI;rw[qA];exact ho
 by_cases iM:vs.length+1<=cap
 ·rcases dr.2 with⟨h',_⟩|⟨g1,cap1,cur,uw,hb,hh,hn,hm,hs,bQ⟩
  ·simp at h'
  simp only[Value.slice.injEq,Option.some.injEq,Addr.mk.injEq,and_true,true_and] at uw;obtain⟨rfl,rfl⟩:=uw;have jf:=run_append_room (P:=Tryz.prog) (w.alloc (.cells #[v] 25)) 24 ty 25 i0 Tryz.underlying24 hi g vs.length cap cur hh ⟨w.heap.size,0,none⟩ 1 1 [v] hl dp h1 iM (by rw[eJ] at*;simp;omega);rw[jf] at hr;simp only[Result.ok.injEq] at hr;exact fin g cap hr.1.symm (.inl rfl)
 ·have jf:=run_append_grow (P:=Tryz.prog) (w.alloc (.cells #[v] 25)) 24 ty 25 i0 (.slice none 0 0) Tryz.underlying24 hi fP ⟨g,0,none⟩ vs.length cap vs (by simp[eJ]) (World.ownsRow.cells dr rfl) ⟨w.heap.size,0,none⟩ 1 1 _ hl dp (by omega) (by omega) (growslice_fits (by omega) (by rw[gK];omega));rw[jf] at hr;simp only[Result.ok.injEq] at hr;exact fin _ _ hr.1.symm (.inr (by simp))
theorem zab.push{w w':World}{B g cap g' cap':Nat}{rs:List RowRef}{r:RowRef}(h:zab w B g cap rs)(hr:Own w B r.1 r.2.1 r.2.2)(ao:∀s∈rs,s.1≠r.1)
 (ho:zaI w' B 25 g' cap' (rs.map zah++[zah r])) (hg:w.grownBy w' (some g)):zab w' B g' cap' (rs++[r]):=by
 refine⟨by rw[List.map_append];exact ho,?_⟩;have bm:∀s∈rs,some s.1≠some g:=fun s hs e=>h.1.ne (h.2.1 s hs).toV (by decide) (Option.some.inj e).symm
 have aP:some r.1≠some g:=fun e=>h.1.ne hr.toV (by decide) (Option.some.inj e).symm
 exact(zcS.append (w:=w') (r:=r) ⟨fun s hs=>(h.2.1 s hs).grown hg (bm s hs),h.2.2⟩ (hr.grown hg aP) ao)
theorem zao{w:World}{ops:Array Oper}{rest:List Oper}{o:Oper}{a:Act}{Q:Exit->Act->World->Prop}(dH:o.guard=none)(s x:Operand)
 (ho:o.op= .call {callee:= .builtin .append,args:=#[s,x],argTypes:=#[24,24]})
 (B g cap n H:Nat) (rs:List RowRef) (r:RowRef) (W:World) (hn:rs.length=n) (hW:W=w.alloc (.cells #[zah r] 25)) (hH:w.heap.size=H) (ai:zab w B g cap rs) (hr:Own w B r.1 r.2.1 r.2.2) (ao:∀s∈rs,s.1≠r.1)
 (hs:a.eval s=(qS (some ⟨g,0,none⟩) n cap)) (hx:a.eval x=(qS (some ⟨H,0,none⟩) 1 1)) (am:n+1<=1048576)
 (h:∀g' cap' w',zab w' B g' cap' (rs++[r])->w.grownBy w' (some g)->(g'=g∨w.heap.size<g')->wpList Tryz.prog ops Q rest (a.put o.dst (qS (some ⟨g',0,none⟩) (n+1) cap')) w'):
 wpList Tryz.prog ops Q (o::rest) a W:=by
 subst hn;subst hW;subst hH;have hl:(rs.map zah).length=rs.length:=by simp
 obtain⟨g',cap',w',cz,h2,h3,h4⟩:=zkF ai.1 (zah r) rfl (by rw[hl];exact am) o.type;rw[hl] at cz;refine wpList_plain dH fun K hK=>?_
 unfold Oper.wp execOp;simp only[ho,resolve,invoke,builtin,Sem.run_bind,Sem.run_pure,Result.andThen_ok,List.map_toArray,List.map_cons,List.map_nil,hs,hx,cz];exact hK _ _ (h g' cap' w' (ai.push hr ao h2 h3) h3 h4)
theorem zab.empty{w:World}{B:Nat}(hB:B<=w.heap.size):zab (w.alloc (.cells #[] 25)) B w.heap.size 0 []:=
 ⟨World.ownsRow_lit w #[] 0 hB (by decide) rfl,⟨by simp,by simp⟩⟩
end
section
open Go.RowKit
def zff(m t:Nat):List Nat:=(List.range t).filter fun i=>decide (m / 2 ^ i % 2=1)
def zcI(m t:Nat):LI:=(zff m t).map fun i:Nat=>(i:Int)
def zbL(m:Nat):LI:=zcI m 4
theorem zoC(m t:Nat):zff m (t+1)=if m / 2 ^ t % 2=1 then zff m t++[t] else zff m t:=by
 unfold zff;rw[List.range_succ,List.filter_append]
 split
 ·rename_i h;simp[h]
 ·rename_i h;simp[h]
theorem zrA{m t:Nat}(h:m / 2 ^ t % 2=1):zcI m (t+1)=zcI m t++[(t:Int)]:=by
 unfold zcI;rw[zoC,if_pos h];simp
theorem zlf{m t:Nat}(h:¬m / 2 ^ t % 2=1):zcI m (t+1)=zcI m t:=by
 unfold zcI;rw[zoC,if_neg h]
theorem zmG(m t:Nat):(zcI m t).length<=t:=by
 unfold zcI zff;rw[List.length_map];exact qt (List.length_filter_le _ _) (by simp)
theorem zpS{m t:Nat}(h:m / 2 ^ t=0):∀k,zcI m (t+k)=zcI m t:=by
 intro k
 induction k with
 |zero=>rfl
 |succ k ih=>
  rw[<-Nat.add_assoc,zlf,ih]
  have:m / 2 ^ (t+k)=0:=by
   rw[Nat.pow_add,<-Nat.div_div_eq_div_mul,h];simp
  rw[this];decide
theorem zKO{q:Nat}(hq:q<=32):bits BinOp.and IntKind.i64 (q:Int) 1=((q % 2:Nat):Int):=by
 rw[and_one _ (by omega)]
theorem zwQ(m t:Nat)(hm:m<=15):bits BinOp.and IntKind.i64 ((m:Int) / 2 ^ t) 1=((m / 2 ^ t % 2:Nat):Int):=by
 have e:((m:Int) / 2 ^ t)=((m / 2 ^ t:Nat):Int):=by simp
 have h:m / 2 ^ t<=m:=Nat.div_le_self _ _;rw[e,zKO (by omega)]
theorem zkG(m:Nat)(w:World)(hm:m<=15):Calls Tryz.prog 146 #[.int .i64 m] w (zav w (zbL m)):=by
 go_enter Tryz.func146,Tryz.ntmps146
 go_wp2;go_loopw [3,4] (fun s i wr=>∃t g' c' n':Nat,t<=4/\i= .int .i64 t/\s=(qS (some ⟨g',0,none⟩) n' c')/\Hid ((zcI m t).length=n')/\Own wr w.heap.size g' c' (zcI m t)/\Below w.heap.size w wr) (fun _ i _=>4-(intOf i).toNat)
 case atStart=>exact⟨0,w.heap.size,0,0,by omega,rfl,rfl,rfl,Own.empty (w:=w) (qr _),(Below.refl _ _).alloc (qr _) _⟩
 case round=>
  obtain⟨t,g',c',n',ht,rfl,rfl,hn,ho,hb⟩:=hrel;have py:=zwQ m t hm;have iX:=zmG m t;rw[hn.out] at iX;have eI:((m:Int) / 2 ^ t)=((m / 2 ^ t:Nat):Int):=by simp
  by_cases aW:0<m / 2 ^ t
  ·have Pb:t<4:=by
    rcases Nat.lt_or_ge t 4 with h|h
    ·exact h
    ·obtain rfl:t=4:=by omega
     have:m / 2 ^ 4=0:=by omega
     omega
   have Mf:=qd Pb;have Mg:(0:Int)<(m:Int) / 2 ^ t:=by rw[eI];omega
   by_cases jl:m / 2 ^ t % 2=1
   ·rw[jl] at py;have hS:=zrA jl;have HS:=qd hS;clear hS eI aW jl;go_wp2_with (at_builtin;refine zay rfl _ _ rfl w.heap.size g' c' n' (zcI m t) (t:Int) hn.out ho rfl rfl (by omega) ?_);intro g2 c2 w2 ar aP _;go_wp2;go_roundw
    case rel=>
     rw[<-HS.out] at ar;exact⟨t+1,g2,c2,n'+1,by omega,by go_num,rfl,by show _=_;rw[HS.out,qA,hn.out];rfl,ar,hb.grown aP hb.size (by intro j hj;cases hj;exact ho.base)⟩
    case measure=>simp[intOf];omega
   ·have aN:m / 2 ^ t % 2=0:=by omega
    rw[aN] at py;have hS:=zlf jl;have HS:=qd hS;clear hS eI aW jl aN;go_wp2;go_roundw
    case rel=>exact⟨t+1,g',c',n',by have:=Mf.out;omega,by go_num,rfl,by show _=_;rw[HS.out];exact hn.out,by rw[HS.out];exact ho,hb⟩
    case measure=>have:=Mf.out;simp[intOf];omega
  ·have hz:m / 2 ^ t=0:=Nat.eq_zero_of_not_pos aW;have SP:(m:Int) / 2 ^ t=0:=by rw[eI,hz];rfl
   have hS:zbL m=zcI m t:=by
    have:=zpS hz (4-t);have h4:t+(4-t)=4:=by omega
    rw[h4] at this;exact this
   have HS:=qd hS;clear hS eI aW hz py;go_wp2;go_ret;have Pd:=HS.out;rw[Pd];exact zav.mk' g' c' hn.out ho hb
def zaP(c:LL)(i:Int)(s:LI):LI:=s.map fun j=>ent c i.toNat j.toNat
def zaW(c:LL)(s:LI):LL:=s.map fun i=>zaP c i s
theorem zcA(rs:List RowRef)(r:RowRef):zaa (rs++[r])=zaa rs++[r.2.2]:=by simp[zaa]
theorem zef{α:Type}(f:Int->α)(s:LI)(t:Nat)(ht:t<s.length):(s.take (t+1)).map f=(s.take t).map f++[f (s.getD t 0)]:=by
 rw[qT ht,List.map_append];simp[List.getD,ht]
theorem zjG(gc oc n cc g o m cs:Nat)(c:LL)(s:LI)(w:World)(hn:c.length=n)(hm:s.length=m)(ko:s.length<=4)(an:∀j,j<c.length->(c.getD j []).length=c.length)
 (hs:∀t,t<s.length->0<=s.getD t 0/\s.getD t 0<c.length) (ah:gc<w.heap.size) (hg:g<w.heap.size) (hr:zal w gc oc c) (hc:zag w g o s):
 Calls Tryz.prog 186 #[(qS (some ⟨gc,oc,none⟩) n cc),(qS (some ⟨g,o,none⟩) m cs)] w (zbC w (zaW c s)):=by
 subst hn;subst hm
 go_enter Tryz.func186,Tryz.ntmps186
 go_wp2;go_loopw [5,14] (fun x i wr=>∃(t g' c':Nat) (rs:List RowRef),t<=s.length/\i= .int .i64 t/\x=(qS (some ⟨g',0,none⟩) t c')/\Hid (rs.length=t)/\Hid (zaa rs=(s.take t).map fun i=>zaP c i s)/\zab wr w.heap.size g' c' rs/\Below w.heap.size w wr) (fun _ i _=>s.length-(intOf i).toNat)
 case atStart=>exact⟨0,w.heap.size,0,[],qz _,rfl,rfl,rfl,rfl,zab.empty (qr _),(Below.refl _ _).alloc (qr _) _⟩
 case round=>
  obtain⟨t,g',c',rs,ht,rfl,rfl,cK,ak,ho,hb⟩:=hrel;by_cases ac:t<s.length
  ·have p1:=hc.below hb hg t ac;have aL:=hs t ac;have bQ:=zef (fun i=>zaP c i s) s t ac;obtain⟨iN,pz⟩:∃iN:Nat,s.getD t 0=iN:=⟨(s.getD t 0).toNat,by omega⟩;rw[pz] at p1 aL bQ;have nL:iN<c.length:=by omega
   have fS:=qd bQ;clear bQ aL pz;obtain⟨wo,rfl⟩:∃wo:World,wo=wr:=⟨_,rfl⟩;go_wp2;go_loopw [8,21] (fun x i wr=>∃k gr cr:Nat,k<=s.length/\i= .int .i64 k/\x=(qS (some ⟨gr,0,none⟩) k cr)/\Own wr wo.heap.size gr cr (zaP c iN (s.take k))/\Below wo.heap.size wo wr) (fun _ i _=>s.length-(intOf i).toNat)
   case atStart=>exact⟨0,wo.heap.size,0,qz _,rfl,rfl,Own.empty (qr _),(Below.refl _ _).alloc (qr _) _⟩
   case round=>
    obtain⟨k,gr,cr,hk,rfl,rfl,aY,ae⟩:=hrel;have du:Below w.heap.size w wr:=hb.trans (ae.mono hb.size);by_cases dN:k<s.length
    ·have p2:=hc.below du hg k dN;have fD:=hs k dN;have eL:=zef (fun j=>ent c iN j.toNat) s k dN;obtain⟨jN,wb⟩:∃jN:Nat,s.getD k 0=jN:=⟨(s.getD k 0).toNat,by omega⟩;rw[wb] at p2 fD eL;rw[Int.toNat_natCast] at eL;have BL:jN<c.length:=by omega
     have lh:=qd eL;clear eL fD wb p1;obtain⟨ga,oa,ca,q1,q2,q3,q4⟩:=hr.below du ah iN nL;have mf:=an iN nL;have e2:=q4 jN (by rw[mf];exact BL);rw[mf] at q1;have dI:(c.getD iN []).getD jN 0=ent c iN jN:=rfl;rw[dI] at e2;have bP:(zaP c iN (s.take k)).length=k:=by simp[zaP];omega
     have fE:=qd bP;clear bP mf dI;generalize ent c iN jN=y at*;go_wp2_with (at_builtin;refine zay rfl _ _ rfl wo.heap.size gr cr k (zaP c iN (s.take k)) y fE.out aY rfl rfl (by omega) ?_);intro g3 c3 w3 al aK _;go_wp2;go_roundw
     case rel=>
      refine⟨k+1,g3,c3,by omega,by go_num,rfl,?_,ae.grown aK ae.size (by intro j hj;cases hj;exact aY.base)⟩;have:=lh.out;have e:zaP c iN (s.take (k+1))=zaP c iN (s.take k)++[y]:=this;rw[e];exact al
     case measure=>simp[intOf];omega
    ·obtain rfl:k=s.length:=by omega
     rw[qF (qr _)] at aY;have bP:(zaP c iN s).length=s.length:=by simp[zaP]
     have ar:=ho.below (ae.mono (qr _));have ao:∀r∈rs,r.1≠gr:=fun r hr=>by have h1:=(ho.2.1 r hr).lt;have h2:=aY.base;omega
     have dJ:=aY.mono hb.size;have aC:zah (gr,cr,zaP c iN s)=(qS (some ⟨gr,0,none⟩) s.length cr):=by unfold zah;rw[bP]
     clear p1 bP;go_wp2_with (at_builtin;refine zao rfl _ _ rfl w.heap.size g' c' t wr.heap.size rs (gr,cr,zaP c iN s) _ cK.out (by rw[aC]) rfl ar dJ ao rfl rfl (by omega) ?_);intro g4 c4 w4 aw aT _;go_wp2;go_roundw
     case rel=>
      refine⟨t+1,g4,c4,rs++[(gr,cr,zaP c iN s)],by omega,by go_num,rfl,by show _=_;rw[qA,cK.out];rfl,?_,aw,du.grown aT du.size (by intro j hj;cases hj;exact ho.base)⟩;show _=_;rw[zcA,ak.out,fS.out]
     case measure=>simp[intOf];omega
  ·obtain rfl:t=s.length:=by omega
   have aH:=ak.out;rw[qF (qr _)] at aH;have fi:=qd aH;clear aH;go_wp2;go_ret;refine⟨g',c',rs,?_,fi.out,ho,hb⟩;simp[zaW]
end
section
open Go.RowKit
theorem zdU{ops:Array Oper}{W:World}{o:Oper}{a:Act}{K:Act->World->Prop}{Q:Exit->Act->World->Prop}{E:Prop}(dH:o.guard=none)(s x:Operand)
 (ho:o.op= .call {callee:= .builtin .append,args:=#[s,x],argTypes:=#[25,25]})
 (B g cap n g2 o2 n2 c2:Nat) (xs ys:LI) (hn:xs.length=n) (da:ys.length=n2) (ai:Own W B g cap xs) (hc:zag W g2 o2 ys) (hs:a.eval s=(qS (some ⟨g,0,none⟩) n cap)) (hx:a.eval x=(qS (some ⟨g2,o2,none⟩) n2 c2)) (am:n+n2<=1099511627776)
 (h:∀g' cap' w',Own w' B g' cap' (xs++ys)->W.grownBy w' (some g)->(g'=g∨g'=W.heap.size)->K (a.put o.dst (qS (some ⟨g',0,none⟩) (n+n2) cap')) w'):
 if Region.wanted o (yielded ops a.tmps)=true then Oper.wp Tryz.prog o a W K Q else E:=by
 subst hn;subst da;have hw:Region.wanted o (yielded ops a.tmps)=true:=by simp[Region.wanted,dH]
 rw[if_pos hw];obtain⟨g',cap',w',hr,h1,h2,h3⟩:=zfr ai hc (c2:=c2) am o.type;unfold Oper.wp execOp;simp only[ho,resolve,invoke,builtin,Sem.run_bind,Sem.run_pure,Result.andThen_ok,List.map_toArray,List.map_cons,List.map_nil,hs,hx,hr];exact h g' cap' w' h1 h2 h3
theorem zit{ops:Array Oper}{W:World}{o:Oper}{a:Act}{K:Act->World->Prop}{Q:Exit->Act->World->Prop}{E:Prop}(dH:o.guard=none)(s x:Operand)
 (ho:o.op= .call {callee:= .builtin .append,args:=#[s,x],argTypes:=#[25,25]})
 (B g cap n n2 c2:Nat) (A:Option Addr) (xs ys:LI) (hn:xs.length=n) (da:ys.length=n2) (ai:Own W B g cap xs) (hs:a.eval s=(qS (some ⟨g,0,none⟩) n cap)) (hx:a.eval x= .slice A n2 c2) (hc:∃g2 o2,A=some ⟨g2,o2,none⟩/\zag W g2 o2 ys) (am:n+n2<=1099511627776)
 (h:∀g' cap' w',Own w' B g' cap' (xs++ys)->W.grownBy w' (some g)->(g'=g∨g'=W.heap.size)->K (a.put o.dst (qS (some ⟨g',0,none⟩) (n+n2) cap')) w'):
 if Region.wanted o (yielded ops a.tmps)=true then Oper.wp Tryz.prog o a W K Q else E:=by
 obtain⟨g2,o2,rfl,aH⟩:=hc;exact zdU dH s x ho B g cap n g2 o2 n2 c2 xs ys hn da ai aH hs hx am h
theorem zjH{ops:Array Oper}{w:World}{o:Oper}{a:Act}{K:Act->World->Prop}{Q:Exit->Act->World->Prop}{E:Prop}(dH:o.guard=none)(s x:Operand)
 (ho:o.op= .call {callee:= .builtin .append,args:=#[s,x],argTypes:=#[24,24]})
 (B g cap n H:Nat) (rs:List RowRef) (r:RowRef) (W:World) (hn:rs.length=n) (hW:W=w.alloc (.cells #[zah r] 25)) (hH:w.heap.size=H) (ai:zab w B g cap rs) (hr:Own w B r.1 r.2.1 r.2.2) (ao:∀s∈rs,s.1≠r.1)
 (hs:a.eval s=(qS (some ⟨g,0,none⟩) n cap)) (hx:a.eval x=(qS (some ⟨H,0,none⟩) 1 1)) (am:n+1<=1048576)
 (h:∀g' cap' w',zab w' B g' cap' (rs++[r])->w.grownBy w' (some g)->(g'=g∨w.heap.size<g')->K (a.put o.dst (qS (some ⟨g',0,none⟩) (n+1) cap')) w'):
 if Region.wanted o (yielded ops a.tmps)=true then Oper.wp Tryz.prog o a W K Q else E:=by
 subst hn;subst hW;subst hH;have hw:Region.wanted o (yielded ops a.tmps)=true:=by simp[Region.wanted,dH]
 rw[if_pos hw];have hl:(rs.map zah).length=rs.length:=by simp
 obtain⟨g',cap',w',cz,h2,h3,h4⟩:=zkF ai.1 (zah r) rfl (by rw[hl];exact am) o.type;rw[hl] at cz;unfold Oper.wp execOp;simp only[ho,resolve,invoke,builtin,Sem.run_bind,Sem.run_pure,Result.andThen_ok,List.map_toArray,List.map_cons,List.map_nil,hs,hx,cz];exact h g' cap' w' (ai.push hr ao h2 h3) h3 h4
end
end Go.Proofs.YtlgcmaoimpgedaaGreatDoor

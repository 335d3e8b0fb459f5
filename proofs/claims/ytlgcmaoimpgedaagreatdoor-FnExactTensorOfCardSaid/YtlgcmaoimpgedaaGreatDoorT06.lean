/- Still Cmp In RootS Pos Pos2 Nf -/
import Derived.Test.YtlgcmaoimpgedaaGreatDoorT04
set_option maxHeartbeats 2000000
set_option maxRecDepth 100000
set_option linter.unusedSimpArgs false
namespace Go.Proofs.YtlgcmaoimpgedaaGreatDoor
open Go.Value renaming slice->qS
section
namespace Game
end Game
open Go.RowKit
def zie(w:World)(B0:Nat)(rows:LL)(e:Ending)(w':World):Prop:=
 ∃g cap rs,e= .returned (qS (some ⟨g,0,none⟩) rows.length cap)/\zaa rs=rows/\zab w' B0 g cap rs/\w.heap.size<=g/\Below w.heap.size w w'
theorem zie.mk'{w w':World}{B0:Nat}{rows:LL}{n:Nat}(g cap:Nat)(rs:List RowRef)(hl:rs.length=n)(hc:zaa rs=rows)(ho:zab w' B0 g cap rs)(hg:w.heap.size<=g)(hb:Below w.heap.size w w'):
 zie w B0 rows (.returned (qS (some ⟨g,0,none⟩) n cap)) w':=by
 subst hl;subst hc;exact⟨g,cap,rs,by rw[zac],rfl,ho,hg,hb⟩
section
variable {w a b:World} {B B':Nat}
theorem zaf(h:Below B w a)(hs:∃n,b=a.drewN n):Below B w b:=by obtain⟨n,rfl⟩:=hs;exact below_drewN h n
theorem zab.still{g cap:Nat}{rs:List RowRef}(h:zab a B g cap rs)(hs:∃n,b=a.drewN n):zab b B g cap rs:=by obtain⟨n,rfl⟩:=hs;exact h
theorem Own.still{g cap:Nat}{xs:LI}(h:Own a B g cap xs)(hs:∃n,b=a.drewN n):Own b B g cap xs:=by obtain⟨n,rfl⟩:=hs;exact h
theorem zag.still{g o:Nat}{xs:LI}(h:zag a g o xs)(hs:∃n,b=a.drewN n):zag b g o xs:=by obtain⟨n,rfl⟩:=hs;exact h
theorem zal.still{g o:Nat}{xs:LL}(h:zal a g o xs)(hs:∃n,b=a.drewN n):zal b g o xs:=by obtain⟨n,rfl⟩:=hs;exact h
theorem zau(hs:∃n,b=a.drewN n)(p:Addr):b.cell? p=a.cell? p:=by obtain⟨n,rfl⟩:=hs;rfl
end
theorem zbg{a b d:World}(h:∃n,b=a.drewN n)(k:∃n,d=b.drewN n):∃n,d=a.drewN n:=by
 obtain⟨n,rfl⟩:=h;obtain⟨m,rfl⟩:=k;exact⟨n+m,by rw[World.drewN_drewN]⟩
structure zcT(put:LL->LL)(H:Nat)(rs:List RowRef)(i:Nat)(acc:List RowRef)(pl:Bool):Prop where
 blocks:∀s∈acc,s∈rs.take i∨H<=s.1
 fin:zaa acc++(if pl then zaa (rs.drop i) else put (zaa (rs.drop i)))=put (zaa rs)
 len:acc.length<=i+1
 lenF:pl=false->acc.length=i
section
variable {put:LL->LL} {H:Nat} {rs acc:List RowRef} {i:Nat} {pl:Bool}
theorem zcT.start:zcT put H rs 0 [] false:=⟨by simp,by simp[zaa],by simp,by simp⟩
theorem zlY(rs:List RowRef){i:Nat}(hi:i<rs.length):zaa (rs.drop i)=rs[i].2.2::zaa (rs.drop (i+1)):=by
 rw[List.drop_eq_getElem_cons hi];rfl
theorem zcT.step(h:zcT put H rs i acc pl)(hi:i<rs.length)(new:List RowRef)(pl':Bool)(db:∀s∈new,H<=s.1)(hl:acc.length+new.length<=i+1)(hF:pl'=false->pl=false/\new=[])
 (hf:(if pl then zaa (rs.drop i) else put (zaa (rs.drop i)))=zaa new++rs[i].2.2::(if pl' then zaa (rs.drop (i+1)) else put (zaa (rs.drop (i+1))))):
 zcT put H rs (i+1) (acc++new++[rs[i]]) pl':=by
 refine⟨?_,?_,by simp;omega,?_⟩
 ·intro s hs;rw[List.append_assoc,List.mem_append,List.mem_append,List.mem_singleton] at hs
  rcases hs with h1|h1|h1
  ·rcases h.blocks s h1 with h2|h2
   ·left;rw[qT hi];exact List.mem_append_left _ h2
   ·exact .inr h2
  ·exact .inr (db s h1)
  ·left;rw[qT hi,h1];exact List.mem_append_right _ (by simp)
 ·rw[<-h.fin,hf];simp[zaa]
 ·intro e;have:=hF e;rw[this.2,List.append_nil,qA,h.lenF this.1];rfl
theorem zcT.last(h:zcT put H rs rs.length acc false)(r:RowRef)(hp:put []=[r.2.2]):zaa (acc++[r])=put (zaa rs):=by
 have:=h.fin;simp[zaa] at this ⊢;rw[hp] at this;exact this
theorem zcT.done(h:zcT put H rs rs.length acc true):zaa acc=put (zaa rs):=by
 have:=h.fin;simpa [zaa] using this
theorem zcT.ne(h:zcT put H rs i acc pl)(ez:(rs.map (·.1)).Nodup)(hi:i<rs.length)(hH:rs[i].1<H):∀s∈acc,s.1≠rs[i].1:=by
 intro s hs e
 rcases h.blocks s hs with h1|h1
 ·obtain⟨t,ht,rfl⟩:=List.mem_iff_getElem.1 h1;rw[List.length_take] at ht;rw[List.getElem_take] at e;have kS:t<rs.length:=by omega
  have h2:(rs.map (·.1))[t]'(by simpa using kS)=(rs.map (·.1))[i]'(by simpa using hi):=by simpa using e
  have h3:=(List.getElem_inj ez).1 h2;omega
 ·omega
end
end
section
open Go.RowKit Game
theorem zhz(x:Int)(w:World):Calls Tryz.prog 169 #[.int .i64 x] w (zap w (.bool false)):=by
 go_enter Tryz.func169,Tryz.ntmps169
 go_wp2;go_ret;exact⟨zaK (by simp),0,rfl⟩
def zcM(x y:Int):Int:=if x<y then -1 else if y<x then 1 else 0
theorem zlk(x y:Int)(w:World):Calls Tryz.prog 126 #[.int .i64 x,.int .i64 y] w (zap w (.int .i64 (zcM x y))):=by
 have H:Hid (zcM x y=if x<y then -1 else if y<x then 1 else 0):=rfl
 rcases Int.lt_trichotomy x y with h|h|h
 ·have hv:zcM x y=-1:=by rw[H.out,if_pos h]
  have Hv:=qd hv;clear hv
  go_enter Tryz.func126,Tryz.ntmps126
  go_wp2_with fail;refine(zhz x _).mono ?_;rintro e w1 ⟨rfl,m1,rfl⟩;go_wp2_with fail;refine(zhz y _).mono ?_;rintro e w2 ⟨rfl,m2,rfl⟩;go_wp2_with fail;go_ret;exact⟨zce Hv.out.symm,(by first|exact⟨_,rfl⟩|exact⟨0,rfl⟩|exact zam _ _ _|exact zan _ _ _ _)⟩
 ·have hv:zcM x y=0:=by rw[H.out,if_neg (by omega),if_neg (by omega)]
  have Hv:=qd hv;clear hv;have h1:¬x<y:=by omega
  have h2:¬y<x:=by omega
  have Hh:=qd h;clear h
  go_enter Tryz.func126,Tryz.ntmps126
  go_wp2_with fail;refine(zhz x _).mono ?_;rintro e w1 ⟨rfl,m1,rfl⟩;go_wp2_with fail;refine(zhz y _).mono ?_;rintro e w2 ⟨rfl,m2,rfl⟩;go_wp2_with fail;go_ret;exact⟨zce Hv.out.symm,(by first|exact⟨_,rfl⟩|exact⟨0,rfl⟩|exact zam _ _ _|exact zan _ _ _ _)⟩
 ·have hv:zcM x y=1:=by rw[H.out,if_neg (by omega),if_pos h]
  have Hv:=qd hv;clear hv;have h1:¬x<y:=by omega
  go_enter Tryz.func126,Tryz.ntmps126
  go_wp2_with fail;refine(zhz x _).mono ?_;rintro e w1 ⟨rfl,m1,rfl⟩;go_wp2_with fail;refine(zhz y _).mono ?_;rintro e w2 ⟨rfl,m2,rfl⟩;go_wp2_with fail;go_ret;exact⟨zce Hv.out.symm,(by first|exact⟨_,rfl⟩|exact⟨0,rfl⟩|exact zam _ _ _|exact zan _ _ _ _)⟩
def zaM:LI->LI->Int
 |[],[]=>0
 |[],_::_=>-1
 |_::_,[]=>1
 |x::a,y::b=>if x<y then -1 else if y<x then 1 else zaM a b
theorem zeg:∀{a b:LI},a.length=b.length->zaM a b=zbK a b
 |[],[],_=>rfl
 |[],_::_,h=>by simp at h
 |_::_,[],h=>by simp at h
 |x::a,y::b,h=>by simp only[zaM,zbK];rw[zeg (by simpa using h)]
theorem zsG{a b:LI}{k:Nat}(h1:k<a.length)(h2:k<b.length):zaM (a.drop k) (b.drop k)=if a[k]<b[k] then -1 else if b[k]<a[k] then 1 else zaM (a.drop (k+1)) (b.drop (k+1)):=by
 have e1:a.drop k=a[k]::a.drop (k+1):=List.drop_eq_getElem_cons h1;have e2:b.drop k=b[k]::b.drop (k+1):=List.drop_eq_getElem_cons h2;rw[e1,e2];rfl
theorem zif(g1 o1 n1 c1 g2 o2 n2 c2:Nat)(xs ys:LI)(w:World)(dL:xs.length=n1)(da:ys.length=n2)(hx:xs.length<=1099511627776)
 (fh:zag w g1 o1 xs) (gS:zag w g2 o2 ys):
 Calls Tryz.prog 133 #[(qS (some ⟨g1,o1,none⟩) n1 c1),(qS (some ⟨g2,o2,none⟩) n2 c2)] w (zap w (.int .i64 (zaM xs ys))):=by
 subst dL;subst da
 go_enter Tryz.func133,Tryz.ntmps133
 go_wp2;go_loopw [5,6,7,8,11] (fun _ _ _ _ i wr=>∃k:Nat,k<=xs.length/\k<=ys.length/\i= .int .i64 k/\Hid (zaM (xs.drop k) (ys.drop k)=zaM xs ys)/\∃m,wr=w.drewN m) (fun _ _ _ _ i _=>xs.length-(intOf i).toNat)
 case atStart=>exact⟨0,qz _,qz _,rfl,rfl,(by first|exact⟨_,rfl⟩|exact⟨0,rfl⟩|exact zam _ _ _|exact zan _ _ _ _)⟩
 case round=>
  obtain⟨k,hk,ma,rfl,he,m,rfl⟩:=hrel;by_cases ac:k<xs.length
  ·by_cases mo:k<ys.length
   ·have q1:=fh k ac;have q2:=gS k mo;have hd:=zsG ac mo;have e1:xs.getD k 0=xs[k]:=by simp[List.getD,ac]
    have e2:ys.getD k 0=ys[k]:=by simp[List.getD,mo]
    rw[he.out] at hd;rw[<-e1,<-e2] at hd;clear e1 e2;generalize xs.getD k 0=x at*;generalize ys.getD k 0=y at*;have Hd:=qd hd;clear hd;have aa:=zlk x y (w.drewN m)
    rcases Int.lt_trichotomy x y with h|h|h
    ·have hc:zcM x y=-1:=by unfold zcM;rw[if_pos h]
     have hv:zaM xs ys=-1:=by rw[Hd.out,if_pos h]
     rw[hc] at aa;have ab:=qd aa;have Hv:=qd hv;have Hh:=qd h;clear aa hv hc h;go_wp2_with fail;refine ab.out.mono ?_;rintro e w2 ⟨rfl,m2,rfl⟩;go_wp2_with fail;go_ret;exact⟨zce Hv.out.symm,(by first|exact⟨_,rfl⟩|exact⟨0,rfl⟩|exact zam _ _ _|exact zan _ _ _ _)⟩
    ·have hc:zcM x y=0:=by unfold zcM;rw[if_neg (by omega),if_neg (by omega)]
     have hv:zaM (xs.drop (k+1)) (ys.drop (k+1))=zaM xs ys:=by rw[Hd.out,if_neg (by omega),if_neg (by omega)]
     rw[hc] at aa;have ab:=qd aa;have Hv:=qd hv;have Hh:=qd h;clear aa hv hc h;go_wp2_with fail;refine ab.out.mono ?_;rintro e w2 ⟨rfl,m2,rfl⟩;go_wp2_with fail;go_roundw
     case rel=>exact⟨k+1,by omega,by omega,by go_num,Hv.out,(by first|exact⟨_,rfl⟩|exact⟨0,rfl⟩|exact zam _ _ _|exact zan _ _ _ _)⟩
     case measure=>simp[intOf];omega
    ·have hc:zcM x y=1:=by unfold zcM;rw[if_neg (by omega),if_pos h]
     have hv:zaM xs ys=1:=by rw[Hd.out,if_neg (by omega),if_pos h]
     rw[hc] at aa;have ab:=qd aa;have Hv:=qd hv;have Hh:=qd h;clear aa hv hc h;go_wp2_with fail;refine ab.out.mono ?_;rintro e w2 ⟨rfl,m2,rfl⟩;go_wp2_with fail;go_ret;exact⟨zce Hv.out.symm,(by first|exact⟨_,rfl⟩|exact⟨0,rfl⟩|exact zam _ _ _|exact zan _ _ _ _)⟩
   ·have hv:zaM xs ys=1:=by
     rw[<-he.out,List.drop_eq_getElem_cons ac,show ys.drop k=[] from List.drop_eq_nil_iff.2 (by omega)];rfl
    have q1:=fh k ac;have Hv:=qd hv;clear hv;go_wp2_with fail;go_ret;exact⟨zce Hv.out.symm,(by first|exact⟨_,rfl⟩|exact⟨0,rfl⟩|exact zam _ _ _|exact zan _ _ _ _)⟩
  ·by_cases mo:xs.length<ys.length
   ·have hv:zaM xs ys=-1:=by
     rw[<-he.out,List.drop_eq_getElem_cons (show k<ys.length by omega),show xs.drop k=[] from List.drop_eq_nil_iff.2 (by omega)];rfl
    have Hv:=qd hv;clear hv;go_wp2_with fail;go_ret;exact⟨zce Hv.out.symm,(by first|exact⟨_,rfl⟩|exact⟨0,rfl⟩|exact zam _ _ _|exact zan _ _ _ _)⟩
   ·have hv:zaM xs ys=0:=by
     rw[<-he.out,show ys.drop k=[] from List.drop_eq_nil_iff.2 (by omega),show xs.drop k=[] from List.drop_eq_nil_iff.2 (by omega)];rfl
    have Hv:=qd hv;clear hv;go_wp2_with fail;go_ret;exact⟨zce Hv.out.symm,(by first|exact⟨_,rfl⟩|exact⟨0,rfl⟩|exact zam _ _ _|exact zan _ _ _ _)⟩
def orL:LI->Int
 |[]=>0
 |x::l=>if x=0 then orL l else x
theorem zCq{l:LI}{k:Nat}(h:k<l.length):orL (l.drop k)=if l[k]=0 then orL (l.drop (k+1)) else l[k]:=by
 rw[List.drop_eq_getElem_cons h];rfl
theorem zKd(g o n cp:Nat)(xs:LI)(w:World)(hn:xs.length=n)(hx:xs.length<=1048576)(hc:zag w g o xs):Calls Tryz.prog 223 #[(qS (some ⟨g,o,none⟩) n cp)] w (zap w (.int .i64 (orL xs))):=by
 subst hn
 go_enter Tryz.func223,Tryz.ntmps223
 go_wp2;go_loopw [5,8] (fun _ i wr=>∃k:Nat,k<=xs.length/\i= .int .i64 k/\Hid (orL (xs.drop k)=orL xs)/\∃m,wr=w.drewN m) (fun _ i _=>xs.length-(intOf i).toNat)
 case atStart=>exact⟨0,qz _,rfl,rfl,(by first|exact⟨_,rfl⟩|exact⟨0,rfl⟩|exact zam _ _ _|exact zan _ _ _ _)⟩
 case round=>
  obtain⟨k,hk,rfl,he,m,rfl⟩:=hrel;by_cases ac:k<xs.length
  ·have q1:=hc k ac;have hd:=zCq ac;have e1:xs.getD k 0=xs[k]:=by simp[List.getD,ac]
   rw[he.out,<-e1] at hd;clear e1;generalize xs.getD k 0=x at*;by_cases h0:x=0
   ·rw[if_pos h0] at hd;have Hd:=qd hd;clear hd;subst h0;go_wp2;go_roundw
    case rel=>exact⟨k+1,by omega,by go_num,Hd.out.symm,(by first|exact⟨_,rfl⟩|exact⟨0,rfl⟩|exact zam _ _ _|exact zan _ _ _ _)⟩
    case measure=>simp[intOf];omega
   ·rw[if_neg h0] at hd;have Hd:=qd hd;clear hd;have ao:(x != 0)=true:=by simpa using h0
    go_wp2;go_ret;exact⟨zce Hd.out.symm,(by first|exact⟨_,rfl⟩|exact⟨0,rfl⟩|exact zam _ _ _|exact zan _ _ _ _)⟩
  ·have hv:orL xs=0:=by rw[<-he.out,List.drop_eq_nil_iff.2 (by omega)];rfl
   have Hv:=qd hv;clear hv;go_wp2;go_ret;exact⟨zce Hv.out.symm,(by first|exact⟨_,rfl⟩|exact⟨0,rfl⟩|exact zam _ _ _|exact zan _ _ _ _)⟩
def zJg(w:World)(v:Value)(e:Ending)(w':World):Prop:=e= .returned v/\∃(o:Obj) (q:Nat),w'=(w.alloc o).drewN q
theorem zcB:∀(a b:LI),zaM b a=- zaM a b
 |[],[]=>rfl
 |[],_::_=>rfl
 |_::_,[]=>rfl
 |x::a,y::b=>by
  simp only[zaM];by_cases h1:x<y
  ·rw[if_pos h1,if_neg (by omega),if_pos h1];rfl
  ·by_cases h2:y<x
   ·rw[if_pos h2,if_neg h1,if_pos h2]
   ·rw[if_neg h2,if_neg h1,if_neg h1,if_neg h2];exact zcB a b
theorem zeK:∀(a b d:LI),zaM a b<0->zaM b d<0->zaM a d<0
 |[],[],_,h,_=>by simp[zaM] at h
 |[],_::_,[],_,h=>by simp[zaM] at h
 |[],_::_,_::_,_,_=>by simp[zaM]
 |_::_,[],_,h,_=>by simp[zaM] at h
 |_::_,_::_,[],_,h=>by simp[zaM] at h
 |x::a,y::b,z::d,h1,h2=>by
  have ih:=zeK a b d;simp only[zaM] at*
  split at h1 <;> split at h2 <;> (try split at h1) <;> (try split at h2) <;> (try split) <;> (try split) <;> first|omega|(exact ih h1 h2)
theorem zeh:∀{a b:LI},zaM a b=0->a=b
 |[],[],_=>rfl
 |[],_::_,h=>by simp[zaM] at h
 |_::_,[],h=>by simp[zaM] at h
 |x::a,y::b,h=>by
  simp only[zaM] at h
  split at h
  ·omega
  ·split at h
   ·omega
   ·have:x=y:=by omega
    rw[this,zeh h]
theorem zlZ(a:LI):zaM a a=0:=by have:=zcB a a;omega
theorem zts{a b:LI}(h:a.length=b.length):zaU a b=zaM a b:=by
 unfold zaU;rw[if_neg (by omega),if_neg (by omega),zeg h]
theorem zoF{cf:LI->LI->Int}(anti:∀a b,cf b a=- cf a b):∀{L M:LL},L.Pairwise (fun a b=>cf a b<0)->M.Pairwise (fun a b=>cf a b<0)->(∀x,x∈L↔x∈M)->L=M
 |[],[],_,_,_=>rfl
 |[],y::M,_,_,h=>by have:=(h y).2 (by simp);simp at this
 |x::L,[],_,_,h=>by have:=(h x).1 (by simp);simp at this
 |x::L,y::M,hL,hM,h=>by
  have tU:=List.pairwise_cons.1 hL;have uB:=List.pairwise_cons.1 hM
  have e:x=y:=by
   rcases List.mem_cons.1 ((h x).1 (by simp)) with e|e
   ·exact e
   ·rcases List.mem_cons.1 ((h y).2 (by simp)) with e2|e2
    ·exact e2.symm
    ·have h1:=uB.1 x e;have h2:=tU.1 y e2;have:=anti x y;omega
  subst e;refine congrArg (x::·) (zoF anti tU.2 uB.2 fun z=>?_);have hs:=anti x x;have hx:x ∉ L:=fun hm=>by have:=tU.1 x hm;omega
  have hy:x ∉ M:=fun hm=>by have:=uB.1 x hm;omega
  have hz:=h z;simp only[List.mem_cons] at hz;constructor
  ·intro hm
   rcases hz.1 (.inr hm) with e|e
   ·subst e;exact absurd hm hx
   ·exact e
  ·intro hm
   rcases hz.2 (.inr hm) with e|e
   ·subst e;exact absurd hm hy
   ·exact e
theorem zzh{cf:LI->LI->Int}(anti:∀a b,cf b a=- cf a b)(zero:∀{a b},cf a b=0->a=b){L:LL}(h:L.Pairwise fun a b=>¬cf b a<0)(hn:L.Nodup):L.Pairwise fun a b=>cf a b<0:=by
 refine List.Pairwise.imp ?_ (List.Pairwise.and h hn);intro a b ⟨h1,h2⟩;have h3:=anti a b
 rcases Int.lt_trichotomy (cf a b) 0 with h|h|h
 ·exact h
 ·exact absurd (zero h) h2
 ·omega
end
section
open Go.RowKit Game
def zCr(l:LL)(r:LI)(k:Nat):Prop:=∀j,j<k->l.getD j []≠r
theorem zCs{l:LL}{r:LI}(h:zCr l r l.length):decide (r∈l)=false:=by
 apply decide_eq_false;intro hm;obtain⟨t,ht,e⟩:=List.mem_iff_getElem.1 hm;exact h t ht (by simp[List.getD,ht,e])
theorem zzi{l:LL}{r:LI}{k:Nat}(hk:k<l.length)(h:l.getD k []=r):decide (r∈l)=true:=by
 apply decide_eq_true;rw[<-h];simp[List.getD,hk]
theorem ziq(g o n cp g1 o1 n1 c1:Nat)(l:LL)(r:LI)(w:World)(hn:l.length=n)(dL:r.length=n1)(hl:l.length<=1048576)(an:∀j,j<l.length->(l.getD j []).length<=1048576)
 (hr:zal w g o l) (aI:zag w g1 o1 r):
 Calls Tryz.prog 176 #[(qS (some ⟨g,o,none⟩) n cp),(qS (some ⟨g1,o1,none⟩) n1 c1)] w (zap w (.bool (decide (r∈l)))):=by
 subst hn;subst dL
 go_enter Tryz.func176,Tryz.ntmps176
 go_wp2;go_loopw [5] (fun i wr=>∃k:Nat,k<=l.length/\i= .int .i64 k/\Hid (zCr l r k)/\∃m,wr=w.drewN m) (fun i _=>l.length-(intOf i).toNat)
 case atStart=>exact⟨0,qz _,rfl,fun j hj=>absurd hj (by omega),(by first|exact⟨_,rfl⟩|exact⟨0,rfl⟩|exact zam _ _ _|exact zan _ _ _ _)⟩
 case round=>
  obtain⟨k,hk,rfl,bR,m,rfl⟩:=hrel;by_cases ac:k<l.length
  ·obtain⟨gj,oj,cj,q1,q2,q3,q4⟩:=hr k ac;have nU:=an k ac
   have HY:Hid (l.getD k []≠r->zCr l r (k+1)):=fun h j hj=>by
    by_cases e:j=k
    ·subst e;exact h
    ·exact bR.out j (by omega)
   have HX:Hid (l.getD k []=r->decide (r∈l)=true):=zzi ac;generalize l.getD k []=x at*;have aa:=zcK gj oj x.length cj g1 o1 r.length c1 x r (w.drewN m) rfl rfl (by omega) q4 aI;by_cases e:x=r
   ·have hd:=HX.out e;rw[decide_eq_true e] at aa;have Hd:=qd hd;have He:=qd e;have ab:=qd aa;clear hd aa e;go_wp2_with fail;refine ab.out.mono ?_;rintro e w2 ⟨rfl,m2,rfl⟩;go_wp2_with fail;go_ret;exact⟨zaK Hd.out.symm,(by first|exact⟨_,rfl⟩|exact⟨0,rfl⟩|exact zam _ _ _|exact zan _ _ _ _)⟩
   ·have hd:=HY.out e;rw[decide_eq_false e] at aa;have Hd:=qd hd;have He:=qd e;have ab:=qd aa;clear hd aa e;go_wp2_with fail;refine ab.out.mono ?_;rintro e w2 ⟨rfl,m2,rfl⟩;go_wp2_with fail;go_roundw
    case rel=>exact⟨k+1,by omega,by go_num,Hd.out,(by first|exact⟨_,rfl⟩|exact⟨0,rfl⟩|exact zam _ _ _|exact zan _ _ _ _)⟩
    case measure=>simp[intOf];omega
  ·obtain rfl:k=l.length:=by omega
   have hf:=zCs bR.out;have Hf:=qd hf;clear hf;go_wp2;go_ret;exact⟨zaK Hf.out.symm,(by first|exact⟨_,rfl⟩|exact⟨0,rfl⟩|exact zam _ _ _|exact zan _ _ _ _)⟩
end
section
open Go.RowKit
def zdG(a r:LI):Nat->Int
 |0=>0
 |k+1=>wrap64 (zdG a r k+wrap64 (a.getD k 0*r.getD k 0))
def zfu(a r:LI):Int:=zdG a r r.length
def zbk(c:LL)(i:Nat)(r:LI):LI:=r.set i (wrap64 (r.getD i 0-zfu (c.getD i []) r))
def zbn(n i:Nat):LI:=(List.replicate n 0).set i 1
def zgO(c:LL):LL:=(List.range c.length).map fun i=>(List.range c.length).map fun j=>ent c j i
def zen(r:LI):Nat->Int
 |0=>0
 |k+1=>wrap64 (zen r k+r.getD k 0)
def zak(r:LI):Int:=zen r r.length
theorem zdL(c:LL)(i:Nat)(r:LI):(zbk c i r).length=r.length:=by simp[zbk]
theorem zds(n i:Nat):(zbn n i).length=n:=by simp[zbn]
theorem zma(c:LL):(zgO c).length=c.length:=by simp[zgO]
theorem zxH{c:LL}{i:Nat}(hi:i<c.length):(zgO c).getD i []=(List.range c.length).map fun j=>ent c j i:=by simp[zgO,List.getD,hi]
theorem zsH{c:LL}{i:Nat}(hi:i<c.length):((zgO c).getD i []).length=c.length:=by rw[zxH hi];simp
def zbu(a b:LI):Int:=orL [zcM (zak a) (zak b),zaM b a]
theorem zzj(x y:Int):zcM y x=- zcM x y:=by
 unfold zcM;by_cases h1:x<y
 ·rw[if_pos h1,if_neg (by omega),if_pos h1];rfl
 ·by_cases h2:y<x
  ·rw[if_pos h2,if_neg h1,if_pos h2]
  ·rw[if_neg h2,if_neg h1,if_neg h1,if_neg h2];rfl
theorem zfD{x y:Int}(h:zcM x y=0):x=y:=by
 unfold zcM at h
 split at h
 ·omega
 ·split at h
  ·omega
  ·omega
theorem zll{x y:Int}:zcM x y<0↔x<y:=by
 unfold zcM
 split
 ·rename_i h;exact⟨fun _=>h,fun _=>by omega⟩
 ·split
  ·exact⟨fun h=>by omega,fun h=>by omega⟩
  ·exact⟨fun h=>by omega,fun h=>by omega⟩
theorem zgj(a b:LI):zbu a b=if zcM (zak a) (zak b)=0 then zaM b a else zcM (zak a) (zak b):=by
 unfold zbu;simp only[orL]
 split
 ·split
  ·rename_i h;exact h.symm
  ·rfl
 ·rfl
theorem zeL(a b:LI):zbu b a=- zbu a b:=by
 rw[zgj,zgj];have h1:=zzj (zak a) (zak b);have h2:=zcB a b;by_cases h:zcM (zak a) (zak b)=0
 ·rw[if_pos (by omega),if_pos h];omega
 ·rw[if_neg (by omega),if_neg h];omega
theorem zja{a b:LI}(h:zbu a b=0):a=b:=by
 rw[zgj] at h
 split at h
 ·exact(zeh h).symm
 ·rename_i g;exact absurd h g
theorem zmb{a b d:LI}(h1:zbu a b<0)(h2:zbu b d<0):zbu a d<0:=by
 rw[zgj] at*;have k1:=@zll (zak a) (zak b);have k2:=@zll (zak b) (zak d);have k3:=@zll (zak a) (zak d)
 split at h1
 ·rename_i g1
  have e1:=zfD g1
  split at h2
  ·rename_i g2
   have e2:=zfD g2;rw[if_pos (by rw[e1,e2];unfold zcM;simp)];exact zeK _ _ _ h2 h1
  ·have:=k2.1 h2;rw[if_neg (by intro h;have:=zfD h;omega)];exact k3.2 (by omega)
 ·have:=k1.1 h1
  split at h2
  ·rename_i g2
   have e2:=zfD g2;rw[if_neg (by intro h;have:=zfD h;omega)];exact k3.2 (by omega)
  ·have:=k2.1 h2;rw[if_neg (by intro h;have:=zfD h;omega)];exact k3.2 (by omega)
theorem ztt(a:LI):zbu a a=0:=by have:=zeL a a;omega
def zcW:LL->LI->LL
 |[],v=>[v]
 |x::l,v=>if zbu v x<0 then v::x::l else x::zcW l v
theorem zfE{x:LI}:∀{l:LL} {v:LI},x∈zcW l v↔x=v∨x∈l
 |[],v=>by simp[zcW]
 |y::l,v=>by
  unfold zcW;by_cases h2:zbu v y<0
  ·rw[if_pos h2];simp
  ·rw[if_neg h2,List.mem_cons,zfE (l:=l),List.mem_cons];constructor
   ·rintro (h|h|h)
    ·exact .inr (.inl h)
    ·exact .inl h
    ·exact .inr (.inr h)
   ·rintro (h|h|h)
    ·exact .inr (.inl h)
    ·exact .inl h
    ·exact .inr (.inr h)
theorem zkk(l:LL)(v:LI):(zcW l v).length=l.length+1:=by
 induction l with
 |nil=>simp[zcW]
 |cons y l ih=>
  unfold zcW
  split
  ·simp
  ·simp[ih]
def Up(L:LL):Prop:=L.Pairwise fun a b=>zbu a b<0
theorem znK:∀{l:LL} {v:LI},v ∉ l->Up l->Up (zcW l v)
 |[],v,_,_=>List.pairwise_singleton _ _
 |y::l,v,hv,h=>by
  have h0:=List.pairwise_cons.1 h;unfold zcW;have ha:=zeL v y;by_cases h2:zbu v y<0
  ·rw[if_pos h2];refine List.pairwise_cons.2 ⟨fun z hz=>?_,h⟩
   rcases List.mem_cons.1 hz with rfl|hz
   ·exact h2
   ·exact zmb h2 (h0.1 z hz)
  ·rw[if_neg h2];refine List.pairwise_cons.2 ⟨fun z hz=>?_,znK (fun hm=>hv (List.mem_cons_of_mem _ hm)) h0.2⟩
   rcases zfE.1 hz with rfl|hz
   ·rcases Int.lt_trichotomy (zbu y z) 0 with g|g|g
    ·exact g
    ·exact absurd (by rw[zja g];simp) hv
    ·omega
   ·exact h0.1 z hz
def zxI(L:LL):LL:=L.foldl zcW []
theorem zrD:∀(L a:LL),L.Nodup->(∀x∈L,x ∉ a)->Up a->Up (L.foldl zcW a)/\∀x,x∈L.foldl zcW a↔x∈L∨x∈a
 |[],a,_,_,h=>⟨h,by simp⟩
 |y::L,a,hn,hd,h=>by
  have fa:=List.nodup_cons.1 hn
  obtain⟨h1,h2⟩:=zrD L (zcW a y) fa.2 (fun x hx hm=>by
   rcases zfE.1 hm with e|e
   ·subst e;exact fa.1 hx
   ·exact hd x (List.mem_cons_of_mem _ hx) e) (znK (hd y (by simp)) h)
  refine⟨h1,fun x=>?_⟩;rw[List.foldl_cons,h2 x,zfE,List.mem_cons];constructor
  ·rintro (h|h|h)
   ·exact .inl (.inr h)
   ·exact .inl (.inl h)
   ·exact .inr h
  ·rintro ((h|h)|h)
   ·exact .inr (.inl h)
   ·exact .inl h
   ·exact .inr (.inr h)
theorem ztu{L S:LL}(hn:L.Nodup)(hp:S.Perm L)(hs:S.Pairwise fun a b=>¬zbu b a<0):S=zxI L:=by
 obtain⟨h1,h2⟩:=zrD L [] hn (by simp) List.Pairwise.nil;refine zoF zeL (zzh zeL zja hs (hp.nodup_iff.2 hn)) h1 fun x=>?_
 rw[hp.mem_iff];show x∈L↔x∈L.foldl zcW [];rw[h2 x];simp
abbrev RPair:=LI × LI
def zcg(c:LL):List RPair:=(List.range c.length).map fun i=>(zbn c.length i,zbn c.length i)
structure zLa(c:LL)(Q:List RPair):Prop where
 len1:∀p∈Q,p.1.length=c.length/\p.2.length=c.length
 nodup:(Q.map (·.1)).Nodup
section
variable {c t:LL} {Q:List RPair} {k i:Nat}
theorem zrE{n i j:Nat}(hi:i<n)(h:zbn n i=zbn n j):i=j:=by
 have h1:(zbn n i).getD i 0=1:=by simp[zbn,List.getD,hi]
 rw[h] at h1;by_cases e:i=j
 ·exact e
 ·have:(zbn n j).getD i 0=0:=by simp[zbn,List.getD,hi,Ne.symm e]
  omega
theorem zpW(c:LL):zLa c (zcg c):=by
 refine⟨?_,?_⟩
 ·intro p hp;obtain⟨i,-,rfl⟩:=List.mem_map.1 hp;exact⟨zds _ _,zds _ _⟩
 ·unfold zcg;rw[List.map_map];rw[List.Nodup,List.pairwise_map];have hp:=List.nodup_range (n:=c.length);refine List.Pairwise.imp_of_mem (fun {a b} ha hb eC e=>eC ?_) hp;exact zrE (List.mem_range.1 ha) e
theorem zhA(c:LL):(zcg c).length=c.length:=by simp[zcg]
end
end
section
open Go.RowKit Game
theorem zjb(g1 o1 n1 c1 g2 o2 n2 c2:Nat)(a r:LI)(w:World)(dL:a.length=n1)(da:r.length=n2)(hl:r.length<=a.length)(hx:a.length<=1048576)(ha:zag w g1 o1 a)(hr:zag w g2 o2 r):
 Calls Tryz.prog 200 #[(qS (some ⟨g1,o1,none⟩) n1 c1),(qS (some ⟨g2,o2,none⟩) n2 c2)] w (zap w (.int .i64 (zfu a r))):=by
 subst dL;subst da
 go_enter Tryz.func200,Tryz.ntmps200
 go_wp2;go_loopw [5,10] (fun s kv wr=>∃t q:Nat,t<=r.length/\kv= .int .i64 t/\s= .int .i64 (zdG a r t)/\wr=w.drewN q) (fun _ kv _=>r.length-(intOf kv).toNat)
 case atStart=>exact⟨0,0,qz _,rfl,rfl,rfl⟩
 case round=>
  obtain⟨t,q,ht,rfl,rfl,rfl⟩:=hrel;by_cases ac:t<r.length
  ·have q1:=ha t (by omega);have q2:=hr t ac;have Pn:t<a.length:=by omega
   have hd:zdG a r (t+1)=wrap64 (zdG a r t+wrap64 (a.getD t 0*r.getD t 0)):=rfl;generalize a.getD t 0=x at*;generalize r.getD t 0=y at*;have Hd:=qd hd;clear hd;generalize zdG a r t=z at*;go_wp2;go_roundw
   case rel=>exact⟨t+1,_,by omega,by go_num,by rw[Hd.out],rfl⟩
   case measure=>simp[intOf];omega
  ·obtain rfl:t=r.length:=by omega
   go_wp2;go_ret;exact⟨rfl,(by first|exact⟨_,rfl⟩|exact⟨0,rfl⟩|exact zam _ _ _|exact zan _ _ _ _)⟩
theorem zdE(g o n cp:Nat)(r:LI)(w:World)(hn:r.length=n)(hx:r.length<=1048576)(hr:zag w g o r):
 Calls Tryz.prog 101 #[(qS (some ⟨g,o,none⟩) n cp)] w (zap w (.int .i64 (zak r))):=by
 subst hn
 go_enter Tryz.func101,Tryz.ntmps101
 go_wp2;go_loopw [3,8] (fun s kv wr=>∃t q:Nat,t<=r.length/\kv= .int .i64 t/\s= .int .i64 (zen r t)/\wr=w.drewN q) (fun _ kv _=>r.length-(intOf kv).toNat)
 case atStart=>exact⟨0,0,qz _,rfl,rfl,rfl⟩
 case round=>
  obtain⟨t,q,ht,rfl,rfl,rfl⟩:=hrel;by_cases ac:t<r.length
  ·have q2:=hr t ac;have hd:zen r (t+1)=wrap64 (zen r t+r.getD t 0):=rfl;generalize r.getD t 0=y at*;have Hd:=qd hd;clear hd;generalize zen r t=z at*;go_wp2;go_roundw
   case rel=>exact⟨t+1,_,by omega,by go_num,by rw[Hd.out],rfl⟩
   case measure=>simp[intOf];omega
  ·obtain rfl:t=r.length:=by omega
   go_wp2;go_ret;exact⟨rfl,(by first|exact⟨_,rfl⟩|exact⟨0,rfl⟩|exact zam _ _ _|exact zan _ _ _ _)⟩
theorem zde(g o n cp:Nat)(r:LI)(w:World)(hn:r.length=n)(hx:r.length<=1048576)(hr:zag w g o r):
 Calls Tryz.prog 52 #[(qS (some ⟨g,o,none⟩) n cp)] w (zap w (.int .i64 (zak r))):=by
 subst hn
 go_enter Tryz.func52,Tryz.ntmps52
 go_wp2;go_loopw [3,4] (fun s kv wr=>∃t q:Nat,t<=r.length/\kv= .int .i64 t/\s= .int .i64 (zen r t)/\wr=w.drewN q) (fun _ kv _=>r.length-(intOf kv).toNat)
 case atStart=>exact⟨0,0,qz _,rfl,rfl,rfl⟩
 case round=>
  obtain⟨t,q,ht,rfl,rfl,rfl⟩:=hrel;by_cases ac:t<r.length
  ·have q2:=hr t ac;have hd:zen r (t+1)=wrap64 (zen r t+r.getD t 0):=rfl;generalize r.getD t 0=y at*;have Hd:=qd hd;clear hd;generalize zen r t=z at*;go_wp2;go_roundw
   case rel=>exact⟨t+1,_,by omega,by go_num,by rw[Hd.out],rfl⟩
   case measure=>simp[intOf];omega
  ·obtain rfl:t=r.length:=by omega
   go_wp2;go_ret;exact⟨rfl,(by first|exact⟨_,rfl⟩|exact⟨0,rfl⟩|exact zam _ _ _|exact zan _ _ _ _)⟩
theorem zpX{w:World}{B g n cap:Nat}(h:Own w B g cap (List.replicate n 0)){i:Nat}:Own (w.setCell ⟨g,i,none⟩ (.int .i64 1)) B g cap (zbn n i)/\w.grownBy (w.setCell ⟨g,i,none⟩ (.int .i64 1)) (some g):=by
 have:=h.set i 1;exact this
theorem zpY(n i:Nat)(w:World)(hn:n<=1048576)(hi:i<n):Calls Tryz.prog 190 #[.int .i64 n,.int .i64 i] w (zav w (zbn n i)):=by
 go_enter Tryz.func190,Tryz.ntmps190
 go_wp2_with (at_make;refine zbF rfl _ _ rfl w.heap.size n _ rfl rfl rfl (by omega) (qr _) ?_);intro w1 au bm;have ad:Below w.heap.size w w1:=(Below.refl _ _).grown bm (qr _) (by simp);have hc:=au.cell i (by simpa using hi);have hf:=au.frozen i;go_wp2;have hs:=zpX au (i:=i);go_ret;exact zav.mk' _ n (zds _ _) hs.1 (ad.grown hs.2 ad.size (by intro k hk;cases hk;exact au.base))
theorem zmn(gc oc n cc i:Nat)(c:LL)(w:World)(hn:c.length=n)(hC:IsC c)(hi:i<c.length)(hc:zal w gc oc c):
 Calls Tryz.prog 183 #[(qS (some ⟨gc,oc,none⟩) n cc),.int .i64 i] w (zav w (zbn c.length i)):=by
 subst hn;have aR:=hC.2.1;have aa:=zbD gc oc _ cc c w rfl (by omega) (fun j hj=>by rw[hC.2.2.1 j hj];omega) hc;rw[decide_eq_true hC] at aa;have ab:=qd aa;clear aa
 go_enter Tryz.func183,Tryz.ntmps183
 go_wp2_with fail;refine ab.out.mono ?_;rintro e w1 ⟨rfl,bh⟩;have ad:=zaf (Below.refl w.heap.size w) bh;clear bh ab;have aa:=zdJ i 0 ((c.length:Int)-1) w1;have hT:(decide ((0:Int)<=(i:Int))&&decide ((i:Int)<=(c.length:Int)-1))=true:=by simp;omega
 rw[hT] at aa;have ab:=qd aa;clear aa hT;go_wp2_with fail;refine ab.out.mono ?_;rintro e w2 ⟨rfl,aB⟩;have ae:=zaf ad aB;clear aB ab ad;go_wp2_with (at_make;refine zbF rfl _ _ rfl w.heap.size c.length _ rfl rfl rfl (by omega) ae.size ?_);intro w3 al aK;have ag:Below w.heap.size w w3:=ae.grown aK ae.size (by simp);have bD:=al.cell i (by simpa using hi);have hf:=al.frozen i;go_wp2;have hs:=zpX al (i:=i);go_ret;exact zav.mk' _ c.length (zds _ _) hs.1 (ag.grown hs.2 ag.size (by intro k hk;cases hk;exact al.base))
end
section
open Go.RowKit
def zed(r:LI):Bool:=(r.any fun x=>decide (0<x))&&!(r.any fun x=>decide (x<0))
def zdt(c Q:LL)(k i:Nat):LL:=
 let r:=zbk c i (Q.getD k [])
 if zed r=true/\zak r<=12/\zak (Q.getD k [])<zak r/\r ∉ Q then zcW Q r else Q
def upRow(c Q:LL)(k:Nat):Nat->LL
 |0=>Q
 |i+1=>zdt c (upRow c Q k i) k i
def upGo(c:LL):Nat->Nat->LL->LL
 |0,_,Q=>Q
 |f+1,k,Q=>if k<Q.length then upGo c f (k+1) (upRow c Q k c.length) else Q
def zeM(n:Nat):Nat->LL
 |0=>[]
 |i+1=>zcW (zeM n i) (zbn n i)
def zaq(c:LL):LL:=upGo c 25 0 (zeM c.length c.length)
def zGO(c L:LL):Bool:=L.all fun r=>(List.range c.length).all fun i=>let s:=zbk c i r;!(zed s)||decide (12<zak s)||L.contains s
def zbh(c:LL):Bool:=decide ((zaq c).length<=24)&&(((zaq c).all fun r=>r.all fun x=>decide (0<=x/\x<=12))&&zGO c (zaq c))
end
section
open Go.RowKit
theorem zxJ{c Q:LL}{k i:Nat}:∀x∈Q,x∈zdt c Q k i:=by
 intro x hx;unfold zdt;simp only
 split
 ·exact zfE.2 (.inr hx)
 ·exact hx
theorem zlm{c Q:LL}{k i:Nat}{x:LI}(h:x∈zdt c Q k i):x∈Q∨(x=zbk c i (Q.getD k [])/\zed x=true/\zak x<=12):=by
 unfold zdt at h;simp only at h
 split at h
 ·rename_i hc
  rcases zfE.1 h with rfl|h
  ·exact .inr ⟨rfl,hc.1,hc.2.1⟩
  ·exact .inl h
 ·exact .inl h
theorem zzk{c Q:LL}{k i:Nat}(h:Up Q):Up (zdt c Q k i):=by
 unfold zdt;simp only
 split
 ·rename_i hc
  exact znK hc.2.2.2 h
 ·exact h
theorem zpZ{c Q:LL}{k i:Nat}:Q.length<=(zdt c Q k i).length:=by
 unfold zdt;simp only
 split
 ·rw[zkk];omega
 ·exact qr _
theorem zrF{c Q:LL}{k:Nat}:∀i,∀x∈Q,x∈upRow c Q k i
 |0,_,h=>h
 |i+1,x,h=>zxJ x (zrF i x h)
theorem ztv{c Q:LL}{k:Nat}(h:Up Q):∀i,Up (upRow c Q k i)
 |0=>h
 |i+1=>zzk (ztv h i)
theorem zig{c Q:LL}{k:Nat}:∀i,Q.length<=(upRow c Q k i).length
 |0=>qr _
 |i+1=>qt (zig i) zpZ
theorem ztw{c:LL}:∀(f k:Nat) (Q:LL),∀x∈Q,x∈upGo c f k Q
 |0,_,_,_,h=>h
 |f+1,k,Q,x,h=>by
  unfold upGo
  split
  ·exact ztw f (k+1) _ x (zrF _ x h)
  ·exact h
theorem zwT{c:LL}:∀(f k:Nat) (Q:LL),Up Q->Up (upGo c f k Q)
 |0,_,_,h=>h
 |f+1,k,Q,h=>by
  unfold upGo
  split
  ·exact zwT f (k+1) _ (ztv h _)
  ·exact h
theorem ztx{c:LL}:∀(f k:Nat) (Q:LL),Q.length<=(upGo c f k Q).length
 |0,_,_=>qr _
 |f+1,k,Q=>by
  unfold upGo
  split
  ·exact qt (zig _) (ztx f (k+1) _)
  ·exact qr _
theorem zzl{c Q:LL}{f k:Nat}(hk:k<Q.length):upGo c (f+1) k Q=upGo c f (k+1) (upRow c Q k c.length):=by
 conv=>lhs;unfold upGo
 rw[if_pos hk]
theorem zzm{c Q:LL}{f k:Nat}(hk:Q.length<=k):upGo c f k Q=Q:=by
 cases f with
 |zero=>rfl
 |succ f=>unfold upGo;rw[if_neg (by omega)]
structure zjc(c S:LL):Prop where
 simp:∀i,i<c.length->zbn c.length i∈S
 step:∀r∈S,∀i,i<c.length->zed (zbk c i r)=true->zak (zbk c i r)<=12->zbk c i r∈S
theorem zjc.upRow{c S Q:LL}(h:zjc c S)(hQ:∀x∈Q,x∈S){k:Nat}(hk:k<Q.length):∀i,i<=c.length->∀x∈upRow c Q k i,x∈S:=by
 intro i
 induction i with
 |zero=>intro _ x hx;exact hQ x hx
 |succ i ih=>
  intro hi x hx;have ih':=ih (by omega)
  rcases zlm (show x∈zdt c (Go.Proofs.YtlgcmaoimpgedaaGreatDoor.upRow c Q k i) k i from hx) with h1|⟨h1,h2,h3⟩
  ·exact ih' x h1
  ·have pC:k<(Go.Proofs.YtlgcmaoimpgedaaGreatDoor.upRow c Q k i).length:=qL hk (zig i)
   have hm:(Go.Proofs.YtlgcmaoimpgedaaGreatDoor.upRow c Q k i).getD k []∈S:=by
    apply ih';simp[List.getD,pC]
   rw[h1] at h2 h3 ⊢;exact h.step _ hm i (by omega) h2 h3
theorem zjc.upGo{c S:LL}(h:zjc c S):∀(f k:Nat) (Q:LL),(∀x∈Q,x∈S)->∀x∈upGo c f k Q,x∈S
 |0,_,_,hQ=>hQ
 |f+1,k,Q,hQ=>by
  unfold Go.Proofs.YtlgcmaoimpgedaaGreatDoor.upGo
  split
  ·rename_i hk
   exact zjc.upGo h f (k+1) _ (h.upRow hQ hk _ (qr _))
  ·exact hQ
theorem zgk{n:Nat}{x:LI}:∀i,x∈zeM n i↔∃j,j<i/\x=zbn n j
 |0=>by simp[zeM]
 |i+1=>by
  unfold zeM;rw[zfE,zgk i];constructor
  ·rintro (rfl|⟨j,hj,rfl⟩)
   ·exact⟨i,by omega,rfl⟩
   ·exact⟨j,by omega,rfl⟩
  ·rintro ⟨j,hj,rfl⟩;by_cases e:j=i
   ·subst e;exact .inl rfl
   ·exact .inr ⟨j,by omega,rfl⟩
theorem zqa{n:Nat}:∀i,i<=n->Up (zeM n i)
 |0,_=>List.Pairwise.nil
 |i+1,h=>by
  unfold zeM;refine znK ?_ (zqa i (by omega));rw[zgk];rintro ⟨j,hj,e⟩;have:=zrE (n:=n) (i:=i) (j:=j) (by omega) e;omega
theorem zwU(c:LL):Up (zaq c):=zwT _ _ _ (zqa _ (qr _))
theorem Up.nodup{L:LL}(h:Up L):L.Nodup:=h.imp fun {a b} eC e=>by subst e;rw[ztt] at eC;omega
structure zbI(c:LL):Prop where
 few:(zaq c).length<=24
 small:∀r∈zaq c,∀x∈r,0<=x/\x<=12
 closed:zjc c (zaq c)
theorem zCt{c:LL}(h:zbh c=true):zbI c:=by
 unfold zbh at h;rw[Bool.and_eq_true,Bool.and_eq_true] at h;refine⟨by simpa using h.1,fun r hr x hx=>?_,⟨fun i hi=>ztw _ _ _ _ ((zgk _).2 ⟨i,hi,rfl⟩),fun r hr i hi h1 h2=>?_⟩⟩
 ·have:=List.all_eq_true.1 (List.all_eq_true.1 h.2.1 r hr) x hx;simpa using this
 ·have h3:=List.all_eq_true.1 (List.all_eq_true.1 h.2.2 r hr) i (List.mem_range.2 hi);simp only[h1,Bool.not_true,Bool.false_or,Bool.or_eq_true,decide_eq_true_eq] at h3
  rcases h3 with h3|h3
  ·omega
  ·simpa using h3
theorem zGP{c Q:LL}(hn:Q.Nodup)(hs:∀x∈Q,x∈zaq c)(hc:zjc c Q):zxI Q=zaq c:=by
 have xY:∀x∈zaq c,x∈Q:=hc.upGo _ _ _ (fun x hx=>by obtain⟨j,hj,rfl⟩:=(zgk _).1 hx;exact hc.simp j hj);have hp:(zaq c).Perm Q:=(List.perm_ext_iff_of_nodup (zwU c).nodup hn).2 fun x=>⟨xY x,hs x⟩
 refine(ztu hn hp ?_).symm;exact(zwU c).imp fun {a b} eC SX=>by have:=zeL a b;omega
end
section
open Go.RowKit
def zaG:LI->Option Nat
 |[]=>none
 |x::l=>if x<0 then some 0 else(zaG l).map (·+1)
def zcs(v:LI):Int:=match zaG v with|none=>-1|some i=>i
theorem zdM{v:LI}{i:Nat}(h:zaG v=some i):i<v.length/\v.getD i 0<0/\∀j,j<i->0<=v.getD j 0:=by
 induction v generalizing i with
 |nil=>simp[zaG] at h
 |cons x l ih=>
  simp only[zaG] at h
  split at h
  ·simp at h;subst h;refine⟨by simp,by simpa [List.getD] using by assumption,by omega⟩
  ·rename_i hx
   cases hl:zaG l with
   |none=>rw[hl] at h;simp at h
   |some k=>
    rw[hl] at h;simp at h;subst h;have:=ih hl;refine⟨by simp;omega,by simpa [List.getD] using this.2.1,fun j hj=>?_⟩
    cases j with
    |zero=>simp[List.getD];omega
    |succ j=>have:=this.2.2 j (by omega);simpa [List.getD] using this
theorem zfg{v:LI}(h:zaG v=none):∀j,j<v.length->0<=v.getD j 0:=by
 induction v with
 |nil=>intro j hj;simp at hj
 |cons x l ih=>
  simp only[zaG] at h
  split at h
  ·simp at h
  ·rename_i hx
   have hl:zaG l=none:=by cases hl:zaG l with
    |none=>rfl
    |some k=>rw[hl] at h;simp at h
   intro j hj
   cases j with
   |zero=>simp[List.getD];omega
   |succ j=>have:=ih hl j (by simpa using hj);simpa [List.getD] using this
theorem zhQ{v:LI}{i:Nat}(hi:i<v.length)(h:v.getD i 0<0)(hb:∀j,j<i->0<=v.getD j 0):zaG v=some i:=by
 cases hf:zaG v with
 |none=>have:=zfg hf i hi;omega
 |some k=>
  have hk:=zdM hf
  rcases Nat.lt_trichotomy i k with h1|h1|h1
  ·have:=hk.2.2 i h1;omega
  ·rw[h1]
  ·have:=hb k h1;omega
theorem zfF{v:LI}(hb:∀j,j<v.length->0<=v.getD j 0):zaG v=none:=by
 cases hf:zaG v with
 |none=>rfl
 |some k=>have hk:=zdM hf;have:=hb k hk.1;omega
theorem zeN(g o n cp:Nat)(v:LI)(w:World)(hn:v.length=n)(hx:v.length<=1048576)(hc:zag w g o v):
 Calls Tryz.prog 56 #[(qS (some ⟨g,o,none⟩) n cp)] w (zap w (.int .i64 (zcs v))):=by
 subst hn
 go_enter Tryz.func56,Tryz.ntmps56
 go_wp2;go_loopw [7] (fun i wr=>∃k:Nat,k<=v.length/\i= .int .i64 k/\Hid (∀j,j<k->0<=v.getD j 0)/\∃m,wr=w.drewN m) (fun i _=>v.length-(intOf i).toNat)
 case atStart=>exact⟨0,qz _,rfl,fun j hj=>absurd hj (by omega),(by first|exact⟨_,rfl⟩|exact⟨0,rfl⟩|exact zam _ _ _|exact zan _ _ _ _)⟩
 case round=>
  obtain⟨k,hk,rfl,aE,m,rfl⟩:=hrel;by_cases ac:k<v.length
  ·have q1:=hc k ac;have HX:Hid (v.getD k 0<0->zcs v=k):=fun h=>by unfold zcs;rw[zhQ ac h aE.out]
   have HY:Hid (0<=v.getD k 0->∀j,j<k+1->0<=v.getD j 0):=fun h j hj=>by
    by_cases e:j=k
    ·subst e;exact h
    ·exact aE.out j (by omega)
   generalize v.getD k 0=x at*;by_cases dw:x<0
   ·have hf:=HX.out dw;have Hf:=qd hf;clear hf;go_wp2;go_ret;exact⟨zce Hf.out.symm,(by first|exact⟨_,rfl⟩|exact⟨0,rfl⟩|exact zam _ _ _|exact zan _ _ _ _)⟩
   ·go_wp2;go_roundw
    case rel=>exact⟨k+1,by omega,by go_num,HY.out (by omega),(by first|exact⟨_,rfl⟩|exact⟨0,rfl⟩|exact zam _ _ _|exact zan _ _ _ _)⟩
    case measure=>simp[intOf];omega
  ·obtain rfl:k=v.length:=by omega
   have hf:zcs v=-1:=by unfold zcs;rw[zfF aE.out]
   have Hf:=qd hf;clear hf;go_wp2;go_ret;exact⟨zce Hf.out.symm,(by first|exact⟨_,rfl⟩|exact⟨0,rfl⟩|exact zam _ _ _|exact zan _ _ _ _)⟩
theorem zhq(g o n cp:Nat)(v:LI)(w:World)(hn:v.length=n)(hx:v.length<=1048576)(hc:zag w g o v):
 Calls Tryz.prog 14 #[(qS (some ⟨g,o,none⟩) n cp)] w (zap w (.bool (zaG v).isNone)):=by
 have e:(zaG v).isNone=decide (zcs v<0):=by
  unfold zcs
  cases zaG v with
  |none=>rfl
  |some i=>simp
 rw[e]
 go_enter Tryz.func14,Tryz.ntmps14
 go_wp2_with fail;refine(zeN g o n cp v w hn hx hc).mono ?_;rintro e w1 ⟨rfl,m1,rfl⟩;go_wp2_with fail;go_ret;exact⟨rfl,(by first|exact⟨_,rfl⟩|exact⟨0,rfl⟩|exact zam _ _ _|exact zan _ _ _ _)⟩
theorem zmo(g o n cp:Nat)(v:LI)(w:World)(hn:v.length=n)(hx:v.length<=1048576)(hc:zag w g o v):
 Calls Tryz.prog 62 #[(qS (some ⟨g,o,none⟩) n cp)] w (zap w (.bool (zaG v).isNone)):=by
 subst hn
 go_enter Tryz.func62,Tryz.ntmps62
 go_wp2;go_loopw [3] (fun i wr=>∃k:Nat,k<=v.length/\i= .int .i64 k/\Hid (∀j,j<k->0<=v.getD j 0)/\∃m,wr=w.drewN m) (fun i _=>v.length-(intOf i).toNat)
 case atStart=>exact⟨0,qz _,rfl,fun j hj=>absurd hj (by omega),(by first|exact⟨_,rfl⟩|exact⟨0,rfl⟩|exact zam _ _ _|exact zan _ _ _ _)⟩
 case round=>
  obtain⟨k,hk,rfl,aE,m,rfl⟩:=hrel;by_cases ac:k<v.length
  ·have q1:=hc k ac;have HX:Hid (v.getD k 0<0->zaG v=some k):=fun h=>zhQ ac h aE.out
   have HY:Hid (0<=v.getD k 0->∀j,j<k+1->0<=v.getD j 0):=fun h j hj=>by
    by_cases e:j=k
    ·subst e;exact h
    ·exact aE.out j (by omega)
   generalize v.getD k 0=x at*;by_cases dw:x<0
   ·have hf:=HX.out dw;have Hf:=qd hf;clear hf;go_wp2;go_ret;exact⟨zaK (by rw[Hf.out];rfl),(by first|exact⟨_,rfl⟩|exact⟨0,rfl⟩|exact zam _ _ _|exact zan _ _ _ _)⟩
   ·go_wp2;go_roundw
    case rel=>exact⟨k+1,by omega,by go_num,HY.out (by omega),(by first|exact⟨_,rfl⟩|exact⟨0,rfl⟩|exact zam _ _ _|exact zan _ _ _ _)⟩
    case measure=>simp[intOf];omega
  ·obtain rfl:k=v.length:=by omega
   have hf:=zfF aE.out;have Hf:=qd hf;clear hf;go_wp2;go_ret;exact⟨zaK (by rw[Hf.out];rfl),(by first|exact⟨_,rfl⟩|exact⟨0,rfl⟩|exact zam _ _ _|exact zan _ _ _ _)⟩
def zct(c:LL):LI->LI->LI
 |[],v=>v
 |i::l,v=>refl c i.toNat (zct c l v)
theorem zdo(c:LL)(l v:LI):(zct c l v).length=v.length:=by
 induction l with
 |nil=>rfl
 |cons i l ih=>simp[zct,zcf,ih]
theorem zzn(c:LL)(l v:LI)(k:Nat)(hk:k<l.length):zct c (l.drop k) v=refl c (l.getD k 0).toNat (zct c (l.drop (k+1)) v):=by
 have e:l.drop k=l[k]::l.drop (k+1):=List.drop_eq_getElem_cons hk;rw[e];simp[zct,List.getD,hk]
theorem zqU(gc oc n cc g1 o1 n1 c1 g2 o2 n2 c2:Nat)(c:LL)(l v:LI)(w:World)(hn:c.length=n)(dL:l.length=n1)(da:v.length=n2)(hC:IsC c)(hv:v.length=c.length)(hl:l.length<=1048576)
 (bR:∀k,k<l.length->0<=l.getD k 0/\l.getD k 0<c.length) (ah:gc<w.heap.size) (bm:g1<w.heap.size) (aP:g2<w.heap.size) (hr:zal w gc oc c) (aI:zag w g1 o1 l) (aH:zag w g2 o2 v):
 Calls Tryz.prog 129 #[(qS (some ⟨gc,oc,none⟩) n cc),(qS (some ⟨g1,o1,none⟩) n1 c1),(qS (some ⟨g2,o2,none⟩) n2 c2)] w (zav w (zct c l v)):=by
 subst hn;subst dL;subst da;have aR:=hC.2.1;have ew:IntKind.i64.wrap ((l.length:Int)-1)=(l.length:Int)-1:=IntWalk.i64_in _ (by omega);have uC:v.length<=4:=by omega
 have Hv:=qd hv;clear hv
 go_enter Tryz.func129,Tryz.ntmps129
 go_wp2_with (at_builtin;refine zaV rfl _ _ rfl g2 o2 _ c2 v rfl aP aH rfl rfl (by omega) ?_);intro gv cv w1 au ad;go_wp2;clear ew;go_loopw [8] (fun i wr=>∃(k:Nat) (j:Int),k<=l.length/\i= .int .i64 j/\j=(k:Int)-1/\Own wr w.heap.size gv cv (zct c (l.drop k) v)/\Below w.heap.size w wr) (fun i _=>(intOf i+1).toNat)
 case atStart=>exact⟨l.length,_,qr _,rfl,rfl,by rw[List.drop_length];exact au,ad⟩
 case round=>
  obtain⟨k,j,hk,rfl,hj,ho,hb⟩:=hrel;by_cases ac:0<k
  ·obtain⟨t,rfl⟩:∃t,k=t+1:=⟨k-1,by omega⟩;obtain rfl:j=(t:Int):=by omega
   have bU:t<l.length:=by omega
   have q1:=aI.below hb bm t bU;have hit:=bR t bU;have hd:=zzn c l v t bU;obtain⟨iN,pz⟩:∃iN:Nat,l.getD t 0=iN:=⟨(l.getD t 0).toNat,by omega⟩;rw[pz] at q1 hit hd;rw[Int.toNat_natCast] at hd;have nL:iN<c.length:=by omega
   have Ij:(zct c (l.drop (t+1)) v).length=v.length:=zdo _ _ _;have aa:=zej w gc oc _ cc gv cv iN v.length c (zct c (l.drop (t+1)) v) wr rfl Ij (by rw[Ij];exact Hv.out) aR hC.2.2.1 nL ah hr hb ho;have ab:=qd aa;have Hd:=qd hd;clear aa hd pz Ij hit;clear hj;go_wp2_with fail;refine ab.out.mono ?_;rintro e w2 ⟨rfl,ar,aP⟩;go_wp2_with fail;go_roundw
   case rel=>
    rw[<-Hd.out] at ar;exact⟨t,(t:Int)-1,by omega,by go_num,rfl,ar,hb.grown aP hb.size (by intro j hj;cases hj;exact ho.base)⟩
   case measure=>simp[intOf]
  ·obtain rfl:k=0:=by omega
   obtain rfl:j=-1:=by omega
   clear hj;go_wp2;go_ret;exact zav.mk' gv cv (zdo _ _ _) ho hb
end
end Go.Proofs.YtlgcmaoimpgedaaGreatDoor

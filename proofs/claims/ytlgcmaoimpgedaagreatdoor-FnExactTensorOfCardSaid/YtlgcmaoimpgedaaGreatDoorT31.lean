/- Sign Mir RootT Put7 PosS -/
import Derived.Deep.RegionWith
import Derived.Test.YtlgcmaoimpgedaaGreatDoorT24
set_option maxHeartbeats 8000000
set_option maxRecDepth 100000
set_option linter.unusedSimpArgs false
namespace Go.Proofs.YtlgcmaoimpgedaaGreatDoor
open Go.Value renaming slice->qS
section
open Go.RowKit
def upB(r:LI):Bool:=r.any fun x=>decide (0<x)
def dnB(r:LI):Bool:=r.any fun x=>decide (x<0)
def zdq(r:LI):Int:=if upB r=dnB r then 0 else if upB r=true then 1 else -1
theorem zxj(r:LI):zed r=(upB r&&!dnB r):=rfl
theorem zEt(r:LI):decide (0<zdq r)=zed r:=by
 unfold zdq;rw[zxj]
 cases upB r <;> cases dnB r <;> rfl
theorem zEu(r:LI):(zdq r==1)=zed r:=by
 unfold zdq;rw[zxj]
 cases upB r <;> cases dnB r <;> rfl
theorem zxk{r:LI}{u d:Bool}(hu:upB r=u)(hd:dnB r=d):zdq r=if u=d then 0 else if u=true then 1 else -1:=by unfold zdq;rw[hu,hd]
theorem zxl{r:LI}{k:Nat}(hk:k<r.length):upB (r.take (k+1))=(upB (r.take k)||decide (0<r.getD k 0)):=by
 unfold upB;rw[qT hk,List.any_append];simp[List.getD,hk]
theorem zxm{r:LI}{k:Nat}(hk:k<r.length):dnB (r.take (k+1))=(dnB (r.take k)||decide (r.getD k 0<0)):=by
 unfold dnB;rw[qT hk,List.any_append];simp[List.getD,hk]
theorem zoo(g o n cp:Nat)(r:LI)(w:World)(hn:r.length=n)(hx:r.length<=1048576)(hr:zag w g o r):
 Calls Tryz.prog 184 #[(qS (some ⟨g,o,none⟩) n cp)] w (zap w (.int .i64 (zdq r))):=by
 subst hn
 go_enter Tryz.func184,Tryz.ntmps184
 go_wp2;go_loopw [3,4,5] (fun uv dv iv wr=>∃k:Nat,k<=r.length/\uv= .bool (upB (r.take k))/\dv= .bool (dnB (r.take k))/\iv= .int .i64 k/\∃m,wr=w.drewN m) (fun _ _ iv _=>r.length-(intOf iv).toNat)
 case atStart=>exact⟨0,qz _,rfl,rfl,rfl,0,rfl⟩
 case round=>
  obtain⟨k,hk,rfl,rfl,rfl,m,rfl⟩:=hrel;by_cases ac:k<r.length
  ·have q1:=hr k ac;have hu:=zxl ac;have hd:=zxm ac;generalize r.getD k 0=x at q1 hu hd;have Hu:=qd hu;have Hd:=qd hd;clear hu hd;generalize upB (r.take k)=u at*;generalize dnB (r.take k)=d at*
   cases u <;> cases d
   all_goals
    go_wp2;go_roundw
    case rel=>exact⟨k+1,by omega,by rw[Hu.out];simp,by rw[Hd.out];simp,by go_num,m,rfl⟩
    case measure=>simp[intOf];omega
  ·obtain rfl:k=r.length:=by omega
   rw[List.take_length] at*;generalize hu:upB r=u at*;generalize hd:dnB r=d at*;have E:=qd (zxk hu hd);clear hu hd
   cases u <;> cases d
   all_goals
    go_wp2;go_ret;exact⟨congrArg (fun t=>Ending.returned (.int .i64 t)) E.out.symm,m,rfl⟩
theorem zop(g o n cp:Nat)(r:LI)(w:World)(hn:r.length=n)(hx:r.length<=1048576)(hr:zag w g o r):
 Calls Tryz.prog 189 #[(qS (some ⟨g,o,none⟩) n cp)] w (zap w (.int .i64 (zdq r))):=by
 subst hn
 go_enter Tryz.func189,Tryz.ntmps189
 go_wp2;go_loopw [3,4,9] (fun uv dv iv wr=>∃k:Nat,k<=r.length/\uv= .bool (upB (r.take k))/\dv= .bool (dnB (r.take k))/\iv= .int .i64 k/\∃m,wr=w.drewN m) (fun _ _ iv _=>r.length-(intOf iv).toNat)
 case atStart=>exact⟨0,qz _,rfl,rfl,rfl,0,rfl⟩
 case round=>
  obtain⟨k,hk,rfl,rfl,rfl,m,rfl⟩:=hrel;by_cases ac:k<r.length
  ·have q1:=hr k ac;have hu:=zxl ac;have hd:=zxm ac;generalize r.getD k 0=x at q1 hu hd;have Hu:=qd hu;have Hd:=qd hd;clear hu hd;generalize upB (r.take k)=u at*;generalize dnB (r.take k)=d at*
   cases u <;> cases d
   all_goals
    go_wp2;go_roundw
    case rel=>exact⟨k+1,by omega,by rw[Hu.out];simp,by rw[Hd.out];simp,by go_num,m,rfl⟩
    case measure=>simp[intOf];omega
  ·obtain rfl:k=r.length:=by omega
   rw[List.take_length] at*;generalize hu:upB r=u at*;generalize hd:dnB r=d at*;have E:=qd (zxk hu hd);clear hu hd
   cases u <;> cases d
   all_goals
    go_wp2;go_ret;exact⟨congrArg (fun t=>Ending.returned (.int .i64 t)) E.out.symm,m,rfl⟩
end
section
open Go.RowKit Game
theorem zix(gc oc n cc i g o m cp:Nat)(c:LL)(r:LI)(w:World)(hn:c.length=n)(hm:r.length=m)(hi:i<c.length)(mC:i<r.length)(hl:r.length<=(c.getD i []).length)(hx:(c.getD i []).length<=1048576)(ah:gc<w.heap.size)(hg:g<w.heap.size)(hc:zal w gc oc c)(hr:zag w g o r):
 Calls Tryz.prog 191 #[(qS (some ⟨gc,oc,none⟩) n cc),.int .i64 i,(qS (some ⟨g,o,none⟩) m cp)] w (zav w (zbk c i r)):=by
 subst hn;subst hm;have an:r.length<=1048576:=by omega
 have he:zbk c i r=r.set i (wrap64 (r.getD i 0-zfu (c.getD i []) r)):=rfl;obtain⟨ga,oa,ca,q1,q2,q3,q4⟩:=hc i hi;generalize c.getD i []=a at*;have He:=qd he;clear he
 go_enter Tryz.func191,Tryz.ntmps191
 go_wp2_with (at_builtin;refine zaV rfl _ _ rfl g o _ cp r rfl hg hr rfl rfl (by omega) ?_);intro g3 c3 w3 al ag;have q1':=(ag.cell (p:=⟨gc,oc+i,none⟩) ah).trans q1;have aa:=fun W (hW:∃q,W=w3.drewN q)=>zjb ga oa _ ca g o _ cp a r W rfl rfl hl hx ((q4.below ag q3).still hW) ((hr.below ag hg).still hW)
 have aI:=al.cell i mC;have Gp:=al.frozen i;have ab:=qd aa;generalize zfu a r=p at*;generalize r.getD i 0=x at*;clear aa hr hc
 have HS:Hid (∀W,(∃q,W=w3.drewN q)->zav w (zbk c i r) (.returned (qS (some ⟨g3,0,none⟩) r.length c3)) (W.setCell ⟨g3,i,none⟩ (.int .i64 (wrap64 (x-p))))):=fun W hW=>by
  have ho:=al.still hW;have hb:=zaf ag hW;have hs:=ho.set i (wrap64 (x-p));rw[<-He.out] at hs;exact zav.mk' g3 c3 (zdL _ _ _) hs.1 (hb.grown hs.2 hb.size (by intro k hk;cases hk;exact ho.base))
 go_wp2
 go_region_with (go_at_call 200;refine(ab.out _ ⟨_,rfl⟩).mono ?_;rintro e w4 ⟨rfl,q,rfl⟩)
 all_goals
  go_wp2;go_ret;rw[show IntKind.i64.wrap (x-p)=wrap64 (x-p) by simp only[wrap64,IntKind.wrap_i64]];refine HS.out _ ?_;exact(by first|exact⟨_,rfl⟩|exact⟨0,rfl⟩|exact zam _ _ _|exact zan _ _ _ _)
theorem zns(gc oc n cc i g o m cp:Nat)(c:LL)(r:LI)(w:World)(hn:c.length=n)(hm:r.length=m)(hi:i<c.length)(mC:i<r.length)(hl:r.length<=(c.getD i []).length)(hx:(c.getD i []).length<=1048576)(ah:gc<w.heap.size)(hg:g<w.heap.size)(hc:zal w gc oc c)(hr:zag w g o r):
 Calls Tryz.prog 144 #[(qS (some ⟨gc,oc,none⟩) n cc),.int .i64 i,(qS (some ⟨g,o,none⟩) m cp)] w (zav w (zbk c i r)):=by
 subst hn;subst hm;have an:r.length<=1048576:=by omega
 have he:zbk c i r=r.set i (wrap64 (r.getD i 0-zdG (c.getD i []) r r.length)):=rfl;obtain⟨ga,oa,ca,q1,q2,q3,q4⟩:=hc i hi;generalize c.getD i []=a at*;have He:=qd he;clear he
 go_enter Tryz.func144,Tryz.ntmps144
 go_wp2_with (at_builtin;refine zaV rfl _ _ rfl g o _ cp r rfl hg hr rfl rfl (by omega) ?_);intro g3 c3 w3 al ag;have q1':=(ag.cell (p:=⟨gc,oc+i,none⟩) ah).trans q1;have qV:=hr.below ag hg;have ua:=q4.below ag q3;go_wp2;go_loopw [8,9] (fun s kv wr=>∃t q:Nat,t<=r.length/\kv= .int .i64 t/\s= .int .i64 (zdG a r t)/\wr=w3.drewN q) (fun _ kv _=>r.length-(intOf kv).toNat)
 case atStart=>exact⟨0,0,qz _,rfl,rfl,rfl⟩
 case round=>
  obtain⟨t,q,ht,rfl,rfl,rfl⟩:=hrel;by_cases ac:t<r.length
  ·have e1:=ua t (by omega);have e2:=qV t ac;have Pn:t<a.length:=by omega
   have hd:zdG a r (t+1)=wrap64 (zdG a r t+wrap64 (a.getD t 0*r.getD t 0)):=rfl;generalize a.getD t 0=x at*;generalize r.getD t 0=y at*;have Hd:=qd hd;clear hd;generalize zdG a r t=z at*;go_wp2;go_quiet (fail)
   go_wp2;go_roundw
   case rel=>exact⟨t+1,_,by omega,by go_num,by rw[Hd.out],rfl⟩
   case measure=>simp[intOf];omega
  ·obtain rfl:t=r.length:=by omega
   have e2:=qV i mC;have aI:=al.cell i mC;have Gp:=al.frozen i;generalize zdG a r r.length=p at*;generalize r.getD i 0=x at*
   have HS:Hid (∀W,(∃q,W=w3.drewN q)->zav w (zbk c i r) (.returned (qS (some ⟨g3,0,none⟩) r.length c3)) (W.setCell ⟨g3,i,none⟩ (.int .i64 (wrap64 (x-p))))):=fun W hW=>by
    have ho:=al.still hW;have hb:=zaf ag hW;have hs:=ho.set i (wrap64 (x-p));rw[<-He.out] at hs;exact zav.mk' g3 c3 (zdL _ _ _) hs.1 (hb.grown hs.2 hb.size (by intro k hk;cases hk;exact ho.base))
   go_wp2;go_ret;refine HS.out _ ?_;exact(by first|exact⟨_,rfl⟩|exact⟨0,rfl⟩|exact zam _ _ _|exact zan _ _ _ _)
end
section
open Go.RowKit Game
theorem zkR(g1 o1 n1 c1 g2 o2 n2 c2:Nat)(xs ys:LI)(w:World)(dL:xs.length=n1)(da:ys.length=n2)(hx:xs.length<=1048576)(hy:ys.length<=1048576)
 (fh:zag w g1 o1 xs) (gS:zag w g2 o2 ys):
 Calls Tryz.prog 194 #[(qS (some ⟨g1,o1,none⟩) n1 c1),(qS (some ⟨g2,o2,none⟩) n2 c2)] w (zJg w (.int .i64 (zbu xs ys))):=by
 subst dL;subst da;have Ho:Hid (orL [zcM (zak xs) (zak ys),zaM ys xs]=zbu xs ys):=rfl
 go_enter Tryz.func194,Tryz.ntmps194
 go_wp2_with fail;refine(zdE g1 o1 _ c1 xs w rfl hx fh).mono ?_;rintro e w1 ⟨rfl,bh⟩;go_wp2_with fail;refine(zdE g2 o2 _ c2 ys w1 rfl hy (gS.still bh)).mono ?_;rintro e w2 ⟨rfl,aB⟩
 replace aB:=zbg bh aB
 clear bh;generalize zak xs=h1 at*;generalize zak ys=h2 at*;go_wp2_with fail;refine(zlk h1 h2 w2).mono ?_;rintro e w3 ⟨rfl,jX⟩
 replace jX:=zbg aB jX
 clear aB;go_wp2_with fail;refine(zif g2 o2 ys.length c2 g1 o1 xs.length c1 ys xs w3 rfl rfl (by omega) (gS.still jX) (fh.still jX)).mono ?_;rintro e w4 ⟨rfl,ko⟩
 replace ko:=zbg jX ko
 clear jX;generalize zaM ys xs=z at*;generalize zcM h1 h2=y at*;have QB:=qd ko;clear ko;obtain⟨w5,Jv⟩:∃w5,w5=w4.alloc (.cells #[.int .i64 y,.int .i64 z] 3):=⟨_,rfl⟩
 have fK:zag w5 w4.heap.size 0 [y,z]:=by
  obtain⟨q1,q2⟩:w5.cell? ⟨w4.heap.size,0,none⟩=some (.int .i64 y)/\w5.cell? ⟨w4.heap.size,1,none⟩=some (.int .i64 z):=by
   have hh:w5.heap[w4.heap.size]? =some (.cells #[.int .i64 y,.int .i64 z] 3 (0,0)):=by rw[Jv];exact heap_alloc_new _ _
   constructor <;> simp[World.cell?,hh]
  intro j hj;have:j=0∨j=1:=by simp at hj;omega
  rcases this with rfl|rfl
  ·exact q1
  ·exact q2
 have aa:=zKd w4.heap.size 0 2 2 [y,z] w5 rfl (by simp) fK;rw[Jv,Ho.out] at aa;have ab:=qd aa;clear aa fK Jv;go_wp2_with fail;refine ab.out.mono ?_;rintro e w6 ⟨rfl,fX⟩;go_wp2_with fail;go_ret;refine⟨rfl,?_⟩;obtain⟨m4,e4⟩:=QB.out;obtain⟨m6,e6⟩:=fX;refine⟨.cells #[.int .i64 y,.int .i64 z] 3,m4+m6,?_⟩;rw[e6,e4];show((w.alloc _).drewN m4).drewN m6=_;rw[World.drewN_drewN]
theorem zAf:zyn 194 zbu:=fun g1 o1 c1 g2 o2 c2 xs ys w hx hy h1 h2=>
 (zkR g1 o1 _ c1 g2 o2 _ c2 xs ys w rfl rfl hx hy h1 h2).mono fun _ _ h=>zAe h
theorem zAg{xs ys:LI}(hl:xs.length=ys.length):decide (zbu xs ys<0)=if zak xs=zak ys then decide (0<zbK xs ys) else decide (zak xs<zak ys):=by
 rw[zgj];by_cases h:zak xs=zak ys
 ·rw[if_pos (by rw[h];unfold zcM;simp),if_pos h,zeg hl.symm];have h2:=zcB xs ys;rw[zeg hl,zeg hl.symm] at h2;exact decide_eq_decide.2 (by omega)
 ·rw[if_neg (by intro h2;exact h (zfD h2)),if_neg h];exact decide_eq_decide.2 zll
theorem zoq(g1 o1 n1 c1 g2 o2 n2 c2:Nat)(xs ys:LI)(w:World)(dL:xs.length=n1)(da:ys.length=n2)(hl:xs.length=ys.length)(hx:xs.length<=1048576)
 (fh:zag w g1 o1 xs) (gS:zag w g2 o2 ys):
 Calls Tryz.prog 221 #[(qS (some ⟨g1,o1,none⟩) n1 c1),(qS (some ⟨g2,o2,none⟩) n2 c2)] w (zap w (.bool (decide (zbu xs ys<0)))):=by
 subst dL;subst da;have hv:=zAg hl;have jV:ys.length=xs.length:=hl.symm;have hy:ys.length<=1048576:=by omega
 have Hl:=qd jV;clear jV hl;have Hv:=qd hv;clear hv
 go_enter Tryz.func221,Tryz.ntmps221
 go_wp2_with fail;refine(zde g1 o1 _ c1 xs w rfl hx fh).mono ?_;rintro e w1 ⟨rfl,m1,rfl⟩;go_wp2_with fail;refine(zde g2 o2 _ c2 ys (w.drewN m1) rfl hy gS).mono ?_;rintro e w2 ⟨rfl,m2,rfl⟩;by_cases hh:zak xs=zak ys
 ·have hv:=Hv.out;rw[if_pos hh] at hv;have hb:(zak xs != zak ys)=false:=by simp[hh]
  have Gq:=qd hv;clear hv Hv;generalize zak xs=h1 at*;generalize zak ys=h2 at*;clear hh;go_wp2_with fail;go_loopw [7] (fun i wr=>∃k:Nat,k<=xs.length/\i= .int .i64 k/\Hid (zbK xs ys=zbK (xs.drop k) (ys.drop k))/\∃n,wr=w.drewN n) (fun i _=>xs.length-(intOf i).toNat)
  case atStart=>exact⟨0,qz _,rfl,rfl,(by first|exact⟨_,rfl⟩|exact⟨0,rfl⟩|exact zam _ _ _|exact zan _ _ _ _)⟩
  case round=>
   obtain⟨k,hk,rfl,he,n,rfl⟩:=hrel;by_cases ac:k<xs.length
   ·have fc:k<ys.length:=by rw[Hl.out];exact ac
    have h1:=fh k ac;have h2:=gS k fc;have hd:=zkj ac fc;have Hd:=qd hd;clear hd;go_wp2;go_quiet (fail)
    go_wp2
    ·have ht:(xs[k] != ys[k])=true:=by assumption
     go_quiet (fail)
     go_wp2;go_ret;refine⟨zaK ?_,(by first|exact⟨_,rfl⟩|exact⟨0,rfl⟩|exact zam _ _ _|exact zan _ _ _ _)⟩;rw[Gq.out,he.out,Hd.out];have ao:xs[k]≠ys[k]:=by simpa using ht
     by_cases h:xs[k]<ys[k]
     ·rw[if_pos h];simp;omega
     ·rw[if_neg h,if_pos (by omega)];simp;omega
    ·have ht:(xs[k] != ys[k])=false:=by assumption
     have dI:xs[k]=ys[k]:=by simpa using ht
     go_roundw
     case rel=>exact⟨k+1,by omega,by go_num,by show _=_;rw[he.out,Hd.out,if_neg (by omega),if_neg (by omega)],(by first|exact⟨_,rfl⟩|exact⟨0,rfl⟩|exact zam _ _ _|exact zan _ _ _ _)⟩
     case measure=>simp[intOf];omega
   ·obtain rfl:k=xs.length:=by omega
    go_wp2;go_ret;refine⟨zaK ?_,(by first|exact⟨_,rfl⟩|exact⟨0,rfl⟩|exact zam _ _ _|exact zan _ _ _ _)⟩;rw[Gq.out,he.out,List.drop_length];rfl
 ·have hv:=Hv.out;rw[if_neg hh] at hv;have hb:(zak xs != zak ys)=true:=by simp[hh]
  have Gq:=qd hv;clear hv Hv;generalize zak xs=h1 at*;generalize zak ys=h2 at*;clear hh;go_wp2_with fail;go_ret;exact⟨zaK (by rw[Gq.out]),(by first|exact⟨_,rfl⟩|exact⟨0,rfl⟩|exact zam _ _ _|exact zan _ _ _ _)⟩
end
section
open Go.RowKit Game
theorem zIz{x word:LI}{l:LL}(h:zbu word x<0):zcW (x::l) word=word::x::l:=by simp[zcW,h]
theorem zIA{x word:LI}{l:LL}(h:0<=zbu word x):zcW (x::l) word=x::zcW l word:=by simp only[zcW];rw[if_neg (by omega)]
theorem zkS(B0 g cap n g1 o1 n1 c1:Nat)(rs:List RowRef)(word:LI)(w:World)(hn:rs.length=n)(dL:word.length=n1)(hl:rs.length<=1000000)(ry:word.length<=1048576)
 (bI:∀r∈rs,r.2.2.length=word.length) (ho:zab w B0 g cap rs) (bm:g1<w.heap.size) (aI:zag w g1 o1 word):
 Calls Tryz.prog 182 #[(qS (some ⟨g,0,none⟩) n cap),(qS (some ⟨g1,o1,none⟩) n1 c1)] w (zie w B0 (zcW (zaa rs) word)):=by
 subst hn;subst dL;have pM:B0<=w.heap.size:=by have:=ho.base;have:=ho.lt;omega
 have hg:=ho.lt;have mJ:=qd bI;clear bI
 go_enter Tryz.func182,Tryz.ntmps182
 go_wp2;go_loopw [5,6,7] (fun ov pv iv wr=>∃(i p g' c':Nat) (acc:List RowRef) (pl:Bool),i<=rs.length/\iv= .int .i64 i/\pv= .bool pl/\ov=(qS (some ⟨g',0,none⟩) p c')/\Hid (acc.length=p)/\p<=i+1/\Hid (zcT (fun l=>zcW l word) w.heap.size rs i acc pl)/\zab wr B0 g' c' acc/\w.heap.size<=g'/\Below w.heap.size w wr) (fun _ _ iv _=>rs.length-(intOf iv).toNat)
 case atStart=>
  exact⟨0,0,w.heap.size,0,[],false,qz _,rfl,rfl,rfl,rfl,by omega,zcT.start,zab.empty pM,qr _,(Below.refl _ _).alloc (qr _) _⟩
 case round=>
  obtain⟨i,p,g',c',acc,pl,hi,rfl,rfl,rfl,hp,jy,aL,hO,jb,hb⟩:=hrel;by_cases ac:i<rs.length
  ·have hm:rs[i]∈rs:=List.getElem_mem ac;have iS:=ho.2.1 _ hm;have mK:=aL.out.ne ho.2.2 ac iS.lt;have dF:=mJ.out _ hm
   have hq:wr.cell? ⟨g,i,none⟩=some (zah rs[i]):=by
    rw[hb.cell (p:=⟨g,i,none⟩) hg,ho.1.cell i (by simpa using ac)];simp
   have HS:∀(new:List RowRef) (pl':Bool),(∀s∈new,w.heap.size<=s.1)->acc.length+new.length<=i+1->(pl'=false->pl=false/\new=[])->(if pl then zaa (rs.drop i) else zcW (zaa (rs.drop i)) word)=zaa new++rs[i].2.2::(if pl' then zaa (rs.drop (i+1)) else zcW (zaa (rs.drop (i+1))) word)->zcT (fun l=>zcW l word) w.heap.size rs (i+1) (acc++new++[rs[i]]) pl':=
    fun new pl' h1 h2 h3 h4=>aL.out.step ac new pl' h1 h2 h3 h4
   have vd:=qd HS;have rT:=zlY rs ac;have np:=qd rT;have am:=aL.out.lenF;have cg:=qd am;clear HS rT am;generalize rs[i]=r at*;obtain⟨bi,ci,xi⟩:=r;have eK:wr.cell? ⟨g,i,none⟩=some (qS (some ⟨bi,0,none⟩) xi.length ci):=hq;have aU:Own wr B0 bi ci xi:=iS.below hb iS.lt;have fM:xi.length=word.length:=dF;have lT:=aI.below hb bm;have Bo:=aU.cells;have dB:=zoq g1 o1 _ c1 bi 0 _ ci word xi wr rfl rfl fM.symm ry lT Bo;have gf:=qd mK;have bX:bi<w.heap.size:=iS.lt;have bP:p<=i+1:=jy;have Ho:=qd ho;have gI:=qd aL;clear hq iS hm mK ho aL lT Bo dF fM
   cases pl with
   |true=>
    clear dB;clear cg;have aB:∃n,wr=wr.drewN n:=⟨0,rfl⟩;have pN:wr.cell? ⟨g,i,none⟩=some (qS (some ⟨bi,0,none⟩) xi.length ci):=(zau aB _).trans eK;have bk:=zaf hb aB;have dG:=hO.still aB;have bz:=aU.still aB;have eX:=jb;clear hb hO aU eK aB;have ft:=gf.out;go_wp2_with (at_builtin;refine zao rfl _ _ rfl B0 g' _ (p) wr.heap.size (acc) (bi,ci,xi) _ hp.out rfl rfl dG bz ft rfl rfl (by omega) ?_);intro g5 c5 w5 eW eF cY;have bj:Below w.heap.size w w5:=bk.grown eF bk.size (by intro j hj;cases hj;exact eX)
    have fu:w.heap.size<=g5:=by
     rcases cY with h|h
     ·omega
     ·have:=bk.size;omega
    go_wp2;go_roundw
    case rel=>
     refine⟨i+1,p+1,g5,c5,acc++[(bi,ci,xi)],true,by omega,by go_num,by first|rfl|trivial,by first|rfl|trivial,?_,by omega,?_,eW,fu,bj⟩
     ·show _=_;have:=hp.out;simp at this ⊢;omega
     ·show zcT _ _ _ _ _ _;have:=vd.out [] true (by simp) (by rw[hp.out];simpa using bP) (by simp) (by simp only[if_true];rw[np.out];rfl);simpa using this
    case measure=>simp[intOf];omega
   |false=>
    by_cases hv:zbu word xi<0
    ·rw[decide_eq_true hv] at dB;have HG:=qd dB;have Hv:=qd hv;clear hv dB;have jy:p<=i:=by have:=cg.out rfl;have:=hp.out;omega
     clear cg;have bB:=HG;go_wp2_with fail;refine bB.out.mono ?_;rintro e w6 ⟨rfl,aB⟩;clear bB HG;have pN:w6.cell? ⟨g,i,none⟩=some (qS (some ⟨bi,0,none⟩) xi.length ci):=(zau aB _).trans eK;have bk:=zaf hb aB;have dG:=hO.still aB;have bz:=aU.still aB;have eX:=jb;clear hb hO aU eK aB;go_wp2_with (at_builtin;refine zaV (w:=w6) rfl _ _ rfl g1 o1 _ c1 word rfl (qL bm bk.size) (aI.below bk bm) rfl rfl (by omega) ?_);intro g3 c3 w3 al ag;have ap:Below w.heap.size w w3:=bk.trans (ag.mono bk.size);have bg:zab w3 B0 g' c' acc:=dG.below ag
     have dz:∀s∈acc,s.1≠g3:=fun s hs e=>by
      have h1:=(dG.2.1 s hs).lt;have h2:=al.base;omega
     have aK:w.heap.size<=g3:=by have:=al.base;have:=bk.size;omega
     have cn:Own w3 B0 g3 c3 word:=al.mono (by have:=bk.size;omega);have iu:Own w3 B0 bi ci xi:=bz.below ag bz.lt;have ua:w3.cell? ⟨g,i,none⟩=some (qS (some ⟨bi,0,none⟩) xi.length ci):=(ag.cell (p:=⟨g,i,none⟩) (qL hg bk.size)).trans pN;clear pN bz dG bk ag;go_wp2_with (at_builtin;refine zao rfl _ _ rfl B0 g' c' p w3.heap.size acc (g3,c3,word) _ hp.out rfl rfl bg cn dz rfl rfl (by omega) ?_);intro g4 c4 w4 dG aT bq;have bk:Below w.heap.size w w4:=ap.grown aT ap.size (by intro j hj;cases hj;exact jb);have bz:Own w4 B0 bi ci xi:=iu.grown aT (fun e=>bg.1.ne iu.toV (by decide) (Option.some.inj e).symm)
     have eX:w.heap.size<=g4:=by
      rcases bq with h|h
      ·omega
      ·have:=ap.size;omega
     have pN:w4.cell? ⟨g,i,none⟩=some (qS (some ⟨bi,0,none⟩) xi.length ci):=aT.cell (a:=⟨g,i,none⟩) ua (by simp;omega)
     have ft:∀s∈acc++[(g3,c3,word)],s.1≠bi:=fun s hs=>by
      rcases List.mem_append.1 hs with h|h
      ·exact gf.out s h
      ·simp at h;subst h;show g3≠bi;omega
     have wP:(acc++[(g3,c3,word)]).length=p+1:=by rw[qA,hp.out];rfl
     have yM:=qd wP;clear ua iu bg ap aT bq al cn dz wP;go_wp2_with (at_builtin;refine zao rfl _ _ rfl B0 g4 _ (p+1) w4.heap.size (acc++[(g3,c3,word)]) (bi,ci,xi) _ yM.out rfl rfl dG bz ft rfl rfl (by omega) ?_);intro g5 c5 w5 eW eF cY;have bj:Below w.heap.size w w5:=bk.grown eF bk.size (by intro j hj;cases hj;exact eX)
     have fu:w.heap.size<=g5:=by
      rcases cY with h|h
      ·omega
      ·have:=bk.size;omega
     go_wp2;go_roundw
     case rel=>
      refine⟨i+1,p+1+1,g5,c5,acc++[(g3,c3,word),(bi,ci,xi)],true,by omega,by go_num,by first|rfl|trivial,by first|rfl|trivial,?_,by omega,?_,eW,fu,bj⟩
      ·show _=_;have:=yM.out;simp at this ⊢;omega
      ·show zcT _ _ _ _ _ _;have:=vd.out [(g3,c3,word)] true (by intro s hs;simp at hs;subst hs;exact aK) (by rw[hp.out];simpa using jy) (by intro e;simp at e) (by simp only[if_true];rw[np.out];exact(zIz Hv.out));simpa using this
     case measure=>simp[intOf];omega
    ·rw[decide_eq_false hv] at dB;have HG:=qd dB;have Hv:=qd hv;clear hv dB;have jy:p<=i:=by have:=cg.out rfl;have:=hp.out;omega
     clear cg;have bB:=HG;go_wp2_with fail;refine bB.out.mono ?_;rintro e w6 ⟨rfl,aB⟩;clear bB HG;have pN:w6.cell? ⟨g,i,none⟩=some (qS (some ⟨bi,0,none⟩) xi.length ci):=(zau aB _).trans eK;have bk:=zaf hb aB;have dG:=hO.still aB;have bz:=aU.still aB;have eX:=jb;clear hb hO aU eK aB;have ft:=gf.out;go_wp2_with (at_builtin;refine zao rfl _ _ rfl B0 g' _ (p) w6.heap.size (acc) (bi,ci,xi) _ hp.out rfl rfl dG bz ft rfl rfl (by omega) ?_);intro g5 c5 w5 eW eF cY;have bj:Below w.heap.size w w5:=bk.grown eF bk.size (by intro j hj;cases hj;exact eX)
     have fu:w.heap.size<=g5:=by
      rcases cY with h|h
      ·omega
      ·have:=bk.size;omega
     go_wp2;go_roundw
     case rel=>
      refine⟨i+1,p+1,g5,c5,acc++[(bi,ci,xi)],false,by omega,by go_num,by first|rfl|trivial,by first|rfl|trivial,?_,by omega,?_,eW,fu,bj⟩
      ·show _=_;have:=hp.out;simp at this ⊢;omega
      ·show zcT _ _ _ _ _ _;have:=vd.out [] false (by simp) (by rw[hp.out];simpa using bP) (by simp) (by rw[np.out];exact(zIA Hv.out));simpa using this
     case measure=>simp[intOf];omega
  ·obtain rfl:i=rs.length:=by omega
   cases pl with
   |true=>
    go_wp2_with fail;go_ret;have hd:=aL.out.done;exact zie.mk' g' c' acc hp.out hd hO jb hb
   |false=>
    go_wp2_with (at_builtin;refine zaV (w:=wr) rfl _ _ rfl g1 o1 _ c1 word rfl (qL bm hb.size) (aI.below hb bm) rfl rfl (by omega) ?_);intro g3 c3 w3 al ag;have ap:Below w.heap.size w w3:=hb.trans (ag.mono hb.size);have bg:zab w3 B0 g' c' acc:=hO.below ag
    have dz:∀s∈acc,s.1≠g3:=fun s hs e=>by
     have h1:=(hO.2.1 s hs).lt;have h2:=al.base;omega
    have cn:Own w3 B0 g3 c3 word:=al.mono (by have:=hb.size;omega);go_wp2_with (at_builtin;refine zao rfl _ _ rfl B0 g' c' p w3.heap.size acc (g3,c3,word) _ hp.out rfl rfl bg cn dz rfl rfl (by omega) ?_);intro g4 c4 w4 cV aT bq;have aG:Below w.heap.size w w4:=ap.grown aT ap.size (by intro j hj;cases hj;exact jb)
    have rU:w.heap.size<=g4:=by
     rcases bq with h|h
     ·omega
     ·have:=ap.size;omega
    go_wp2_with fail;go_ret;have hd:=aL.out.last (g3,c3,word) rfl;exact zie.mk' g4 c4 (acc++[(g3,c3,word)]) (by rw[qA,hp.out];rfl) hd cV rU aG
end
section
open Go.RowKit
def Rl(n:Nat)(Q:LL):Prop:=∀x∈Q,x.length=n
theorem Rl.put{n:Nat}{Q:LL}{v:LI}(h:Rl n Q)(hv:v.length=n):Rl n (zcW Q v):=fun x hx=>by
 rcases zfE.1 hx with rfl|hx
 ·exact hv
 ·exact h x hx
theorem Rl.step{n:Nat}{c Q:LL}{k i:Nat}(h:Rl n Q)(hk:k<Q.length):Rl n (zdt c Q k i):=fun x hx=>by
 rcases zlm hx with hx|⟨rfl,-,-⟩
 ·exact h x hx
 ·rw[zdL];exact h _ (by simp[List.getD,hk])
theorem Rl.row{n:Nat}{c Q:LL}{k:Nat}(h:Rl n Q)(hk:k<Q.length):∀i,Rl n (upRow c Q k i)
 |0=>h
 |i+1=>Rl.step (Rl.row h hk i) (qL hk (zig i))
theorem Rl.start(n:Nat):∀i,Rl n (zeM n i)
 |0=>fun _ h=>by cases h
 |i+1=>(Rl.start n i).put (zds n i)
theorem Rl.go{n:Nat}{c:LL}:∀(f k:Nat) (Q:LL),Rl n Q->Rl n (upGo c f k Q)
 |0,_,_,h=>h
 |f+1,k,Q,h=>by
  unfold upGo
  split
  ·rename_i hk
   exact Rl.go f (k+1) _ (h.row hk _)
  ·exact h
theorem zxn(c:LL):Rl c.length (zaq c):=Rl.go _ _ _ (Rl.start _ _)
theorem zyr{c Q:LL}{k i:Nat}:∀j,i<=j->(upRow c Q k i).length<=(upRow c Q k j).length:=by
 intro j hj
 induction j with
 |zero=>obtain rfl:i=0:=by omega
        exact qr _
 |succ j ih=>
  by_cases e:i=j+1
  ·subst e;exact qr _
  ·exact qt (ih (by omega)) zpZ
theorem zys{c Q:LL}{k i:Nat}{x r:LI}(hx:Q.getD k []=x)(hr:zbk c i x=r)(h1:zed r=true)(h2:zak r<=12)(h3:zak x<zak r)(h4:r ∉ Q):zdt c Q k i=zcW Q r:=by
 unfold zdt;simp only[hx,hr];rw[if_pos ⟨h1,h2,h3,h4⟩]
theorem zwE{c Q:LL}{k i:Nat}{x r:LI}(hx:Q.getD k []=x)(hr:zbk c i x=r)(h:¬(zed r=true/\zak r<=12/\zak x<zak r/\r ∉ Q)):zdt c Q k i=Q:=by
 unfold zdt;simp only[hx,hr];rw[if_neg h]
theorem zor(gc oc n cc:Nat)(c:LL)(w:World)(hn:c.length=n)(hC:IsC c)(hP:zbI c)(ah:gc<w.heap.size)(hr:zal w gc oc c):
 Calls Tryz.prog 142 #[(qS (some ⟨gc,oc,none⟩) n cc),.int .i64 12] w (zbC w (zaq c)):=by
 subst hn;have aR:=hC.2.1;have bD:∀j,j<c.length->(c.getD j []).length=c.length:=hC.2.2.1;have dY:=qd bD;clear bD;have Hr:=qd hr;clear hr;have aN:Below w.heap.size w (w.alloc (.cells #[] 25)):=(Below.refl _ _).alloc (qr _) _;have MW:zab (w.alloc (.cells #[] 25)) w.heap.size w.heap.size 0 []:=zab.empty (qr _);have aa:=zbD gc oc _ cc c _ rfl (by omega) (fun j hj=>by rw[dY.out j hj];omega) (Hr.out.below aN ah);rw[decide_eq_true hC] at aa;have ab:=qd aa;have iq:=qd (fun W=>zdJ 12 1 12 W);have sd:=qd hP.few;have QC:=qd (zxn c);have Bt:upGo c 25 0 (zeM c.length c.length)=zaq c:=rfl;have Dc:=qd Bt;clear aa Bt;generalize zaq c=L at*
 go_enter Tryz.func142,Tryz.ntmps142
 go_wp2_with fail;refine ab.out.mono ?_;rintro e w1 ⟨rfl,bh⟩;have ad:=zaf aN bh;have MX:=MW.still bh;clear bh ab aN MW;go_wp2_with fail;refine(iq.out _).mono ?_;rintro e w2 ⟨rfl,aB⟩;have ae:=zaf ad aB;have gH:=MX.still aB;clear aB ad MX;go_wp2_with fail;go_loopw [5,6] (fun ov kv wr=>∃(k gO cO:Nat) (rsO:List RowRef),k<=c.length/\kv= .int .i64 k/\ov=(qS (some ⟨gO,0,none⟩) k cO)/\Hid (rsO.length=k)/\Hid (zaa rsO=zeM c.length k)/\zab wr w.heap.size gO cO rsO/\Below w.heap.size w wr) (fun _ kv _=>c.length-(intOf kv).toNat)
 case atStart=>exact⟨0,_,0,[],qz _,rfl,rfl,rfl,rfl,gH,ae⟩
 case round=>
  clear gH ae;obtain⟨k,gO,cO,rsO,hk,rfl,rfl,jk,hQ,hO,hb⟩:=hrel;by_cases ac:k<c.length
  ·have cC:=zds c.length k;have an:∀r∈rsO,r.2.2.length=c.length:=fun r hr=>Rl.start c.length k _ (by rw[<-hQ.out];exact List.mem_map.2 ⟨r,hr,rfl⟩)
   have fk:zcW (zaa rsO) (zbn c.length k)=zeM c.length (k+1):=by rw[hQ.out];rfl
   have nt:=qd fk;have aa:=zmn gc oc _ cc k c wr rfl hC ac (Hr.out.below hb ah);have ab:=qd aa;have nl:=qd an;clear aa fk an hQ;generalize zbn c.length k=x at*;have fH:=qd cC;clear cC;go_wp2_with fail;refine ab.out.mono ?_;rintro e w4 ⟨g4,c4,rfl,aw,aM⟩;clear ab;have aG:=hb.trans (aM.mono hb.size);have cV:=hO.below aM;rw[fH.out];have iA:=zkS w.heap.size gO cO k g4 0 c.length c4 rsO x w4 jk.out fH.out (by rw[jk.out];omega) (by rw[fH.out];omega) (fun r hr=>by rw[nl.out r hr,fH.out]) cV aw.lt aw.cells;have jB:=qd iA;clear iA hO hb aM aw cV;go_wp2_with fail;refine jB.out.mono ?_;rintro e w5 ⟨g5,c5,rs5,rfl,fK,eW,-,aQ⟩;have bj:=aG.trans (aQ.mono aG.size);have zp:(zcW (zaa rsO) x).length=k+1:=by rw[zkk,zac,jk.out]
   rw[zp];have lw:rs5.length=k+1:=by rw[<-zp,<-fK,zac]
   have Dd:=qd lw;have zq:=qd (fK.trans nt.out);clear zp lw fK jB aQ aG;go_wp2_with fail;go_roundw
   case rel=>exact⟨k+1,g5,c5,rs5,by omega,by go_num,rfl,Dd.out,zq.out,eW,bj⟩
   case measure=>simp[intOf];omega
  ·obtain rfl:k=c.length:=by omega
   rw[<-hQ.out] at Dc;have De:Hid (Rl c.length (zaa rsO)):=qd (by rw[hQ.out];exact Rl.start _ _);go_wp2_with fail;go_loopw [5,7] (fun ov kv wr=>∃(k gO cO nQ:Nat) (rsO:List RowRef),kv= .int .i64 k/\ov=(qS (some ⟨gO,0,none⟩) nQ cO)/\Hid (rsO.length=nQ)/\k<=nQ/\nQ<=24/\Hid (Rl c.length (zaa rsO))/\Hid (upGo c (25-k) k (zaa rsO)=L)/\zab wr w.heap.size gO cO rsO/\Below w.heap.size w wr) (fun _ kv _=>25-(intOf kv).toNat)
   case atStart=>exact⟨0,gO,cO,c.length,rsO,rfl,rfl,jk,by omega,by omega,De,Dc.out,hO,hb⟩
   case round=>
    clear hO hb hQ jk Dc hk ac De;obtain⟨k,gO,cO,nQ,rsO,rfl,rfl,jk,hk,jY,an,Bt,hO,hb⟩:=hrel;by_cases ac:k<nQ
    ·have nB:k<(zaa rsO).length:=by rw[zac,jk.out];exact ac
     have e25:25-k=(24-k)+1:=by omega
     have vh:=Bt.out;rw[e25,zzl nB] at vh;generalize Df:zaa rsO=Q at*
     have iT:(upRow c Q k c.length).length<=24:=by
      have h1:=ztx (c:=c) (24-k) (k+1) (upRow c Q k c.length);rw[vh] at h1;exact qt h1 sd.out
     have pR:=qd vh;have Dg:=qd iT;have MY:=qd Df;have MZ:=qd nB;clear vh iT e25 Bt Df nB;go_wp2_with fail;go_loopw [5,8] (fun ov iv wi=>∃(i gO cO nQ:Nat) (rsO:List RowRef),i<=c.length/\iv= .int .i64 i/\ov=(qS (some ⟨gO,0,none⟩) nQ cO)/\Hid (rsO.length=nQ)/\k<nQ/\nQ<=24/\Hid (zaa rsO=upRow c Q k i)/\zab wi w.heap.size gO cO rsO/\Below w.heap.size w wi) (fun _ iv _=>c.length-(intOf iv).toNat)
     case atStart=>exact⟨0,gO,cO,nQ,rsO,qz _,rfl,rfl,jk,ac,jY,MY.out,hO,hb⟩
     case round=>
      clear hO hb jk hk jY ac MY;obtain⟨i,gO,cO,nQ,rsO,hi,rfl,rfl,jk,hk,jY,hQ,hO,hb⟩:=hrel;by_cases bG:i<c.length
      ·have Gr:k<rsO.length:=by rw[jk.out];exact hk
       have Jw:Rl c.length (zaa rsO):=by rw[hQ.out];exact an.out.row MZ.out i
       have cG:upRow c Q k (i+1)=zdt c (zaa rsO) k i:=by simp only[upRow];rw[hQ.out]
       have wU:=zyr (c:=c) (Q:=Q) (k:=k) (i:=i+1) c.length (by omega);have kj:(zaa rsO).getD k []=rsO[k].2.2:=by simp[zaa,List.getD,Gr]
       have dF:rsO[k].2.2.length=c.length:=Jw _ (List.mem_map.2 ⟨rsO[k],List.getElem_mem Gr,rfl⟩);have Na:∀W,zab W w.heap.size gO cO rsO->W.cell? ⟨gO,k,none⟩=some (zah rsO[k])/\Own W w.heap.size rsO[k].1 rsO[k].2.1 rsO[k].2.2:=fun W h=>⟨by rw[h.1.cell k (by simpa using Gr)];simp,h.2.1 _ (List.getElem_mem Gr)⟩
       generalize rsO[k]=ro at*;obtain⟨bo,co,x⟩:=ro;have HO:Hid (∀W,zab W w.heap.size gO cO rsO->W.cell? ⟨gO,k,none⟩=some (qS (some ⟨bo,0,none⟩) x.length co)/\Own W w.heap.size bo co x):=Na;have zr:(zaa rsO).getD k []=x:=kj;have fM:x.length=c.length:=dF;clear kj dF Na;have jh:=zdL c i x;have db:=fun(r:LI) (hr:zbk c i x=r)=>zys (c:=c) (Q:=zaa rsO) (k:=k) (i:=i) zr hr
       have hold:=fun(r:LI) (hr:zbk c i x=r)=>zwE (c:=c) (Q:=zaa rsO) (k:=k) (i:=i) zr hr
       have aa:=fun W (hW:Below w.heap.size w W) (QD:bo<W.heap.size) (hx:zag W bo 0 x)=>zns gc oc c.length cc i bo 0 x.length co c x W rfl rfl bG (by rw[fM];exact bG) (by rw[dY.out i bG,fM];exact qr _) (by rw[dY.out i bG];omega) (qL ah hW.size) QD (Hr.out.below hW ah) hx
       obtain⟨Nc,bN⟩:=HO.out wr hO;have se:=aa wr hb bN.lt bN.cells;generalize hr:zbk c i x=r at*;have nY:=qd se;have sf:=db r rfl;have si:=hold r rfl;rw[<-cG] at sf si;have fN:=qd sf;have lD:=qd si;have Dh:=qd wU;have eo:=qd fM;have qM:=qd jh;have Ng:=qd Jw;clear db hold sf si aa se cG wU zr fM jh bN hr Jw;go_wp2_with fail;refine nY.out.mono ?_;rintro e w4 ⟨g4,c4,rfl,aw,aM⟩;have aG:=hb.trans (aM.mono hb.size);have cV:=hO.below aM;rw[qM.out,eo.out];have mM:Hid (r.length=c.length):=qd (qM.out.trans eo.out);clear nY hO hb Nc;obtain⟨Nc,bN⟩:=HO.out w4 cV;have Hs:=qd (fun q=>zoo g4 0 c.length c4 r (w4.drewN q) mM.out (by rw[mM.out];omega) (aw.cells.still ⟨q,rfl⟩));have Hh:=qd (fun q=>zde g4 0 c.length c4 r (w4.drewN q) mM.out (by rw[mM.out];omega) (aw.cells.still ⟨q,rfl⟩));have Hx:=qd (fun q=>zde bo 0 x.length co x (w4.drewN q) rfl (by rw[eo.out];omega) (bN.cells.still ⟨q,rfl⟩));have Hi:=qd (fun q=>ziq gO 0 nQ cO g4 0 c.length c4 (zaa rsO) r (w4.drewN q) (by rw[zac];exact jk.out) mM.out (by rw[zac,jk.out];omega) (fun j hj=>by rw[Ng.out _ (by simp[List.getD,hj])];omega) (cV.rows2.still ⟨q,rfl⟩) (aw.cells.still ⟨q,rfl⟩));clear bN;have jm:=zEt r;by_cases h1:zed r=true
       ·have d1:decide (0<zdq r)=true:=by rw[jm];exact h1
        by_cases h2:zak r<=12
        ·have d2:decide (zak r<=12)=true:=decide_eq_true h2;by_cases h3:r∈zaa rsO
         ·rw[decide_eq_true h3] at Hi;have vk:=qd (lD.out (fun h=>h.2.2.2 h3)).symm;generalize zdq r=sg at*;generalize zak r=hr at*;generalize zak x=hx at*;clear jm;clear h1 h2 h3;clear lD fN;go_wp2_with fail;go_quiet (first|(go_at_call 184;first|with_reducible exact Calls.quiet_of (Hs.out _)|with_reducible exact zap.quiet4 (Hs.out _))|(go_at_call_of 52 (qS (some ⟨g4,0,none⟩) c.length c4);first|with_reducible exact Calls.quiet_of (Hh.out _)|with_reducible exact zap.quiet4 (Hh.out _))|(go_at_call 176;first|with_reducible exact Calls.quiet_of (Hi.out _)|with_reducible exact zap.quiet4 (Hi.out _))|(go_at_call_of 52 (qS (some ⟨bo,0,none⟩) x.length co);first|with_reducible exact Calls.quiet_of (Hx.out _)|with_reducible exact zap.quiet4 (Hx.out _)))
          go_wp2_with fail;go_roundw
          case rel=>exact⟨i+1,gO,cO,nQ,rsO,by omega,by go_num,rfl,jk,hk,jY,vk.out,cV.still ⟨_,rfl⟩,zaf aG ⟨_,rfl⟩⟩
          case measure=>simp[intOf];omega
         ·rw[decide_eq_false h3] at Hi;by_cases h4:zak x<zak r
          ·have d4:decide (zak x<zak r)=true:=decide_eq_true h4;have pe:=(fN.out h1 h2 h4 h3).symm;have zp:(zcW (zaa rsO) r).length=nQ+1:=by rw[zkk,zac,jk.out]
           have vn:nQ+1<=24:=by rw[<-zp,pe];exact qt Dh.out Dg.out
           have iA:=fun q=>zkS w.heap.size gO cO nQ g4 0 c.length c4 rsO r (w4.drewN q) jk.out mM.out (by rw[jk.out];omega) (by rw[mM.out];omega) (fun y hy=>by rw[Ng.out _ (List.mem_map.2 ⟨y,hy,rfl⟩),mM.out]) (cV.still ⟨q,rfl⟩) aw.lt (aw.cells.still ⟨q,rfl⟩)
           have jB:=qd iA;have vk:=qd pe;have Nh:=qd zp;generalize zdq r=sg at*;generalize zak r=hr at*;generalize zak x=hx at*;clear jm;clear h1 h2 h3 h4 iA pe zp lD fN;go_wp2_with fail;go_quiet (first|(go_at_call 184;first|with_reducible exact Calls.quiet_of (Hs.out _)|with_reducible exact zap.quiet4 (Hs.out _))|(go_at_call_of 52 (qS (some ⟨g4,0,none⟩) c.length c4);first|with_reducible exact Calls.quiet_of (Hh.out _)|with_reducible exact zap.quiet4 (Hh.out _))|(go_at_call 176;first|with_reducible exact Calls.quiet_of (Hi.out _)|with_reducible exact zap.quiet4 (Hi.out _))|(go_at_call_of 52 (qS (some ⟨bo,0,none⟩) x.length co);first|with_reducible exact Calls.quiet_of (Hx.out _)|with_reducible exact zap.quiet4 (Hx.out _)))
           go_wp2_with fail;refine(jB.out _).mono ?_;rintro e w5 ⟨g5,c5,rs5,rfl,fK,eW,-,aQ⟩;have bj:Below w.heap.size w w5:=Below.trans (below_drewN aG _) (aQ.mono aG.size);rw[Nh.out];have lw:rs5.length=nQ+1:=by rw[<-Nh.out,<-fK,zac]
           have Dd:=qd lw;have zq:=qd (fK.trans vk.out);clear lw fK jB aQ;go_wp2_with fail;go_roundw
           case rel=>exact⟨i+1,g5,c5,nQ+1,rs5,by omega,by go_num,rfl,Dd.out,by omega,vn,zq.out,eW,bj⟩
           case measure=>simp[intOf];omega
          ·have d4:decide (zak x<zak r)=false:=decide_eq_false h4;have vk:=qd (lD.out (fun h=>h4 h.2.2.1)).symm;generalize zdq r=sg at*;generalize zak r=hr at*;generalize zak x=hx at*;clear jm;clear h1 h2 h3 h4;clear lD fN;go_wp2_with fail;go_quiet (first|(go_at_call 184;first|with_reducible exact Calls.quiet_of (Hs.out _)|with_reducible exact zap.quiet4 (Hs.out _))|(go_at_call_of 52 (qS (some ⟨g4,0,none⟩) c.length c4);first|with_reducible exact Calls.quiet_of (Hh.out _)|with_reducible exact zap.quiet4 (Hh.out _))|(go_at_call 176;first|with_reducible exact Calls.quiet_of (Hi.out _)|with_reducible exact zap.quiet4 (Hi.out _))|(go_at_call_of 52 (qS (some ⟨bo,0,none⟩) x.length co);first|with_reducible exact Calls.quiet_of (Hx.out _)|with_reducible exact zap.quiet4 (Hx.out _)))
           go_wp2_with fail;go_roundw
           case rel=>exact⟨i+1,gO,cO,nQ,rsO,by omega,by go_num,rfl,jk,hk,jY,vk.out,cV.still ⟨_,rfl⟩,zaf aG ⟨_,rfl⟩⟩
           case measure=>simp[intOf];omega
        ·have d2:decide (zak r<=12)=false:=decide_eq_false h2;have vk:=qd (lD.out (fun h=>h2 h.2.1)).symm;generalize zdq r=sg at*;generalize zak r=hr at*;generalize zak x=hx at*;clear jm;clear h1 h2;clear lD fN;go_wp2_with fail;go_quiet (first|(go_at_call 184;first|with_reducible exact Calls.quiet_of (Hs.out _)|with_reducible exact zap.quiet4 (Hs.out _))|(go_at_call_of 52 (qS (some ⟨g4,0,none⟩) c.length c4);first|with_reducible exact Calls.quiet_of (Hh.out _)|with_reducible exact zap.quiet4 (Hh.out _))|(go_at_call 176;first|with_reducible exact Calls.quiet_of (Hi.out _)|with_reducible exact zap.quiet4 (Hi.out _))|(go_at_call_of 52 (qS (some ⟨bo,0,none⟩) x.length co);first|with_reducible exact Calls.quiet_of (Hx.out _)|with_reducible exact zap.quiet4 (Hx.out _)))
         go_wp2_with fail;go_roundw
         case rel=>exact⟨i+1,gO,cO,nQ,rsO,by omega,by go_num,rfl,jk,hk,jY,vk.out,cV.still ⟨_,rfl⟩,zaf aG ⟨_,rfl⟩⟩
         case measure=>simp[intOf];omega
       ·have d1:decide (0<zdq r)=false:=by rw[jm];simpa using h1
        have vk:=qd (lD.out (fun h=>h1 h.1)).symm;generalize zdq r=sg at*;generalize zak r=hr at*;generalize zak x=hx at*;clear jm;clear h1;clear lD fN;go_wp2_with fail;go_quiet (first|(go_at_call 184;first|with_reducible exact Calls.quiet_of (Hs.out _)|with_reducible exact zap.quiet4 (Hs.out _))|(go_at_call_of 52 (qS (some ⟨g4,0,none⟩) c.length c4);first|with_reducible exact Calls.quiet_of (Hh.out _)|with_reducible exact zap.quiet4 (Hh.out _))|(go_at_call 176;first|with_reducible exact Calls.quiet_of (Hi.out _)|with_reducible exact zap.quiet4 (Hi.out _))|(go_at_call_of 52 (qS (some ⟨bo,0,none⟩) x.length co);first|with_reducible exact Calls.quiet_of (Hx.out _)|with_reducible exact zap.quiet4 (Hx.out _)))
        go_wp2_with fail;go_roundw
        case rel=>exact⟨i+1,gO,cO,nQ,rsO,by omega,by go_num,rfl,jk,hk,jY,vk.out,cV.still ⟨_,rfl⟩,zaf aG ⟨_,rfl⟩⟩
        case measure=>simp[intOf];omega
      ·obtain rfl:i=c.length:=by omega
       have zu:=pR.out;rw[<-hQ.out] at zu;have qV:Rl c.length (zaa rsO):=by rw[hQ.out];exact an.out.row MZ.out _
       have e24:25-(k+1)=24-k:=by omega
       have Jx:Hid (upGo c (25-(k+1)) (k+1) (zaa rsO)=L):=qd (by rw[e24];exact zu);have QE:=qd qV;clear zu qV e24;go_wp2_with fail;go_roundw
       case rel=>exact⟨k+1,gO,cO,nQ,rsO,by go_num,rfl,jk,by omega,jY,QE.out,Jx.out,hO,hb⟩
       case measure=>simp[intOf];omega
    ·obtain rfl:k=nQ:=by omega
     have vo:=Bt.out;rw[zzm (by rw[zac,jk.out];exact qr _)] at vo;have Jy:=qd vo;have QF:Hid (L.length=k):=qd (by rw[<-vo,zac,jk.out]);clear vo;go_wp2_with fail;go_ret;exact⟨gO,cO,rsO,congrArg (fun t=>Ending.returned (.slice (some ⟨gO,0,none⟩) t cO)) QF.out.symm,Jy.out,hO,hb⟩
theorem zkw(gc oc n cc:Nat)(c:LL)(w:World)(hn:c.length=n)(hC:IsC c)(hP:zbI c)(ah:gc<w.heap.size)(hr:zal w gc oc c)(hf:∀W,Below w.heap.size w W->Calls Tryz.prog 63 #[(qS (some ⟨gc,oc,none⟩) n cc)] W (zbb W (.bool true))):
 Calls Tryz.prog 94 #[(qS (some ⟨gc,oc,none⟩) n cc)] w (zaj w (zaq c) true):=by
 have Hf:=qd (hf w (Below.refl _ _));have Hr:=qd (fun W (hW:Below w.heap.size w W)=>zor gc oc n cc c W hn hC hP (qL ah hW.size) (hr.below hW ah));clear hr hf hn
 go_enter Tryz.func94,Tryz.ntmps94
 go_wp2_with fail;refine Hf.out.mono ?_;rintro e w1 ⟨rfl,ad⟩;go_wp2_with fail;refine(Hr.out w1 ad).mono ?_;rintro e w2 ⟨g,cp,rs,rfl,Db,ho,ae⟩;go_wp2_with fail;go_ret2;exact⟨g,cp,rs,rfl,Db,ho.mono ad.size,ad.trans (ae.mono ad.size)⟩
theorem zkx(gc oc n cc:Nat)(w:World)(hf:Calls Tryz.prog 63 #[(qS (some ⟨gc,oc,none⟩) n cc)] w (zbb w (.bool false))):
 Calls Tryz.prog 94 #[(qS (some ⟨gc,oc,none⟩) n cc)] w (zaj w [] false):=by
 have Hf:=qd hf;clear hf
 go_enter Tryz.func94,Tryz.ntmps94
 go_wp2_with fail;refine Hf.out.mono ?_;rintro e w1 ⟨rfl,ad⟩;go_wp2_with fail;go_ret2;exact⟨_,0,[],rfl,rfl,zab.empty ad.size,ad.alloc ad.size _⟩
end
end Go.Proofs.YtlgcmaoimpgedaaGreatDoor

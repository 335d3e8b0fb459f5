/- Vec Seen AppK Mch Ords Rel EqC -/
import Derived.Laws.CopyOwn
import Derived.Maps.Own
import Derived.Maps.OwnOps
import Derived.Maps.Views
import Derived.WideKeyArr2
import Derived.DeepKeys4
import Derived.Test.YtlgcmaoimpgedaaGreatDoorT14
set_option maxHeartbeats 4000000
set_option maxRecDepth 100000
set_option linter.unusedSimpArgs false
namespace Go.Proofs.YtlgcmaoimpgedaaGreatDoor
open Go.Value renaming slice->qS
section
open Go.RowKit Game
def zbo(v:LI):Value:= .agg #[.int .i64 (v.getD 0 0),.int .i64 (v.getD 1 0),.int .i64 (v.getD 2 0),.int .i64 (v.getD 3 0)]
theorem zxc(v:LI)(h:v.length<=4):splice [Value.int .i64 0,.int .i64 0,.int .i64 0,.int .i64 0] 0 (v.map (Value.int .i64))=[.int .i64 (v.getD 0 0),.int .i64 (v.getD 1 0),.int .i64 (v.getD 2 0),.int .i64 (v.getD 3 0)]:=by
 match v,h with
 |[],_=>rfl
 |[a],_=>rfl
 |[a,b],_=>rfl
 |[a,b,c],_=>rfl
 |[a,b,c,d],_=>rfl
theorem zxW{w:World}{B:Nat}{a b c d:Value}{t:TypeId}(h:w.heap[B]? =some (.cells #[a,b,c,d] t (0,0))):
 (w.cell? ⟨B,0,none⟩=some a/\w.cell? ⟨B,1,none⟩=some b/\w.cell? ⟨B,2,none⟩=some c/\w.cell? ⟨B,3,none⟩=some d)/\∀j,w.frozen? ⟨B,j,none⟩=false:=by
 refine⟨⟨?_,?_,?_,?_⟩,fun j=>?_⟩ <;> simp[World.cell?,World.frozen?,h]
theorem zbQ(g o n cp:Nat)(v:LI)(w:World)(hn:v.length=n)(h4:v.length<=4)(hg:g<w.heap.size)(hc:zag w g o v):
 Calls Tryz.prog 127 #[(qS (some ⟨g,o,none⟩) n cp)] w (zbb w (zbo v)):=by
 subst hn;obtain⟨w1,lp⟩:∃w1,w1=w.alloc (.cells #[.int .i64 0,.int .i64 0,.int .i64 0,.int .i64 0] 105):=⟨_,rfl⟩;have bh:w1.heap.size=w.heap.size+1:=by rw[lp];simp
 have ad:Below w.heap.size w w1:=by rw[lp];exact(Below.refl _ _).alloc (qr _) _
 have Ce:w1.heap[w.heap.size]? =some (.cells #[.int .i64 0,.int .i64 0,.int .i64 0,.int .i64 0] 105 (0,0)):=by rw[lp];exact heap_alloc_new _ _
 have Iw:(w1.alloc (.cells #[.int .i64 0,.int .i64 0,.int .i64 0,.int .i64 0] 105)).heap[w.heap.size+1]? =some (.cells #[.int .i64 0,.int .i64 0,.int .i64 0,.int .i64 0] 105 (0,0)):=by rw[<-bh];exact heap_alloc_new _ _
 have ae:Below (w.heap.size+1) w1 (w1.alloc (.cells #[.int .i64 0,.int .i64 0,.int .i64 0,.int .i64 0] 105)):=by rw[<-bh];exact(Below.refl _ _).alloc (qr _) _
 rw[lp] at Iw;have Gc:=qd Iw;have Gd:=qd ae;have yh:=qd Ce;have Ix:=qd bh;clear Iw ae Ce bh;have aI:=hc.below ad hg;have Cf:=qd lp
 go_enter Tryz.func127,Tryz.ntmps127
 go_wp2_with (refine wpList_copy_splice (o:=⟨some 7,_,_,_,_,_⟩) rfl (.tmp 5) (.tmp 6) 25 25 rfl 3 Tryz.underlying25 (by kernel_rfl) (some ⟨w.heap.size+1,0,none⟩) (some ⟨g,o,none⟩) 4 4 v.length cp rfl rfl (w.heap.size+1) 0 [.int .i64 0,.int .i64 0,.int .i64 0,.int .i64 0] 105 Gc.out (v.map (Value.int .i64)) (by rw[List.length_map];exact(Nat.min_eq_left h4).symm) (fun _=>⟨rfl,⟨g,o,none⟩,rfl,?_⟩) (by simp;omega) (ints_oneCell _ _) (w.heap.size+1) w1 ?_ (qr _) ?_)
 ·intro j u hu;have hj:j<v.length:=by have:=(List.getElem?_eq_some_iff.1 hu).1;simpa using this
  rw[Addr.add_lit,<-Cf.out];have h1:zag (w1.alloc (.cells #[.int .i64 0,.int .i64 0,.int .i64 0,.int .i64 0] 105)) g o v:=aI.below Gd.out (by omega);rw[h1 j hj,<-hu];simp[List.getD,hj]
 ·rw[<-Cf.out];exact Gd.out
 ·intro w2 yf az;have yi:=yf.out;rw[zxc v h4] at yi;have fg:w2.heap[w.heap.size]? =some (.cells #[.int .i64 0,.int .i64 0,.int .i64 0,.int .i64 0] 105 (0,0)):=by rw[az.block _ (by omega),<-Cf.out];exact yh.out
  rw[<-Cf.out] at az;have dM:Below w.heap.size w w2:=ad.trans (az.mono (Nat.le_succ _));obtain⟨⟨a0,a1,a2,a3⟩,af⟩:=zxW yi;obtain⟨⟨b0,b1,b2,b3⟩,bf⟩:=zxW fg;have f0:=bf 0;have f1:=bf 1;have f2:=bf 2;have f3:=bf 3;clear bf af yi yf fg az ad aI Cf lp hc;have Mq:zbo v= .agg #[.int .i64 (v.getD 0 0),.int .i64 (v.getD 1 0),.int .i64 (v.getD 2 0),.int .i64 (v.getD 3 0)]:=rfl;generalize v.getD 0 0=x0 at*;generalize v.getD 1 0=x1 at*;generalize v.getD 2 0=x2 at*;generalize v.getD 3 0=x3 at*;have PC:=qd Mq;clear Mq;go_wp2;have hB:Below w.heap.size w ((((w2.setCell ⟨w.heap.size,0,none⟩ (.int .i64 x0)).setCell ⟨w.heap.size,1,none⟩ (.int .i64 x1)).setCell ⟨w.heap.size,2,none⟩ (.int .i64 x2)).setCell ⟨w.heap.size,3,none⟩ (.int .i64 x3)):=zgu;exact bodyPost_ret (v:= .agg #[.int .i64 x0,.int .i64 x1,.int .i64 x2,.int .i64 x3]) (by simp[results,Tryz.results127,go_sem,b0,b1,b2,b3]) rfl ⟨by rw[PC.out],hB⟩
end
section
open Go.RowKit Game
open Go.Maps (Keyed IsMap)
theorem zxX:laidOutB Tryz.prog=true:=by kernel_rfl
theorem zzD:(105:TypeId)<Tryz.prog.types.size:=of_decide_eq_true (by kernel_rfl)
theorem zJq:WideMaps.KeyLaw Tryz.prog 105:=deep_law_laid zxX (m:=2) (by omega) zzD (by kernel_rfl) (by rw[Tryz.underlying105])
theorem zdW:Keyed Tryz.prog 105:=Keyed.of_law zJq
theorem zjo:WideMaps.ArrKey Tryz.prog 105 3 4:=⟨Tryz.underlying105,by kernel_rfl,by kernel_rfl,by kernel_rfl⟩
theorem zDs(w:World):(zeroValue 4).run Tryz.prog w= .ok (.bool false) w:=by kernel_rfl
theorem ztP:∃m,Tryz.prog.types.size=m+1:=by
 have h:0<Tryz.prog.types.size:=Nat.lt_of_le_of_lt (qz _) zzD;generalize Tryz.prog.types.size=k at h;exact⟨k-1,by omega⟩
def WfV(v:LI):Prop:=∀j,j<4->(Lit.int .i64 (v.getD j 0)).wf=true
def zgf(v:LI):Lit:= .string (keyBytes [.int .i64 (v.getD 0 0),.int .i64 (v.getD 1 0),.int .i64 (v.getD 2 0),.int .i64 (v.getD 3 0)])
theorem zdh{v:LI}(h:WfV v):keyOf Tryz.prog 105 (zbo v)=some (zgf v):=by
 have nZ:=zjo.keyType ztP;obtain⟨m,hm⟩:=ztP;have h0:=h 0 (by omega);have h1:=h 1 (by omega);have h2:=h 2 (by omega);have h3:=h 3 (by omega);unfold zbo zgf;generalize v.getD 0 0=x0 at*;generalize v.getD 1 0=x1 at*;generalize v.getD 2 0=x2 at*;generalize v.getD 3 0=x3 at*;unfold keyOf;simp only[zjo.hu];rw[if_pos (by simp[nZ,Value.formed,zjo.hu,zjo.size]),hm];unfold Program.keyLits;simp only[zjo.hu,Value.cells];rw[if_pos (by rw[zjo.size];rfl),show List.range 4=[0,1,2,3] from rfl,List.mapM_cons,List.mapM_cons,List.mapM_cons,List.mapM_cons,List.mapM_nil];simp[zjo.one,Program.keyLits,Tryz.underlying3,h0,h1,h2,h3]
theorem zxY{v u:LI}(hl:v.length=u.length)(h4:v.length<=4)(h:zbo v=zbo u):v=u:=by
 unfold zbo at h;simp at h;obtain⟨h0,h1,h2,h3⟩:=h;apply List.ext_getElem hl;intro i hi kl;have:i=0∨i=1∨i=2∨i=3:=by omega
 rcases this with rfl|rfl|rfl|rfl <;> simp_all
theorem zlv{v u:LI}(hv:WfV v)(hu:WfV u)(hl:v.length=u.length)(h4:v.length<=4)(h:zgf v=zgf u):v=u:=
 zxY hl h4 (zdW.inj (zdh hv) (by rw[h];exact zdh hu))
def zbV(w:World)(b n m:Nat)(ks:LL):Prop:=
 ∃D:DataW Unit,w.ownsMap Tryz.prog 105 (plainElem Tryz.prog 4) b n D/\IsMap D/\∀v:LI,v.length=m->WfV v->D.atKey (zgf v) (.lit (.bool false))= .lit (.bool (decide (v∈ks)))
section
variable {w w':World} {b n m:Nat} {ks:LL}
theorem zbV.start(w:World)(m:Nat):zbV (w.alloc (.map #[] 0)) w.heap.size 0 m []:=
 ⟨.map [],World.ownsMap_made _ _ _ _,⟨[],rfl⟩,fun v _ _=>by simp[DataW.atKey]⟩
theorem zbV.lt(h:zbV w b n m ks):b<w.heap.size:=by obtain⟨D,h,-⟩:=h;exact h.lt
theorem zbV.grown{row:Option Nat}(h:zbV w b n m ks)(hg:w.grownBy w' row)(ao:some b≠row):zbV w' b n m ks:=by
 obtain⟨D,h,h2⟩:=h;exact⟨D,h.kept hg ao,h2⟩
theorem zbV.below{B:Nat}(h:zbV w b n m ks)(hb:Below B w w')(hB:b<B):zbV w' b n m ks:=by
 obtain⟨D,⟨es,clock,hh,r⟩,h2⟩:=h;exact⟨D,⟨es,clock,(hb.block b hB).trans hh,r⟩,h2⟩
theorem zbV.still(h:zbV w b n m ks)(hs:∃k,w'=w.drewN k):zbV w' b n m ks:=by obtain⟨k,rfl⟩:=hs;exact h
theorem zmY{P:Program}{e:TypeId}(he:P.underlying e=some .bool){v:Value}{z:DataW Unit × List MemPlace}(h:plainElem P e v=some z):∃x,v= .bool x/\z=(.lit (.bool x),[]):=by
 unfold plainElem at h;rw[he] at h
 cases v <;> simp at h
 subst h;exact⟨_,rfl,rfl⟩
theorem zet{ops:Array Oper}{rest:List Oper}{o:Oper}{a:Act}{Q:Exit->Act->World->Prop}
 (hg:o.guard=none) (x y:Operand) (cS:o.op=Op.lookup 121 x y false) (b n m:Nat) (ks:LL) (v:LI) (hv:v.length=m) (hw:WfV v)
 (ai:zbV w b n m ks) (hx:a.eval x= .map (some b)) (hy:a.eval y=zbo v) (r:Bool) (hr:decide (v∈ks)=r)
 (hK:wpList Tryz.prog ops Q rest (a.put o.dst (.bool r)) w):
 wpList Tryz.prog ops Q (o::rest) a w:=by
 refine wpList_plain hg fun K' Ch=>?_
 obtain⟨D,hD,-,lP⟩:=ai;obtain⟨u,ps,cz,hu⟩:=hD.lookup zdW Tryz.underlying121 (zDs w) (plainElem_bool (H:=Unit) Tryz.underlying4 false) (zdh hw);obtain⟨z,rfl,hz⟩:=zmY Tryz.underlying4 hu;rw[lP v hv hw] at hz;simp at hz;unfold Oper.wp;simp[execOp,cS,hx,hy,cz,Result.andThen];rw[<-hz.1,hr];exact Ch _ _ hK
theorem zjR{ops:Array Oper}{rest:List Oper}{o:Oper}{a:Act}{Q:Exit->Act->World->Prop}
 (hg:o.guard=none) (x y z:Operand) (cS:o.op=Op.mapUpdate 121 x y z) (b n m:Nat) (ks:LL) (v:LI) (hv:v.length=m) (h4:m<=4) (hw:WfV v)
 (ai:zbV w b n m ks) (hn:n<1048576) (hx:a.eval x= .map (some b)) (hy:a.eval y=zbo v) (hz:a.eval z= .bool true)
 (hK:∀w',zbV w' b (n+1) m (ks++[v])->w.grownBy w' (some b)->wpList Tryz.prog ops Q rest (a.put o.dst undef) w'):
 wpList Tryz.prog ops Q (o::rest) a w:=by
 obtain⟨D,hD,dh,lP⟩:=ai;refine wpList_mapUpdate_own w hg x y z _ cS _ _ zdW Tryz.underlying121 _ b n D hx hD (by unfold maxLen;omega) _ _ (zgf v) hy hz (zdh hw) _ [] (plainElem_bool (H:=Unit) Tryz.underlying4 true) ?_;intro w' dr bn;refine hK w' ⟨_,dr,?_,fun u hu oY=>?_⟩ bn
 ·obtain⟨es,rfl⟩:=dh;exact⟨_,rfl⟩
 ·by_cases e:u=v
  ·subst e;rw[Maps.atKey_put_same dh (zdW.key (zdh hw))];simp
  ·have ao:zgf u≠zgf v:=fun h=>e (zlv oY hw (by omega) (by omega) h)
   rw[Maps.atKey_put_other ao,lP u hu oY];simp[e]
end
end
section
open Go.RowKit Game
section
variable {w w':World} {B g cap:Nat} {vs:LL}
theorem zih{ops:Array Oper}{rest:List Oper}{o:Oper}{a:Act}{Q:Exit->Act->World->Prop}(dH:o.guard=none)(s x:Operand)
 (ho:o.op= .call {callee:= .builtin .append,args:=#[s,x],argTypes:=#[24,24]})
 (B g cap n g2 c2 m:Nat) (rs rs2:List RowRef) (w:World) (hn:rs.length=n) (hm:rs2.length=m) (ai:zab w B g cap rs) (kT:zab w B g2 c2 rs2) (ao:∀r∈rs,∀s∈rs2,r.1≠s.1)
 (hs:a.eval s=(qS (some ⟨g,0,none⟩) n cap)) (hx:a.eval x=(qS (some ⟨g2,0,none⟩) m c2)) (am:n+m<=1048576)
 (h:∀g' cap' w',zab w' B g' cap' (rs++rs2)->w.grownBy w' (some g)->(g'=g∨g'=w.heap.size)->wpList Tryz.prog ops Q rest (a.put o.dst (qS (some ⟨g',0,none⟩) (n+m) cap')) w'):
 wpList Tryz.prog ops Q (o::rest) a w:=by
 subst hn;subst hm;have au:zaE w B 25 1 g cap rs.length (rs.map zah):=by have:=ai.1;unfold zaI at this;rw[List.length_map] at this;exact this
 refine zfs zkC Tryz.underlying24 rfl (by decide) (by decide) dH s x ho B g cap rs.length (rs.map zah) au g2 0 rs2.length c2 (rs2.map zah) (by simp) ?_ ?_ hs hx am ?_
 ·intro j u hu;have hj:j<(rs2.map zah).length:=(List.getElem?_eq_some_iff.1 hu).1;rw[Nat.zero_add,kT.1.cell j hj,<-hu,List.getElem?_eq_getElem hj]
 ·intro u hu;obtain⟨r,-,rfl⟩:=List.mem_map.1 hu;rfl
 ·intro g' cap' w' h2 h3 h4;refine h g' cap' w' ⟨?_,fun r hr=>?_,?_⟩ h3 h4
  ·unfold zaI;rw[List.map_append,qA,List.length_map,List.length_map];exact h2
  ·rcases List.mem_append.1 hr with hr|hr
   ·exact(ai.2.1 r hr).grown h3 (fun e=>ai.1.ne (ai.2.1 r hr).toV (by decide) (Option.some.inj e).symm)
   ·exact(kT.2.1 r hr).grown h3 (fun e=>ai.1.ne (kT.2.1 r hr).toV (by decide) (Option.some.inj e).symm)
  ·rw[List.map_append,List.nodup_append];refine⟨ai.2.2,kT.2.2,fun x hx y hy=>?_⟩;obtain⟨r,hr,rfl⟩:=List.mem_map.1 hx;obtain⟨s,hs,rfl⟩:=List.mem_map.1 hy;exact ao r hr s hs
end
end
section
open Go.RowKit
theorem zon{w:World}{ops:Array Oper}{rest:List Oper}{o:Oper}{a:Act}{Q:Exit->Act->World->Prop}(dH:o.guard=none)(s x:Operand)
 (ho:o.op= .call {callee:= .builtin .append,args:=#[s,x],argTypes:=#[25,25]})
 (B n:Nat) (v:Value) (xs:LI) (z:Int) (hn:xs.length=n) (hv:zlt w B v xs) (hB:B<=w.heap.size) (hs:a.eval s=v) (hx:a.eval x=(qS (some ⟨w.heap.size,0,none⟩) 1 1)) (am:n+1<=1048576)
 (h:∀g c w',Own w' B g c (xs++[z])->Below B w w'->wpList Tryz.prog ops Q rest (a.put o.dst (qS (some ⟨g,0,none⟩) (n+1) c)) w'):
 wpList Tryz.prog ops Q (o::rest) a (w.alloc (.cells #[.int .i64 z] 3)):=by
 subst hn;obtain⟨g,c,w',hr,h1,h2,h3⟩:=zqZ hv hB z am o.type
 have hb:Below B w w':=by
  rcases hv with⟨e,-⟩|⟨g0,c0,e,ho⟩
  ·exact(h2 e).mono hB
  ·have hg:=h3 g0 _ c0 e;exact(Below.refl _ _).grown hg hB (by intro k hk;cases hk;exact ho.base)
 refine wpList_plain dH fun K hK=>?_
 unfold Oper.wp execOp;simp only[ho,resolve,invoke,builtin,Sem.run_bind,Sem.run_pure,Result.andThen_ok,List.map_toArray,List.map_cons,List.map_nil,hs,hx,hr];exact hK _ _ (h g c w' h1 hb)
theorem ztQ{w:World}{B g c n:Nat}{xs:LI}(hB:B<=w.heap.size)(hn:xs.length=n)(h:Own w B g c xs):zab (w.alloc (.cells #[(qS (some ⟨g,0,none⟩) n c)] 25)) B w.heap.size 1 [(g,c,xs)]:=by
 subst hn;have h2:=zaI.new (w:=w) (B:=B) (E:=25) (qS (some ⟨g,0,none⟩) xs.length c) rfl hB;exact⟨h2,⟨fun r hr=>by rw[List.mem_singleton] at hr;subst hr;exact h.alloc _,by simp⟩⟩
def zdH(a b:LL)(f:Nat)(o:List Nat)(i:Nat):List (List Nat):=(List.range i).flatMap fun i=>if o.contains i||!(fit a b o i) then[] else mtF a b f (o++[i])
theorem zqp{a b:LL}{f:Nat}{o:List Nat}{i:Nat}(h:(o.contains i||!(fit a b o i))=true):zdH a b f o (i+1)=zdH a b f o i:=by
 unfold zdH;rw[List.range_succ,List.flatMap_append,List.flatMap_cons,List.flatMap_nil,if_pos h,List.append_nil,List.append_nil]
theorem zxZ{a b:LL}{f:Nat}{o:List Nat}{i:Nat}(h:(o.contains i||!(fit a b o i))=false):zdH a b f o (i+1)=zdH a b f o i++mtF a b f (o++[i]):=by
 unfold zdH;rw[List.range_succ,List.flatMap_append,List.flatMap_cons,List.flatMap_nil,if_neg (by rw[h];simp),List.append_nil]
theorem zrQ(a b:LL)(f:Nat)(o:List Nat):mtF a b (f+1) o=zdH a b f o a.length:=rfl
theorem zvX{a b:LL}{f:Nat}{o:List Nat}{i M:Nat}(hi:i<=a.length)(h:M<=(zdH a b f o i).length):(mtF a b (f+1) o).take M=(zdH a b f o i).take M:=by
 rw[zrQ]
 have e:List.range a.length=List.range i++(List.range a.length).drop i:=by
  have:=(List.take_append_drop i (List.range a.length)).symm
  rwa [List.take_range,Nat.min_eq_left hi] at this
 unfold zdH at*;rw[e,List.flatMap_append,List.take_append_of_le_length h]
def zjS(a b:LL)(o:List Nat)(i j:Nat):Bool:=(List.range j).all fun j=>(ent a i (o.getD j 0)==ent b o.length j)&&(ent a (o.getD j 0) i==ent b j o.length)
theorem zya(a b:LL)(o:List Nat)(i j:Nat):zjS a b o i (j+1)=(zjS a b o i j&&((ent a i (o.getD j 0)==ent b o.length j)&&(ent a (o.getD j 0) i==ent b j o.length))):=by
 unfold zjS;rw[List.range_succ,List.all_append];simp
theorem zqq(o:List Nat)(i:Nat):decide ((i:Int)∈zae o)=o.contains i:=by
 rw[Bool.eq_iff_iff];simp only[decide_eq_true_eq,zae,List.mem_map,List.contains_iff_mem];constructor
 ·rintro ⟨x,hx,e⟩;have:x=i:=by omega
  rw[<-this];exact hx
 ·intro h;exact⟨i,h,rfl⟩
theorem zbC.mk'{w w':World}{rows:LL}{n:Nat}(g cap:Nat)(rs:List RowRef)(hl:rs.length=n)(hc:zaa rs=rows)(ho:zab w' w.heap.size g cap rs)(hb:Below w.heap.size w w'):zbC w rows (.returned (qS (some ⟨g,0,none⟩) n cap)) w':=by
 subst hl;subst hc;exact⟨g,cap,rs,by rw[zac],rfl,ho,hb⟩
theorem znT{w:World}{g o n:Nat}{c:LL}(h:SqN n c)(hr:zal w g o c){i j:Nat}(hi:i<n)(hj:j<n):
 ∃gi oi ci,w.cell? ⟨g,o+i,none⟩=some (qS (some ⟨gi,oi,none⟩) n ci)/\gi<w.heap.size/\w.cell? ⟨gi,oi+j,none⟩=some (.int .i64 (ent c i j)):=by
 obtain⟨gi,oi,ci,q1,q2,q3,q4⟩:=hr i (by rw[h.1];exact hi);rw[h.2 i hi] at q1;exact⟨gi,oi,ci,q1,q3,q4 j (by rw[h.2 i hi];exact hj)⟩
theorem zqr(a b:LL)(n:Nat)(dL:1<=n)(aR:n<=4)(ha:SqN n a)(hb:SqN n b):∀(f ga oa ca gb ob cb:Nat) (A:Option Addr) (k c B:Nat) (o:List Nat) (M:Nat) (w:World),f+o.length=n->o.length=k->(∀x∈o,x<n)->1<=M->M<=1000->ga<w.heap.size->gb<w.heap.size->zal w ga oa a->zal w gb ob b->zlt w B (.slice A k c) (zae o)->
 Calls Tryz.prog 257 #[(qS (some ⟨ga,oa,none⟩) n ca),(qS (some ⟨gb,ob,none⟩) n cb),.slice A k c,.int .i64 M] w (zbC w (((mtF a b f o).take M).map zae)):=by
 intro f
 induction f with
 |zero=>
  intro ga oa ca gb ob cb A k c B o M w hf hk hx AR PD li oZ jW jj hv;obtain rfl:n=k:=by omega
  have hC:=zjm (.slice A n c) B (zae o) w (by rw[zai];omega) hv;have HC:=qd hC;have uJ:Hid (zae o≠[]):=fun e=>by have h:=congrArg List.length e;rw[zai] at h;simp at h;subst h;simp at hk;omega
  have HL:Hid ((zae o).length=n):=qd (by rw[zai];exact hk)
  have HR:Hid (((mtF a b 0 o).take M).map zae=[zae o]):=qd (by
   show(([o]:List (List Nat)).take M).map zae=_;rw[qF (by simpa using AR)];rfl)
  rw[HR.out];clear hC hv hk hf jW jj li oZ hx HR
  go_enter Tryz.func257,Tryz.ntmps257
  go_wp2_with fail;refine HC.out.mono ?_;rintro e w1 ⟨v',rfl,-,h2,ad⟩;obtain⟨g1,c1,rfl,au⟩:=h2 uJ.out;rw[HL.out];have hO:=qd (ztQ ad.size HL.out au);have dc:=qd (ad.alloc ad.size (.cells #[(qS (some ⟨g1,0,none⟩) n c1)] 25));clear HC h2 au ad;go_wp2_with fail;go_ret;exact zbC.mk' _ 1 _ rfl rfl hO.out dc.out
 |succ f ih=>
  intro ga oa ca gb ob cb A k c B o M w hf hk hx AR PD li oZ jW jj hv;have IH:=qd ih;clear ih;have lQ:k<n:=by omega
  have Hk:=qd hk;have Ge:=qd jW;have Gf:=qd jj;have Hv:=qd hv;have Hx:=qd hx;have Hf:Hid (f+(o.length+1)=n):=qd (by omega);have PE:((k:Int)==(n:Int))=false:=by rw[beq_eq_false_iff_ne];omega
  have Mr:=qd ha.1;clear jW jj hv hx hf hk
  go_enter Tryz.func257,Tryz.ntmps257
  go_wp2_with fail;go_loopw [10,11,12,13,14,27] (fun ov _ _ _ _ kv wr=>∃(i p gO cO:Nat) (rs:List RowRef),i<=n/\p<M/\kv= .int .i64 i/\ov=(qS (some ⟨gO,0,none⟩) p cO)/\Hid (rs.length=p)/\Hid (zaa rs=(zdH a b f o i).map zae)/\zab wr w.heap.size gO cO rs/\Below w.heap.size w wr) (fun _ _ _ _ _ kv _=>n-(intOf kv).toNat)
  case atStart=>exact⟨0,0,w.heap.size,0,[],qz _,AR,rfl,rfl,rfl,rfl,zab.empty (qr _),(Below.refl _ _).alloc (qr _) _⟩
  case round=>
   obtain⟨i,p,gO,cO,rs,hi,AW,rfl,rfl,hp,ak,ho,dM⟩:=hrel;by_cases ac:i<n
   ·have yj:=zmp (.slice A k c) B (i:Int) (zae o) wr (by rw[zai,Hk.out];omega) (Hv.out.below dM);rw[zqq] at yj
    cases io:o.contains i with
    |true=>
     rw[io] at yj;have Ci:=qd yj;have kU:=qd (zqp (a:=a) (b:=b) (f:=f) (o:=o) (i:=i) (by rw[io];rfl));clear yj io;go_wp2_with fail;refine Ci.out.mono ?_;rintro e w1 ⟨rfl,bh⟩;have au:=ho.still bh;have ad:=zaf dM bh;clear Ci ho dM bh;go_wp2_with fail;go_roundw
     case rel=>exact⟨i+1,p,gO,cO,rs,by omega,AW,by go_num,rfl,hp,by rw[kU.out];exact ak,au,ad⟩
     case measure=>simp[intOf];omega
    |false=>
     rw[io] at yj;have Ci:=qd yj;have AX:=qd io;clear yj io;go_wp2_with fail;refine Ci.out.mono ?_;rintro e w1 ⟨rfl,bh⟩;have au:=ho.still bh;have ad:=zaf dM bh;clear Ci ho dM bh
     rename World=>w1
     go_wp2_with fail;go_loopw [12,13,14,35] (fun fv _ _ jv wr=>∃(j q:Nat),j<=k/\jv= .int .i64 j/\fv= .bool (zjS a b o i j)/\wr=w1.drewN q) (fun _ _ _ jv _=>k-(intOf jv).toNat)
     case atStart=>exact⟨0,0,qz _,rfl,rfl,rfl⟩
     case round=>
      obtain⟨j,q,hj,rfl,rfl,rfl⟩:=hrel;by_cases mo:j<k
      ·obtain⟨g0,c0,hA,nW⟩:∃g0 c0,A=some ⟨g0,0,none⟩/\Own w B g0 c0 (zae o):=by
        rcases Hv.out with⟨e,-⟩|⟨g0,c0,e,h⟩
        ·simp only[Value.slice.injEq] at e;omega
        ·simp only[Value.slice.injEq] at e;exact⟨g0,c0,e.1,h⟩
       subst hA;have rG:Below w.heap.size w w1:=ad;have pE:(zae o).length=k:=by rw[zai];exact Hk.out
       have q0:=(nW.below rG nW.lt).cell j (by rw[pE];exact mo);rw[zbB o j (by rw[Hk.out];exact mo)] at q0
       have Ms:o.getD j 0<n:=Hx.out _ (by have:j<o.length:=by rw[Hk.out];exact mo
                                          simp[List.getD,this])
       have Mt:j<n:=by omega
       have uK:=zya a b o i j;rw[Hk.out] at uK;generalize o.getD j 0=x at*;have jW:=Ge.out.below rG li;have jj:=Gf.out.below rG oZ;obtain⟨r1,o1,c1,p1,-,p2⟩:=znT ha jW ac Ms;obtain⟨r2,o2,c2,p3,-,p4⟩:=znT hb jj lQ Mt;obtain⟨r3,o3,c3,p5,-,p6⟩:=znT ha jW Ms ac;obtain⟨r4,o4,c4,p7,-,p8⟩:=znT hb jj Mt lQ;have uL:=qd uK;clear uK jW jj rG pE nW;generalize ent a i x=E1 at*;generalize ent b k j=E2 at*;generalize ent a x i=E3 at*;generalize ent b j k=E4 at*;generalize Mu:zjS a b o i (j+1)=F2 at*;have Gg:=qd Mu;clear Mu;generalize zjS a b o i j=F at*
       cases F with
       |true=>
        by_cases h1:E1=E2
        ·subst h1;by_cases h2:E3=E4
         ·subst h2;have HF:Hid (F2=true):=qd (by rw[uL.out];simp);go_wp2_with fail;go_quiet (fail)
          go_wp2_with fail;go_roundw
          case rel=>exact⟨j+1,_,by omega,by go_num,by rw[Gg.out,HF.out],by first|rfl|exact World.drewN_drewN _ _ _⟩
          case measure=>simp[intOf];omega
         ·have ae:(E3==E4)=false:=by rw[beq_eq_false_iff_ne];exact h2
          have HF:Hid (F2=false):=qd (by rw[uL.out];simp[h2]);go_wp2_with fail;go_quiet (fail)
          go_wp2_with fail;go_roundw
          case rel=>exact⟨j+1,_,by omega,by go_num,by rw[Gg.out,HF.out],by first|rfl|exact World.drewN_drewN _ _ _⟩
          case measure=>simp[intOf];omega
        ·have ae:(E1==E2)=false:=by rw[beq_eq_false_iff_ne];exact h1
         have HF:Hid (F2=false):=qd (by rw[uL.out];simp[h1]);go_wp2_with fail;go_quiet (fail)
         go_wp2_with fail;go_roundw
         case rel=>exact⟨j+1,_,by omega,by go_num,by rw[Gg.out,HF.out],by first|rfl|exact World.drewN_drewN _ _ _⟩
         case measure=>simp[intOf];omega
       |false=>
        have HF:Hid (F2=false):=qd (by rw[uL.out];rfl);go_wp2_with fail;go_quiet (fail)
        go_wp2_with fail;go_roundw
        case rel=>exact⟨j+1,_,by omega,by go_num,by rw[Gg.out,HF.out],by first|rfl|exact World.drewN_drewN _ _ _⟩
        case measure=>simp[intOf];omega
      ·obtain rfl:j=k:=by omega
       have Mv:zjS a b o i j=fit a b o i:=by unfold fit zjS;rw[Hk.out]
       rw[Mv];clear Mv;have ar:=au.still ⟨q,rfl⟩;have ae:Below w.heap.size w (w1.drewN q):=below_drewN ad q;generalize w1.drewN q=w2 at*;clear au ad
       cases hfit:fit a b o i with
       |false=>
        have kU:=qd (zqp (a:=a) (b:=b) (f:=f) (o:=o) (i:=i) (by rw[hfit];simp));clear hfit;go_wp2_with fail;go_roundw
        case rel=>exact⟨i+1,p,gO,cO,rs,by omega,AW,by go_num,rfl,hp,by rw[kU.out];exact ak,ar,ae⟩
        case measure=>simp[intOf];omega
       |true=>
        have fS:=qd (zxZ (a:=a) (b:=b) (f:=f) (o:=o) (i:=i) (by rw[hfit,AX.out];rfl));have HC:=qd (zjm (.slice A j c) B (zae o) w2 (by rw[zai,Hk.out];omega) (Hv.out.below ae));have ms:Hid ((zae o).length=j):=qd (by rw[zai];exact Hk.out)
        have bP:(zdH a b f o i).length=p:=by
         have h1:=congrArg List.length ak.out;rw[zac,hp.out,List.length_map] at h1;exact h1.symm
        have wn:Hid (zdH a b f o i++(mtF a b f (o++[i])).take (M-p)=(zdH a b f o (i+1)).take M):=qd (by
         rw[fS.out,List.take_append,bP,qF (show(zdH a b f o i).length<=M by omega)])
        have PF:=qd (fun h=>zvX (a:=a) (b:=b) (f:=f) (o:=o) (i:=i+1) (M:=M) (by rw[Mr.out];omega) h);have fE:=qd bP
        have IH2:=qd (fun g5 c5 W (hW:Below w.heap.size w W) B5 (h5:Own W B5 g5 c5 (zae (o++[i])))=>IH.out ga oa ca gb ob cb (some ⟨g5,0,none⟩) (j+1) c5 B5 (o++[i]) (M-p) W (by rw[qA];have:=Hf.out;simp;omega) (by rw[qA,Hk.out];rfl)
         (fun x hx=>by rcases List.mem_append.1 hx with h|h;exact Hx.out x h;simp at h;subst h;exact ac) (by omega) (by omega) (qL li hW.size) (qL oZ hW.size) (Ge.out.below hW li) (Gf.out.below hW oZ)
         (.inr ⟨g5,c5,by rw[zai,qA,Hk.out];rfl,h5⟩))
        clear hfit bP fS;generalize hT:(mtF a b f (o++[i])).take (M-p)=T at*;have HT:=qd hT;clear hT;have nk:Hid (T.length<=M-p):=qd (by rw[<-HT.out,List.length_take];omega);have SZ:IntKind.i64.wrap ((M:Int)-(p:Int))=((M-p:Nat):Int):=by rw[IntWalk.i64_in _ ⟨by omega,by omega⟩];omega
        go_wp2_with fail;refine HC.out.mono ?_;rintro e w3 ⟨v',rfl,Mw,-,ag⟩;clear HC;go_wp2_with (at_builtin;refine zon (w:=w3) rfl _ _ rfl w2.heap.size j v' (zae o) (i:Int) ms.out Mw ag.size rfl rfl (by omega) ?_);intro g5 c5 w5 aD aQ;rw[<-zdN] at aD;have dP:Below w2.heap.size w2 w5:=ag.trans aQ;have fW:=ae.trans (dP.mono ae.size);have HI:=qd (IH2.out g5 c5 w5 fW _ aD);clear Mw ag aD aQ IH2;go_wp2_with fail;refine HI.out.mono ?_;rintro e w6 ⟨g6,c6,rs6,rfl,rH,aO,bJ⟩;have Iy:(T.map zae).length=T.length:=List.length_map _;rw[Iy];have dX:=dP.trans (bJ.mono dP.size);have yk:=fW.trans (bJ.mono fW.size);have yl:=ar.below dX;have Cj:=aO.mono fW.size
        have ip:∀r∈rs,∀s∈rs6,r.1≠s.1:=fun r hr s hs e=>by
         have h1:=(ar.2.1 r hr).lt;have h2:=(aO.2.1 s hs).base;have h3:=dP.size;omega
        have Mx:Hid (rs6.length=T.length):=qd (by rw[<-zac,rH,Iy]);have PG:=qd rH;have PH:=nk.out;clear HI Iy rH aO bJ dX dP fW ar ae;generalize hu:T.length=u at*;have Hu:=qd hu;clear hu;go_wp2_with (at_builtin;refine zih rfl _ _ rfl w.heap.size gO cO p g6 c6 u rs rs6 w6 hp.out Mx.out yl Cj ip rfl rfl (by omega) ?_);intro g9 c9 w9 gX js kw;have dt:=yk.grown js yk.size (by intro q hq;cases hq;exact yl.base)
        have My:Hid (zaa (rs++rs6)=((zdH a b f o (i+1)).take M).map zae):=qd (by
         rw[<-wn.out,List.map_append,<-ak.out,<-PG.out];simp[zaa])
        have Mz:Hid ((rs++rs6).length=p+u):=qd (by rw[qA,hp.out,Mx.out]);have MA:Hid (((zdH a b f o (i+1)).take M).length=p+u):=qd (by rw[<-wn.out,qA,fE.out,Hu.out]);clear yl Cj ip js kw yk;by_cases ie:M<=p+u
        ·have hz:(M:Int)<=((p+u:Nat):Int):=by omega
         have gK:(M:Int)<=(p:Int)+(u:Int):=by omega
         have ym:Hid (zaa (rs++rs6)=((mtF a b (f+1) o).take M).map zae):=qd (by
          rw[My.out,PF.out (by have:=MA.out;rw[List.length_take] at this;omega)])
         go_wp2_with fail;go_ret;exact zbC.mk' g9 c9 _ Mz.out ym.out gX dt
        ·have hz:¬(M:Int)<=((p+u:Nat):Int):=by omega
         have gK:¬(M:Int)<=(p:Int)+(u:Int):=by omega
         have ym:Hid (zaa (rs++rs6)=(zdH a b f o (i+1)).map zae):=qd (by
          rw[My.out];have:=MA.out;rw[List.length_take] at this;rw[qF (by omega)])
         go_wp2_with fail;go_roundw
         case rel=>exact⟨i+1,p+u,g9,c9,_,by omega,by omega,by go_num,rfl,Mz.out,ym.out,gX,dt⟩
         case measure=>simp[intOf];omega
   ·obtain rfl:i=n:=by omega
    have bF:Hid ((mtF a b (f+1) o).take M=zdH a b f o i):=qd (by
     rw[zrQ,Mr.out]
     exact qF (by
      have h1:=congrArg List.length ak.out;rw[zac,hp.out,List.length_map] at h1;omega))
    go_wp2_with fail;go_ret;rw[bF.out];exact zbC.mk' gO cO rs hp.out ak.out ho dM
end
section
open Go.RowKit
theorem zmf(g o n c:Nat)(x:Int)(xs:LI)(w:World)(hn:xs.length=n)(hx:n<=1048576)(hc:zag w g o xs):
 Calls Tryz.prog 286 #[(qS (some ⟨g,o,none⟩) n c),.int .i64 x] w (zap w (.bool (decide (x∈xs)))):=by
 subst hn
 go_enter Tryz.func286,Tryz.ntmps286
 go_wp2;go_loopw [5] (fun i wr=>∃k:Nat,k<=xs.length/\i= .int .i64 k/\Hid (x ∉ xs.take k)/\∃n,wr=w.drewN n) (fun i _=>xs.length-(intOf i).toNat)
 case atStart=>exact⟨0,qz _,rfl,qd (by simp),0,rfl⟩
 case round=>
  obtain⟨k,hk,rfl,aJ,n,rfl⟩:=hrel;by_cases ac:k<xs.length
  ·have q1:=hc k ac;have hm:Hid (xs.getD k 0=x->x∈xs):=fun e=>by rw[<-e];simp[List.getD,ac]
   have nX:Hid (¬x=xs.getD k 0->x ∉ xs.take (k+1)):=fun e be=>by
    rw[qT ac] at be
    rcases List.mem_append.1 be with h|h
    ·exact aJ.out h
    ·have e3:xs.getD k 0=xs[k]:=by simp[List.getD,ac]
     rw[List.mem_singleton,<-e3] at h;exact e h
   generalize xs.getD k 0=y at*;by_cases kP:x=y
   ·have Hm:=qd (hm.out kP.symm);subst kP;go_wp2;go_ret;exact⟨zaK (by rw[decide_eq_true Hm.out]),n,rfl⟩
   ·have Hn:=qd (nX.out kP);have hb:(y==x)=false:=by rw[beq_eq_false_iff_ne];exact fun e=>kP e.symm
    clear nX hm;go_wp2;go_roundw
    case rel=>exact⟨k+1,by omega,by go_num,Hn,n,rfl⟩
    case measure=>simp[intOf];omega
  ·obtain rfl:k=xs.length:=by omega
   have h:=aJ.out;rw[List.take_length] at h;have H:=qd h;clear aJ h;go_wp2;go_ret;exact⟨zaK (by rw[decide_eq_false H.out]),n,rfl⟩
def zgV(o:List Nat)(x:Nat):List (List Nat):=((List.range x).filter fun y=>!(o.contains y)).map fun y=>o++[y]
theorem zyb(o:List Nat)(x:Nat):zgV o (x+1)=zgV o x++(if o.contains x then[] else[o++[x]]):=by
 unfold zgV;rw[List.range_succ,List.filter_append,List.map_append];congr 1
 cases h:o.contains x with
 |true=>
  have h2:x∈o:=by simpa using h
  simp[h2]
 |false=>
  have h2:x ∉ o:=by simpa using h
  simp[h2]
def zii(n:Nat)(L:List (List Nat))(k:Nat):List (List Nat):=(L.take k).flatMap (zfl n)
theorem zvY(n:Nat)(L:List (List Nat))(k:Nat)(hk:k<L.length):zii n L (k+1)=zii n L k++zgV (L.getD k []) n:=by
 have e:L.take (k+1)=L.take k++[L[k]]:=qT hk;have e2:L.getD k []=L[k]:=by simp[List.getD,hk]
 unfold zii;rw[e,e2,List.flatMap_append,List.flatMap_cons,List.flatMap_nil,List.append_nil];rfl
theorem ztR{n i:Nat}(hn:n<=4)(hi:i<=n):(zbP n i).length<=24:=by
 have:n=0∨n=1∨n=2∨n=3∨n=4:=by omega
 rcases this with rfl|rfl|rfl|rfl|rfl
 ·obtain rfl:i=0:=by omega
  decide
 ·have:i=0∨i=1:=by omega
  rcases this with rfl|rfl <;> decide
 ·have:i=0∨i=1∨i=2:=by omega
  rcases this with rfl|rfl|rfl <;> decide
 ·have:i=0∨i=1∨i=2∨i=3:=by omega
  rcases this with rfl|rfl|rfl|rfl <;> decide
 ·have:i=0∨i=1∨i=2∨i=3∨i=4:=by omega
  rcases this with rfl|rfl|rfl|rfl|rfl <;> decide
theorem zpf(n:Nat)(w:World)(hn:n<=4):Calls Tryz.prog 270 #[.int .i64 n] w (zbC w ((zbP n n).map zae)):=by
 have h0:zab ((w.alloc (.cells #[] 3)).alloc (.cells #[(qS (some ⟨w.heap.size,0,none⟩) 0 0)] 25)) w.heap.size (w.heap.size+1) 1 [(w.heap.size,0,[])]:=by
  have:=ztQ (w:=w.alloc (.cells #[] 3)) (B:=w.heap.size) (n:=0) (by simp) rfl (Own.empty (w:=w) (qr _));simpa using this
 have aN:Below w.heap.size w ((w.alloc (.cells #[] 3)).alloc (.cells #[(qS (some ⟨w.heap.size,0,none⟩) 0 0)] 25)):=((Below.refl _ _).alloc (qr _) _).alloc (by simp) _;have H0:=qd h0;have AY:=qd aN;clear h0 aN
 go_enter Tryz.func270,Tryz.ntmps270
 go_wp2_with fail;go_loopw [3,4,5,6,7] (fun ov iv _ _ _ wr=>∃(i p gO cO:Nat) (rs:List RowRef),i<=n/\iv= .int .i64 i/\ov=(qS (some ⟨gO,0,none⟩) p cO)/\Hid (rs.length=p)/\Hid (zaa rs=(zbP n i).map zae)/\zab wr w.heap.size gO cO rs/\Below w.heap.size w wr) (fun _ iv _ _ _ _=>n-(intOf iv).toNat)
 case atStart=>exact⟨0,1,w.heap.size+1,1,[(w.heap.size,0,[])],qz _,rfl,rfl,rfl,rfl,H0.out,AY.out⟩
 case round=>
  clear H0 AY;obtain⟨i,p,gO,cO,rs,hi,rfl,rfl,hp,ak,ho,hb⟩:=hrel
  rename World=>wo
  by_cases ac:i<n
  ·have Ck:p<=24:=by
    have h1:=congrArg List.length ak.out;rw[zac,hp.out,List.length_map] at h1;have:=ztR (i:=i) hn (by omega);omega
   have fE:Hid ((zbP n i).length=p):=qd (by
    have h1:=congrArg List.length ak.out;rw[zac,hp.out,List.length_map] at h1;exact h1.symm)
   have pF:=qd (fun k (hk:k<p)=>show((zbP n i).getD k []).length=i from(zgD (n:=n) (k:=i) (by simp[List.getD,show k<(zbP n i).length by rw[fE.out];exact hk])).1);have Cl:Hid (zbP n (i+1)=zii n (zbP n i) p):=qd (by unfold zii;rw[<-fE.out,List.take_length];rfl);generalize zbP n i=L at*;go_wp2_with fail;go_loopw [5,6,7] (fun nv kv _ wr=>∃(k q gN cN:Nat) (rn:List RowRef),k<=p/\q<=k*4/\kv= .int .i64 k/\nv=(qS (some ⟨gN,0,none⟩) q cN)/\Hid (rn.length=q)/\Hid (zaa rn=(zii n L k).map zae)/\zab wr w.heap.size gN cN rn/\wo.heap.size<=gN/\Below wo.heap.size wo wr) (fun _ kv _ _=>p-(intOf kv).toNat)
   case atStart=>exact⟨0,0,wo.heap.size,0,[],qz _,qz _,rfl,rfl,rfl,rfl,zab.empty hb.size,qr _,(Below.refl _ _).alloc (qr _) _⟩
   case round=>
    obtain⟨k,q,gN,cN,rn,hk,hq,rfl,rfl,wu,io,uM,AZ,qQ⟩:=hrel
    rename World=>wk
    by_cases dN:k<p
    ·have bw:=zvY n L k (by rw[fE.out];exact dN);have iQ:=qd bw;have cH:k<rs.length:=by rw[hp.out];exact dN
     have aC:rs[k].2.2=zae (L.getD k []):=by
      rw[<-zei rs k cH,ak.out];simp[List.getD,show k<L.length by rw[fE.out];exact dN]
     have aV:=ho.2.1 _ (List.getElem_mem cH);have aA:=ho.1.cell k (by simpa using cH);have hl:=pF.out k dN;rw[aC] at aV;have kr:zah rs[k]=(qS (some ⟨(rs[k].1),0,none⟩) i (rs[k].2.1)):=by unfold zah;rw[aC,zai,hl]
     simp only[List.getElem_map,kr] at aA;generalize rs[k].1=gk at*;generalize rs[k].2.1=ck at*;generalize L.getD k []=o at*;have Hl:=qd hl;have Gh:=qd aV;have pE:Hid ((zae o).length=i):=qd (by rw[zai];exact hl);have dQ:=qd aA;have Ba:=aV.lt;clear aC bw kr aV aA hl;go_wp2_with fail;go_loopw [5,7] (fun nv xv wr=>∃(x q2 gN cN:Nat) (rn:List RowRef),x<=n/\q2<=q+x/\xv= .int .i64 x/\nv=(qS (some ⟨gN,0,none⟩) q2 cN)/\Hid (rn.length=q2)/\Hid (zaa rn=(zii n L k++zgV o x).map zae)/\zab wr w.heap.size gN cN rn/\wo.heap.size<=gN/\Below wo.heap.size wo wr) (fun _ xv _=>n-(intOf xv).toNat)
     case atStart=>exact⟨0,q,gN,cN,rn,qz _,by omega,rfl,rfl,wu,by
      show _=_;rw[io.out];simp[zgV],uM,AZ,qQ⟩
     case round=>
      clear wu io uM AZ qQ;obtain⟨x,q2,gN,cN,rn,hx,FZ,rfl,rfl,wu,io,uM,AZ,qQ⟩:=hrel;by_cases PI:x<n
      ·have aA:=(qQ.cell (p:=⟨gO,k,none⟩) ho.lt).trans dQ.out;have oe:=(Gh.out.below qQ Ba).cells;have hH:=zmf gk 0 i ck (x:Int) (zae o) wr pE.out (by omega) oe;rw[zqq] at hH;have gI:=qd (zyb o x);have Iz:=qd oe;have IA:gk<wr.heap.size:=qL Ba qQ.size
       cases hc:o.contains x with
       |true=>
        rw[hc] at hH;have HH:=qd hH;have og:Hid (zgV o (x+1)=zgV o x):=qd (by rw[gI.out,hc];simp);clear hH hc oe;go_wp2_with fail;refine HH.out.mono ?_;rintro e w4 ⟨rfl,hs⟩;have rI:=uM.still hs;have mw:=zaf qQ hs;clear HH uM qQ hs aA;go_wp2_with fail;go_roundw
        case rel=>exact⟨x+1,q2,gN,cN,rn,by omega,by omega,by go_num,rfl,wu,by rw[og.out];exact io,rI,AZ,mw⟩
        case measure=>simp[intOf];omega
       |false=>
        rw[hc] at hH;have HH:=qd hH;have og:Hid (zgV o (x+1)=zgV o x++[o++[x]]):=qd (by rw[gI.out,hc];simp);clear hH hc oe;go_wp2_with fail;refine HH.out.mono ?_;rintro e w4 ⟨rfl,hs⟩;have rI:=uM.still hs;have mw:=zaf qQ hs;have rz:∀ob,(w4.alloc ob).cell? ⟨gO,k,none⟩=some (qS (some ⟨gk,0,none⟩) i ck):=fun ob=>(((Below.refl w4.heap.size w4).alloc (qr _) ob).cell (p:=⟨gO,k,none⟩) (qL ho.lt mw.size)).trans ((zau hs _).trans aA)
        have ww:=Iz.out.still hs;have IB:gk<w4.heap.size:=qL Ba mw.size;clear HH uM qQ hs aA IA;go_wp2_with (at_builtin;refine zaV (w:=w4) rfl _ _ rfl gk 0 i ck (zae o) pE.out IB ww rfl rfl (by rw[pE.out];omega) ?_);intro g5 c5 w5 aD aQ;clear rz ww;go_wp2_with (at_builtin;refine zay (w:=w5) rfl _ _ rfl w4.heap.size g5 c5 i (zae o) (x:Int) pE.out aD rfl rfl (by omega) ?_);intro g6 c6 w6 aO fG dR;have yp:Below w4.heap.size w4 w6:=aQ.grown fG aQ.size (by intro t ht;cases ht;exact aD.base);have Cm:=rI.below yp;have uN:=mw.trans (yp.mono mw.size);rw[<-zdN] at aO;have ip:∀s∈rn,s.1≠g6:=fun s hs e=>by have h1:=(rI.2.1 s hs).lt;have h2:=aO.base;omega
        have qR:Hid ((zae (o++[x])).length=i+1):=qd (by rw[zai,qA,Hl.out];rfl);have Cn:Own w6 w.heap.size g6 c6 (zae (o++[x])):=aO.mono (qt hb.size mw.size);clear aD aQ fG dR rI mw yp aO;go_wp2_with (at_builtin;refine zao (w:=w6) rfl _ _ rfl w.heap.size gN cN q2 w6.heap.size rn (g6,c6,zae (o++[x])) _ wu.out (by unfold zah;rw[qR.out]) rfl Cm Cn ip rfl rfl (by omega) ?_);intro g7 c7 w7 bY pG mx;have IC:=uN.grown pG uN.size (by intro t ht;cases ht;exact AZ)
        have ID:wo.heap.size<=g7:=by
         rcases mx with h|h
         ·omega
         ·have:=uN.size;omega
        have PK:Hid (zaa (rn++[(g6,c6,zae (o++[x]))])=(zii n L k++zgV o (x+1)).map zae):=qd (by
         rw[og.out,<-List.append_assoc,List.map_append,<-io.out];simp[zaa])
        clear Cm uN pG mx ip Cn;go_wp2_with fail;go_roundw
        case rel=>exact⟨x+1,q2+1,g7,c7,_,by omega,by omega,by go_num,rfl,by show _=_;rw[qA,wu.out];rfl,PK,bY,ID,IC⟩
        case measure=>simp[intOf];omega
      ·obtain rfl:x=n:=by omega
       rw[<-iQ.out] at io;go_wp2_with fail;go_roundw
       case rel=>exact⟨k+1,q2,gN,cN,rn,by omega,by omega,by go_num,rfl,wu,io,uM,AZ,qQ⟩
       case measure=>simp[intOf];omega
    ·obtain rfl:k=p:=by omega
     rw[<-Cl.out] at io;have dt:=hb.trans (qQ.mono hb.size);clear ho hb;go_wp2_with fail;go_roundw
     case rel=>exact⟨i+1,q,gN,cN,rn,by omega,by go_num,rfl,wu,io,uM,dt⟩
     case measure=>simp[intOf];omega
  ·obtain rfl:i=n:=by omega
   go_wp2_with fail;go_ret;exact zbC.mk' gO cO rs hp.out ak.out ho hb
end
section
open Go.RowKit
attribute [local go_sem ↓] Go.wp_at_zero Go.wp_at_succ
theorem zqs(gc oc n cc g o m cs:Nat)(c:LL)(od:List Nat)(w:World)(hn:c.length=n)(my:od.length=n)(hm:n=m)(hC:IsC c)(ez:od.Nodup)(ac:∀x∈od,x<n)(aS:n<=cs)(ah:gc<w.heap.size)(hg:g<w.heap.size)(hr:zal w gc oc c)(hc:zag w g o (zae od)):
 Calls Tryz.prog 271 #[(qS (some ⟨gc,oc,none⟩) n cc),(qS (some ⟨g,o,none⟩) m cs)] w (fun e w'=>∃g' cap rs,e= .returned (.tuple #[(qS (some ⟨g',0,none⟩) n cap),.bool true])/\zaa rs=zaW c (zae od)/\zab w' w.heap.size g' cap rs/\Below w.heap.size w w'):=by
 subst hm;have aR:=hC.2.1;have fo:=zbD gc oc n cc c w hn (by omega) (fun j hj=>by have:=hC.2.2.1 j hj;omega) hr;rw[decide_eq_true hC] at fo;have wy:=qd fo;clear fo;obtain⟨s,hs⟩:∃s,zae od=s:=⟨_,rfl⟩;rw[hs] at hc ⊢;have cC:s.length=n:=by rw[<-hs,zai];exact my
 have aP:∀t,t<s.length->s.getD t 0=((od.getD t 0:Nat):Int):=fun t ht=>by rw[<-hs];exact zbB od t (by omega)
 have bR:∀t,t<s.length->0<=s.getD t 0/\s.getD t 0<c.length:=fun t ht=>by
  rw[aP t ht];have:=ac (od.getD t 0) (by simp[List.getD,show t<od.length by omega]);omega
 have uO:=qd (fun t (ht:t<s.length)=>show decide (s.getD t 0∈s.take t)=false from decide_eq_false (fun be=>by
  rw[aP t ht,<-hs] at be;unfold zae at be;rw[<-List.map_take] at be;obtain⟨y,hy,e⟩:=List.mem_map.1 be;have e2:y=od.getD t 0:=by omega
  obtain⟨u,hu,rfl⟩:=List.mem_iff_getElem.1 hy;rw[List.length_take] at hu;rw[List.getElem_take] at e2;have AO:t<od.length:=by omega
  have e3:od.getD t 0=od[t]:=by simp[List.getD,AO]
  rw[e3] at e2;have:=(List.getElem_inj ez).1 e2;omega))
 have HH:=qd (fun W (hW:∃q,W=w.drewN q) t (ht:t<s.length)=>zmf g o t cs (s.getD t 0) (s.take t) W (by rw[List.length_take];omega) (by omega) ((hc.take t).still hW))
 have H1:=qd (fun W t (ht:t<s.length)=>show Calls Tryz.prog 65 #[.int .i64 (s.getD t 0),.int .i64 0,.int .i64 ((n:Int)-1)] W (zap W (.bool true)) from by
  have:=zdJ (s.getD t 0) 0 ((n:Int)-1) W;have h2:=bR t ht
  rwa [decide_eq_true h2.1,decide_eq_true (show s.getD t 0<=(n:Int)-1 by omega)] at this)
 clear aP hs ez ac my;have PL:n<=4:=by omega
 have dY:=qd hn;have fH:=qd cC
 go_enter Tryz.func271,Tryz.ntmps271
 go_wp2_with fail;refine wy.out.mono ?_;rintro e w1 ⟨rfl,m1,rfl⟩;clear wy;have iq:Hid (∀t,t<n->0<=s.getD t 0/\s.getD t 0<(n:Int)):=qd (fun t ht=>by have:=bR t (by omega);rw[dY.out] at this;exact this);clear bR cC hn aR;go_wp2_with fail;go_loopw [6] (fun iv wr=>∃t q:Nat,t<=n/\iv= .int .i64 t/\wr=w.drewN q) (fun iv _=>n-(intOf iv).toNat)
 case atStart=>exact⟨0,m1,qz _,rfl,rfl⟩
 case round=>
  obtain⟨t,q,ht,rfl,rfl⟩:=hrel;by_cases ac:t<n
  ·have wz:t<s.length:=by rw[fH.out];exact ac
   have p1:=hc t wz;have k1:=qd (fun W=>H1.out W t wz);have k2:=qd (fun W hW=>HH.out W hW t wz);rw[uO.out t wz] at k2;have b1:(t:Int)<=(cs:Int):=by omega
   generalize s.getD t 0=y at*;clear wz;go_wp2_with fail;go_quiet ((first|(go_at_call 65;first|with_reducible exact Calls.quiet_of (k1.out _)|with_reducible exact zap.quiet4 (k1.out _))|(go_at_call 286;first|with_reducible exact Calls.quiet_of (k2.out _ ⟨_,rfl⟩)|with_reducible exact zap.quiet4 (k2.out _ ⟨_,rfl⟩))))
   go_wp2_with fail;go_roundw
   case rel=>exact⟨t+1,_,by omega,by go_num,by first|rfl|exact World.drewN_drewN _ _ _⟩
   case measure=>simp[intOf];omega
  ·obtain rfl:n=t:=by omega
   have PM:=qd (show zab ((w.drewN q).alloc (.cells #[] 25)) w.heap.size w.heap.size 0 [] from zab.empty (w:=w.drewN q) (qr _));have PN:=qd (show Below w.heap.size w ((w.drewN q).alloc (.cells #[] 25)) from(below_drewN (Below.refl _ w) q).alloc (qr _) _);clear H1 HH uO;have hs:=iq.out;go_wp2_with fail;go_loopw [7,8,9,10] (fun x i _ _ wr=>∃(t g' c':Nat) (rs:List RowRef),t<=n/\i= .int .i64 t/\x=(qS (some ⟨g',0,none⟩) t c')/\Hid (rs.length=t)/\Hid (zaa rs=(s.take t).map fun i=>zaP c i s)/\zab wr w.heap.size g' c' rs/\Below w.heap.size w wr) (fun _ i _ _ _=>n-(intOf i).toNat)
   case atStart=>exact⟨0,w.heap.size,0,[],qz _,rfl,rfl,rfl,rfl,PM.out,PN.out⟩
   case round=>
    obtain⟨t,g',c',rs,ht,rfl,rfl,cK,ak,ho,hb⟩:=hrel;by_cases ac:t<n
    ·have aL:=hs t ac;have bQ:=zef (fun i=>zaP c i s) s t (by rw[fH.out];exact ac);obtain⟨iN,pz⟩:∃iN:Nat,s.getD t 0=iN:=⟨(s.getD t 0).toNat,by omega⟩;have p1:=hc t (by rw[fH.out];exact ac);rw[pz] at p1 aL bQ;have nL:iN<n:=by omega
     have Ig:(iN:Int)<(n:Int):=by omega
     obtain⟨ga,oa,ca,q1,q2,q3,q4⟩:=hr iN (by rw[dY.out];exact nL);have mf:(c.getD iN []).length=n:=(hC.2.2.1 iN (by rw[dY.out];exact nL)).trans dY.out;rw[mf] at q1;have fS:=qd bQ;clear bQ aL pz;obtain⟨wo,rfl⟩:∃wo:World,wo=wr:=⟨_,rfl⟩;go_wp2;go_loopw [9,10] (fun x i wr=>∃k gr cr:Nat,k<=n/\i= .int .i64 k/\x=(qS (some ⟨gr,0,none⟩) k cr)/\Own wr wo.heap.size gr cr (zaP c iN (s.take k))/\Below wo.heap.size wo wr) (fun _ i _=>n-(intOf i).toNat)
     case atStart=>exact⟨0,wo.heap.size,0,qz _,rfl,rfl,Own.empty (qr _),(Below.refl _ _).alloc (qr _) _⟩
     case round=>
      obtain⟨k,gr,cr,hk,rfl,rfl,aY,ae⟩:=hrel;have du:Below w.heap.size w wr:=hb.trans (ae.mono hb.size);by_cases dN:k<n
      ·have fD:=hs k dN;have eL:=zef (fun j=>ent c iN j.toNat) s k (by rw[fH.out];exact dN);obtain⟨jN,wb⟩:∃jN:Nat,s.getD k 0=jN:=⟨(s.getD k 0).toNat,by omega⟩;have p2:=hc k (by rw[fH.out];exact dN);rw[wb] at p2 fD eL;rw[Int.toNat_natCast] at eL;have BL:jN<n:=by omega
       have lh:=qd eL;clear eL fD wb;have e2:=q4 jN (by rw[mf];exact BL);have dI:(c.getD iN []).getD jN 0=ent c iN jN:=rfl;rw[dI] at e2;have bP:(zaP c iN (s.take k)).length=k:=by simp[zaP];have:=fH.out;omega
       have fE:=qd bP;clear bP dI;generalize ent c iN jN=y at*;have hB:Below w.heap.size w wr.drew:=Below.drew du;have u1:wr.drew.cell? ⟨g,o+t,none⟩=some (.int .i64 iN):=(hB.cell (p:=⟨g,o+t,none⟩) hg).trans p1;have u2:wr.drew.cell? ⟨g,o+k,none⟩=some (.int .i64 jN):=(hB.cell (p:=⟨g,o+k,none⟩) hg).trans p2;have u3:wr.drew.cell? ⟨gc,oc+iN,none⟩=some (qS (some ⟨ga,oa,none⟩) n ca):=(hB.cell (p:=⟨gc,oc+iN,none⟩) ah).trans q1;have u4:wr.drew.cell? ⟨ga,oa+jN,none⟩=some (.int .i64 y):=(hB.cell (p:=⟨ga,oa+jN,none⟩) q3).trans e2;have lZ:=aY.base;have fJ:=hb.size;have ne1:some g≠some gr:=by intro e;cases e;omega
       have ne2:some gc≠some gr:=by intro e;cases e;omega
       have ne3:some ga≠some gr:=by intro e;cases e;omega
       have i1:(0:Int)<=(iN:Int):=by omega
       have i2:(0:Int)<=(jN:Int):=by omega
       have i3:(jN:Int)<(n:Int):=by omega
       have lk:Own wr.drew wo.heap.size gr cr (zaP c iN (s.take k)):=aY.drew;have bA:Below wr.drew.heap.size wr.drew ((wr.alloc (.cells #[.int .i64 y] 3)).drew):=(Below.refl _ wr.drew).alloc (qr _) (.cells #[.int .i64 y] 3);go_wp2_with fail
       go_region_held3 (fun W=>W.cell? ⟨g,o+t,none⟩=some (.int .i64 iN)/\W.cell? ⟨g,o+k,none⟩=some (.int .i64 jN)/\W.cell? ⟨gc,oc+iN,none⟩=some (qS (some ⟨ga,oa,none⟩) n ca)/\W.cell? ⟨ga,oa+jN,none⟩=some (.int .i64 y))
        (first|exact⟨u1,u2,u3,u4⟩|exact⟨zaB bA u1,zaB bA u2,zaB bA u3,zaB bA u4⟩|exact⟨aK.cell (a:=⟨g,o+t,none⟩) u1 ne1,aK.cell (a:=⟨g,o+k,none⟩) u2 ne1,aK.cell (a:=⟨gc,oc+iN,none⟩) u3 ne2,aK.cell (a:=⟨ga,oa+jN,none⟩) u4 ne3⟩)
        ((refine zcH (w:=wr.drew) (by rfl) _ _ (by rfl) wo.heap.size gr cr k wr.heap.size (zaP c iN (s.take k)) y _ fE.out (by rfl) (by rfl) (by exact lk) (by rfl) (by rfl) (by omega) ?_;intro g3 c3 w3 al aK eu))
       go_wp2;go_roundw
       case rel=>
        refine⟨k+1,g3,c3,by omega,by go_num,rfl,?_,(Below.drew ae).grown aK ae.size (by intro j hj;cases hj;exact aY.base)⟩;have:=lh.out;have e:zaP c iN (s.take (k+1))=zaP c iN (s.take k)++[y]:=this;rw[e];exact al
       case measure=>simp[intOf];omega
      ·obtain rfl:n=k:=by omega
       rw[qF (Nat.le_of_eq fH.out)] at aY;have bP:(zaP c iN s).length=n:=by simp[zaP];exact fH.out
       have ar:=ho.below ae;have ao:∀r∈rs,r.1≠gr:=fun r hr=>by have h1:=(ho.2.1 r hr).lt;have h2:=aY.base;omega
       have dJ:=aY.mono hb.size;have aC:zah (gr,cr,zaP c iN s)=(qS (some ⟨gr,0,none⟩) n cr):=by unfold zah;rw[bP]
       clear p1 bP q1 q4;go_wp2_with (at_builtin;refine zao rfl _ _ rfl w.heap.size g' c' t wr.heap.size rs (gr,cr,zaP c iN s) _ cK.out (by rw[aC]) rfl ar dJ ao rfl rfl (by omega) ?_);intro g4 c4 w4 aw aT _;go_wp2;go_roundw
       case rel=>
        refine⟨t+1,g4,c4,rs++[(gr,cr,zaP c iN s)],by omega,by go_num,rfl,by show _=_;rw[qA,cK.out];rfl,?_,aw,du.grown aT du.size (by intro j hj;cases hj;exact ho.base)⟩;show _=_;rw[zcA,ak.out,fS.out]
       case measure=>simp[intOf];omega
    ·obtain rfl:n=t:=by omega
     have aH:=ak.out;rw[qF (Nat.le_of_eq fH.out)] at aH;have fi:=qd aH;clear aH;go_wp2;go_ret2;exact⟨g',c',rs,rfl,fi.out,ho,hb⟩
end
section
open Go.RowKit
theorem zrb{a b:LL}{k:Nat}(hl:b.length=a.length)(hk:k<a.length)(h:a.take k=b.take k)(he:a.getD k []=b.getD k []):a.take (k+1)=b.take (k+1):=by
 have ma:k<b.length:=by omega
 rw[qT hk,qT ma,h];simp[List.getD,hk,ma] at he;rw[he]
theorem zkJ(g1 o1 n1 c1 g2 o2 n2 c2:Nat)(a b:LL)(w:World)(dL:a.length=n1)(da:b.length=n2)(hx:a.length<=1099511627776)
 (jW:∀j,j<a.length->(a.getD j []).length<=1099511627776) (jj:∀j,j<b.length->(b.getD j []).length<=1099511627776) (xQ:zal w g1 o1 a) (PO:zal w g2 o2 b):
 Calls Tryz.prog 272 #[(qS (some ⟨g1,o1,none⟩) n1 c1),(qS (some ⟨g2,o2,none⟩) n2 c2)] w (zap w (.bool (decide (a=b)))):=by
 subst dL;subst da;by_cases hl:b.length=a.length
 ·have jV:b.length=a.length:=hl;have Hl:=qd jV;clear jV;have hb:((a.length:Int) != (b.length:Int))=false:=by rw[hl];simp
  clear hl
  go_enter Tryz.func272,Tryz.ntmps272
  go_wp2;go_loopw [5,6] (fun i _ wr=>∃k:Nat,k<=a.length/\i= .int .i64 k/\Hid (a.take k=b.take k)/\∃n,wr=w.drewN n) (fun i _ _=>a.length-(intOf i).toNat)
  case atStart=>exact⟨0,qz _,rfl,rfl,0,rfl⟩
  case round=>
   obtain⟨k,hk,rfl,he,n,rfl⟩:=hrel;by_cases ac:k<a.length
   ·have fc:k<b.length:=by rw[Hl.out];exact ac
    obtain⟨ga,oa,ca,q1,q2,q3,q4⟩:=xQ k ac;obtain⟨gb,ob,cb,p1,p2,p3,p4⟩:=PO k fc;have dK:=jW k ac;have IE:=jj k fc;obtain⟨R,hR⟩:∃R,a.getD k []=R:=⟨_,rfl⟩;obtain⟨S,hS⟩:∃S,b.getD k []=S:=⟨_,rfl⟩;rw[hR] at q1 q2 q4 dK;rw[hS] at p1 p2 p4 IE;have HR:=qd hR;have HS:=qd hS;clear hR hS;by_cases Bb:S.length=R.length
    ·have PP:((R.length:Int) != (S.length:Int))=false:=by rw[Bb];simp
     have IF:=qd Bb;clear Bb;go_wp2;go_quiet (fail)
     go_wp2;obtain⟨wo,PQ⟩:∃wo:World,wo=w.drewN n:=⟨_,rfl⟩;clear PQ;go_loopw [6] (fun j wr=>∃t:Nat,t<=R.length/\j= .int .i64 t/\Hid (R.take t=S.take t)/\∃n,wr=w.drewN n) (fun j _=>R.length-(intOf j).toNat)
     case atStart=>exact⟨0,qz _,rfl,rfl,(by first|exact⟨_,rfl⟩|exact⟨0,rfl⟩|exact zam _ _ _|exact zan _ _ _ _)⟩
     case round=>
      obtain⟨t,ht,rfl,MB,n2,rfl⟩:=hrel;by_cases bU:t<R.length
      ·have mz:t<S.length:=by rw[IF.out];exact bU
       have r1:=q4 t bU;have r2:=p4 t mz;go_wp2;go_quiet (fail)
       go_wp2
       ·have ao:(R[t] != S[t])=true:=by assumption
        go_ret
        have eC:a≠b:=fun e=>by
         have:R=S:=by rw[<-HR.out,<-HS.out,e]
         subst this;simp at ao
        exact⟨zaK (by simp[eC]),(by first|exact⟨_,rfl⟩|exact⟨0,rfl⟩|exact zam _ _ _|exact zan _ _ _ _)⟩
       ·have Gi:(R[t] != S[t])=false:=by assumption
        go_roundw
        case rel=>exact⟨t+1,by omega,by go_num,ziQ IF.out.symm bU MB.out (by simpa [List.getD,bU,mz] using Gi),(by first|exact⟨_,rfl⟩|exact⟨0,rfl⟩|exact zam _ _ _|exact zan _ _ _ _)⟩
        case measure=>simp[intOf];omega
      ·obtain rfl:t=R.length:=by omega
       go_wp2;go_roundw
       case rel=>
        have Bb:R=S:=by
         have h3:=MB.out
         rwa [qF (by omega),qF (by have:=IF.out;omega)] at h3
        exact⟨k+1,by omega,by go_num,zrb Hl.out ac he.out (by rw[HR.out,HS.out];exact Bb),(by first|exact⟨_,rfl⟩|exact⟨0,rfl⟩|exact zam _ _ _|exact zan _ _ _ _)⟩
       case measure=>simp[intOf];omega
    ·have PP:((R.length:Int) != (S.length:Int))=true:=by rw[bne_iff_ne];omega
     go_wp2;go_quiet (fail)
     go_wp2;go_ret;have ao:a≠b:=fun e=>Bb (by rw[<-HR.out,<-HS.out,e])
     exact⟨zaK (by simp[ao]),(by first|exact⟨_,rfl⟩|exact⟨0,rfl⟩|exact zam _ _ _|exact zan _ _ _ _)⟩
   ·obtain rfl:k=a.length:=by omega
    go_wp2;go_ret;refine⟨zaK ?_,n,rfl⟩;have h3:=he.out;rw[qF (by omega),qF (by have:=Hl.out;omega)] at h3;simp[h3]
 ·have hb:((a.length:Int) != (b.length:Int))=true:=by rw[bne_iff_ne];omega
  go_enter Tryz.func272,Tryz.ntmps272
  go_wp2;go_ret;exact⟨zaK (by simp;intro e;exact hl (by rw[e])),0,rfl⟩
end
end Go.Proofs.YtlgcmaoimpgedaaGreatDoor

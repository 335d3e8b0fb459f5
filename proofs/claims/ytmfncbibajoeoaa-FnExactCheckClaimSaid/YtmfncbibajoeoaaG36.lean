/- Vectors of four numbers as keys: vectorOf, list. Sets of vectors that a call keeps in a map: words and laws. A slice of elements of k cells, of the call's own; append to it. -/
import Derived.Test.YtmfncbibajoeoaaG21
import Derived.Laws.CopyOwn
import Derived.Maps.Own
import Derived.Maps.OwnOps
import Derived.Maps.Views
import Derived.WideKeyArr2
import Derived.DeepKeys4
import Derived.Test.YtmfncbibajoeoaaRw
namespace Go.Proofs.Ytmfncbibajoeoaa
set_option maxRecDepth 100000
open Go.RowKit Game

def vecVal (v : List Int) : Value := .agg #[.int .i64 (v.getD 0 0), .int .i64 (v.getD 1 0), .int .i64 (v.getD 2 0), .int .i64 (v.getD 3 0)]

theorem splice4 (v : List Int) (h : v.length ≤ 4) : splice [Value.int .i64 0, .int .i64 0, .int .i64 0, .int .i64 0] 0 (v.map (Value.int .i64)) = [.int .i64 (v.getD 0 0), .int .i64 (v.getD 1 0), .int .i64 (v.getD 2 0), .int .i64 (v.getD 3 0)] := by
  match v, h with
  | [], _ => rfl
  | [a], _ => rfl
  | [a, b], _ => rfl
  | [a, b, c], _ => rfl
  | [a, b, c, d], _ => rfl
theorem cell4 {w : World} {B : Nat} {a b c d : Value} {t : TypeId} (h : w.heap[B]? = some (.cells #[a, b, c, d] t (0, 0))) :
    (w.cell? ⟨B, 0, none⟩ = some a ∧ w.cell? ⟨B, 1, none⟩ = some b ∧ w.cell? ⟨B, 2, none⟩ = some c ∧ w.cell? ⟨B, 3, none⟩ = some d) ∧ ∀ j, w.frozen? ⟨B, j, none⟩ = false := by
  refine ⟨⟨?_, ?_, ?_, ?_⟩, fun j => ?_⟩ <;> simp [World.cell?, World.frozen?, h]

/-- 'append([]int{}, l...)', the worlds under names -/
theorem wpList_clone_n {w : World} {ops : Array Oper} {rest : List Oper} {o : Oper} {a : Act} {Q : Exit → Act → World → Prop} (hgd : o.guard = none) (s x : Operand)
    (ho : o.op = .call { callee := .builtin .append, args := #[s, x], argTypes := #[24, 24] })
    (w1 W : World) (H g2 o2 n2 c2 : Nat) (ys : List Int) (hn : ys.length = n2) (hW : W = w1.alloc (.cells #[] 3)) (hH : w1.heap.size = H) (hb : Below w.heap.size w w1) (hg : g2 < w1.heap.size) (hc : Cells w1 g2 o2 ys)
    (hs : a.eval s = (Value.slice (some ⟨H, 0, none⟩) 0 0)) (hx : a.eval x = (Value.slice (some ⟨g2, o2, none⟩) n2 c2)) (hlen : ys.length ≤ 1099511627776)
    (h : ∀ g' cap' w', Own w' w.heap.size g' cap' ys → Below w.heap.size w w' → wpList Try.prog ops Q rest (a.put o.dst (Value.slice (some ⟨g', 0, none⟩) n2 cap')) w') :
    wpList Try.prog ops Q (o :: rest) a W := by
  subst hW; subst hH
  exact wpList_clone hgd s x ho g2 o2 n2 c2 ys hn hg hc hs hx hlen fun g' cap' w' h1 h2 => h g' cap' w' (h1.mono hb.size) (hb.trans (h2.mono hb.size))

theorem cells_of4 {w : World} {B : Nat} {v : List Int} {t : TypeId} (h4 : v.length ≤ 4) (h : w.heap[B]? = some (.cells #[.int .i64 (v.getD 0 0), .int .i64 (v.getD 1 0), .int .i64 (v.getD 2 0), .int .i64 (v.getD 3 0)] t (0, 0))) : Cells w B 0 v := by
  obtain ⟨⟨a0, a1, a2, a3⟩, -⟩ := cell4 h
  intro j hj
  have : j = 0 ∨ j = 1 ∨ j = 2 ∨ j = 3 := by omega
  rcases this with rfl | rfl | rfl | rfl
  · exact a0
  · exact a1
  · exact a2
  · exact a3
end Go.Proofs.Ytmfncbibajoeoaa
namespace Go.Proofs.Ytmfncbibajoeoaa
set_option maxRecDepth 100000
open Go.RowKit Game
open Go.Maps (Keyed IsMap)

theorem vecLaidOut : laidOutB Try.prog = true := by kernel_rfl
theorem boolZero (w : World) : (zeroValue 4).run Try.prog w = .ok (.bool false) w := by kernel_rfl
def WfV (v : List Int) : Prop := ∀ j, j < 4 → (Lit.int .i64 (v.getD j 0)).wf = true
def keyL (v : List Int) : Lit := .string (keyBytes [.int .i64 (v.getD 0 0), .int .i64 (v.getD 1 0), .int .i64 (v.getD 2 0), .int .i64 (v.getD 3 0)])
theorem vecVal_inj {v u : List Int} (hl : v.length = u.length) (h4 : v.length ≤ 4) (h : vecVal v = vecVal u) : v = u := by
  unfold vecVal at h
  simp at h
  obtain ⟨h0, h1, h2, h3⟩ := h
  apply List.ext_getElem hl
  intro i hi hi'
  have : i = 0 ∨ i = 1 ∨ i = 2 ∨ i = 3 := by omega
  rcases this with rfl | rfl | rfl | rfl <;> simp_all
section
variable {w w' : World} {b n m : Nat} {ks : List (List Int)}
theorem plainElem_bool_inv {P : Program} {e : TypeId} (he : P.underlying e = some .bool) {v : Value} {z : DataW Unit × List MemPlace} (h : plainElem P e v = some z) : ∃ x, v = .bool x ∧ z = (.lit (.bool x), []) := by
  unfold plainElem at h
  rw [he] at h
  cases v <;> simp at h
  subst h
  exact ⟨_, rfl, rfl⟩
end
end Go.Proofs.Ytmfncbibajoeoaa
namespace Go.Proofs.Ytmfncbibajoeoaa
set_option maxRecDepth 100000
open Go.RowKit

/-- a slice of elements of k cells, at the head of block g, of the call's own -/
def OwnK (w : World) (B : Nat) (E : TypeId) (k g cap n : Nat) (cs : List Value) : Prop := w.ownsRow B E k (Value.slice (some ⟨g, 0, none⟩) n cap) n cs
section
variable {w w' : World} {B g cap n k : Nat} {E : TypeId} {cs : List Value}
theorem OwnK.base (h : OwnK w B E k g cap n cs) : B ≤ g := (World.ownsRow.lt h g rfl).1
theorem OwnK.lt (h : OwnK w B E k g cap n cs) : g < w.heap.size := (World.ownsRow.lt h g rfl).2
theorem OwnK.row (h : OwnK w B E k g cap n cs) : ∃ cur, w.heap[g]? = some (.cells cur E (0, 0)) ∧ n ≤ cap ∧ cap ≤ maxLen := by
  rcases h.2 with ⟨h', _⟩ | ⟨g', cap', cur, h', _, hh, hn, hm, _⟩
  · simp at h'
  · simp only [Value.slice.injEq, Option.some.injEq, Addr.mk.injEq] at h'
    obtain ⟨⟨rfl, _⟩, _, rfl⟩ := h'
    exact ⟨cur, hh, hn, hm⟩
theorem OwnK.capLe (h : OwnK w B E k g cap n cs) : n ≤ cap := by obtain ⟨_, _, h, _⟩ := h.row; exact h
theorem OwnK.len (h : OwnK w B E k g cap n cs) : cs.length = n * k := h.1
theorem OwnK.cell (h : OwnK w B E k g cap n cs) (j : Nat) (hj : j < cs.length) : w.cell? ⟨g, j, none⟩ = some cs[j] := by
  rw [World.ownsRow.cellAt h j (by have := h.len; omega)]; simp [hj]
theorem OwnK.frozen (h : OwnK w B E k g cap n cs) (j : Nat) : w.frozen? ⟨g, j, none⟩ = false := World.ownsRow.frozenAt h j
theorem OwnK.mono {B' : Nat} (h : OwnK w B E k g cap n cs) (hB : B' ≤ B) : OwnK w B' E k g cap n cs := by
  refine ⟨h.1, ?_⟩
  rcases h.2 with ⟨h', _⟩ | ⟨g', cap', cur, h', hb, r⟩
  · simp at h'
  · exact .inr ⟨g', cap', cur, h', by omega, r⟩
theorem OwnK.grown {row : Option Nat} (h : OwnK w B E k g cap n cs) (hg : w.grownBy w' row) (hne : some g ≠ row) : OwnK w' B E k g cap n cs := World.ownsRow.kept h hg (.inr hne)
theorem OwnK.below {B' : Nat} (h : OwnK w B E k g cap n cs) (hb : Below B' w w') (hg : g < B') : OwnK w' B E k g cap n cs := by
  refine ⟨h.1, ?_⟩
  rcases h.2 with ⟨h', _⟩ | ⟨g', cap', cur, h', hbb, hh, r⟩
  · simp at h'
  · refine .inr ⟨g', cap', cur, h', hbb, ?_, r⟩
    simp only [Value.slice.injEq, Option.some.injEq, Addr.mk.injEq] at h'
    obtain ⟨⟨rfl, _⟩, _⟩ := h'
    rw [hb.block _ hg]; exact hh
theorem OwnK.alloc (h : OwnK w B E k g cap n cs) (o : Obj) : OwnK (w.alloc o) B E k g cap n cs := World.ownsRow.alloc h o
theorem OwnK.set (h : OwnK w B E k g cap n cs) (j : Nat) (v : Value) : OwnK (w.setCell ⟨g, j, none⟩ v) B E k g cap n (cs.set j v) ∧ w.grownBy (w.setCell ⟨g, j, none⟩ v) (some g) := World.ownsRow.stored h j v
theorem OwnK.neV {B' g' cap' : Nat} {E' : TypeId} {vs' : List Value} (h : OwnK w B E k g cap n cs) (h' : OwnV w B' E' g' cap' vs') (hE : E ≠ E') : g ≠ g' := by
  rintro rfl
  obtain ⟨c1, e1, _⟩ := h.row
  obtain ⟨c2, e2, _⟩ := h'.row
  rw [e1] at e2
  simp at e2
  exact hE e2.2
end

theorem run_append_K {w : World} {S E : TypeId} {z : Value} {k by' : Nat} (hinfo : (Try.prog.info? E).map (fun i => (i.zero, i.size, i.bytes)) = some (some z, k, by')) (hu : Try.prog.underlying S = some (.slice E)) (hzs : z.cells.size = k) (hk : 0 < k) (hby : by' ≤ 1024)
    {B g cap n : Nat} {cs : List Value} (hown : OwnK w B E k g cap n cs) (g2 o2 m c2 : Nat) (news : List Value) (hl : news.length = m * k) (hnews : ∀ j u, news[j]? = some u → w.cell? ⟨g2, o2 + j, none⟩ = some u) (h1 : ∀ u ∈ news, u.oneCell' = true)
    (hlen : n + m ≤ 1048576) (ty : TypeId) :
    ∃ g' cap' w', (Builtin.append_ #[S, S] ty #[(Value.slice (some ⟨g, 0, none⟩) n cap), (Value.slice (some ⟨g2, o2, none⟩) m c2)]).run Try.prog w = .ok (Value.slice (some ⟨g', 0, none⟩) (n + m) cap') w' ∧ OwnK w' B E k g' cap' (n + m) (cs ++ news) ∧ w.grownBy w' (some g) ∧ (g' = g ∨ g' = w.heap.size) := by
  obtain ⟨i0, hi, hz0, hz1, hz2⟩ := info_parts hinfo
  have hbytes : (n + m) * by' ≤ 140737488355328 := Nat.le_trans (Nat.mul_le_mul hlen hby) (by decide)
  have hnews' : ∀ j u, news[j]? = some u → w.cell? ((⟨g2, o2, none⟩ : Addr).add j) = some u := fun j u hu => by rw [Addr.add_lit]; exact hnews j u hu
  obtain ⟨v', w', hr, ho, hg, -⟩ := run_append_own (P := Try.prog) w B S ty E i0 z k by' hu hi hz0 hz1 hz2 hzs hk _ n _ hown ⟨g2, o2, none⟩ m c2 news hl hnews' h1 (by unfold maxLen; omega) hbytes (by have := hown.base; have := hown.lt; omega)
  have fin : ∀ g' cap', v' = (Value.slice (some ⟨g', 0, none⟩) (n + m) cap') → (g' = g ∨ g' = w.heap.size) → ∃ g' cap' w', (Builtin.append_ #[S, S] ty #[(Value.slice (some ⟨g, 0, none⟩) n cap), (Value.slice (some ⟨g2, o2, none⟩) m c2)]).run Try.prog w = .ok (Value.slice (some ⟨g', 0, none⟩) (n + m) cap') w' ∧ OwnK w' B E k g' cap' (n + m) (cs ++ news) ∧ w.grownBy w' (some g) ∧ (g' = g ∨ g' = w.heap.size) := by
    intro g' cap' hv hor
    subst hv
    exact ⟨g', cap', w', hr, ho, hg, hor⟩
  have hl' : news.length = m * i0.size := by rw [hz1]; exact hl
  by_cases hroom : n + m ≤ cap
  · rcases hown.2 with ⟨h', _⟩ | ⟨g1, cap1, cur, hv, hb, hh, hn, hm, hs, htk⟩
    · simp at h'
    simp only [Value.slice.injEq, Option.some.injEq, Addr.mk.injEq, and_true, true_and] at hv
    obtain ⟨rfl, rfl⟩ := hv
    have hsz : n * i0.size + news.length ≤ cur.size := by
      rw [hz1, hl, hs, ← Nat.add_mul]
      exact Nat.mul_le_mul_right _ hroom
    have hr2 := run_append_room (P := Try.prog) w S ty E i0 hu hi g n cap cur hh ⟨g2, o2, none⟩ m c2 news hl' hnews' h1 hroom hsz
    rw [hr2] at hr
    simp only [Result.ok.injEq] at hr
    exact fin g cap hr.1.symm (.inl rfl)
  · have hbc : (n + m) * i0.bytes ≤ 1073741824 := by rw [hz2]; exact Nat.le_trans (Nat.mul_le_mul hlen hby) (by decide)
    have hr2 := run_append_grow (P := Try.prog) w S ty E i0 z hu hi hz0 ⟨g, 0, none⟩ n cap cs (by rw [hz1]; exact hown.1) (World.ownsRow.cells hown rfl) ⟨g2, o2, none⟩ m c2 news hl' hnews' (by omega) (by omega) (growslice_fits (by omega) (by omega))
    rw [hr2] at hr
    simp only [Result.ok.injEq] at hr
    exact fin _ _ hr.1.symm (.inr rfl)

theorem wpList_append_K {w : World} {S E : TypeId} {z : Value} {k by' : Nat} (hinfo : (Try.prog.info? E).map (fun i => (i.zero, i.size, i.bytes)) = some (some z, k, by')) (hu : Try.prog.underlying S = some (.slice E)) (hzs : z.cells.size = k) (hk : 0 < k) (hby : by' ≤ 1024)
    {ops : Array Oper} {rest : List Oper} {o : Oper} {a : Act} {Q : Exit → Act → World → Prop} (hgd : o.guard = none) (s x : Operand)
    (ho : o.op = .call { callee := .builtin .append, args := #[s, x], argTypes := #[S, S] })
    (B g cap n : Nat) (cs : List Value) (hown : OwnK w B E k g cap n cs) (g2 o2 m c2 : Nat) (news : List Value) (hl : news.length = m * k) (hnews : ∀ j u, news[j]? = some u → w.cell? ⟨g2, o2 + j, none⟩ = some u) (h1 : ∀ u ∈ news, u.oneCell' = true)
    (hs : a.eval s = (Value.slice (some ⟨g, 0, none⟩) n cap)) (hx : a.eval x = (Value.slice (some ⟨g2, o2, none⟩) m c2)) (hlen : n + m ≤ 1048576)
    (h : ∀ g' cap' w', OwnK w' B E k g' cap' (n + m) (cs ++ news) → w.grownBy w' (some g) → (g' = g ∨ g' = w.heap.size) → wpList Try.prog ops Q rest (a.put o.dst (Value.slice (some ⟨g', 0, none⟩) (n + m) cap')) w') :
    wpList Try.prog ops Q (o :: rest) a w := by
  obtain ⟨g', cap', w', hr, h2, h3, h4⟩ := run_append_K hinfo hu hzs hk hby hown g2 o2 m c2 news hl hnews h1 hlen o.type
  refine wpList_plain hgd fun K hK => ?_
  unfold Oper.wp execOp
  simp only [ho, resolve, invoke, builtin, Sem.run_bind, Sem.run_pure, Result.andThen_ok, List.map_toArray, List.map_cons, List.map_nil, hs, hx, hr]
  exact hK _ _ (h g' cap' w' h2 h3 h4)

end Go.Proofs.Ytmfncbibajoeoaa

/- Lists of weights with counts ([]impl.Weighted): what they read as. A slice of elements of k cells, of the call's own; append to it. -/
import Derived.Test.YtihfbbpkgmkbcaaWd
import Derived.Test.YtihfbbpkgmkbcaaRw
namespace Go.Proofs.Ytihfbbpkgmkbcaa
set_option maxRecDepth 100000
open Go.RowKit

/-- a weight with its count -/
abbrev Wt := List Int × Int
def wOf (l : List Wt) (j : Nat) : List Int := (l.getD j ([], 0)).1
def ctOf (l : List Wt) (j : Nat) : Int := (l.getD j ([], 0)).2
/-- cells that hold weights with counts, two a piece -/
def WRows (w : World) (g o : Nat) (l : List Wt) : Prop :=
  ∀ j, j < l.length → ∃ gj oj cj, w.cell? ⟨g, o + j * 2, none⟩ = some (Value.slice (some ⟨gj, oj, none⟩) ((wOf l j).length) cj) ∧ w.cell? ⟨g, o + j * 2 + 1, none⟩ = some (.int .i64 (ctOf l j)) ∧ (wOf l j).length ≤ cj ∧ gj < w.heap.size ∧ Cells w gj oj (wOf l j)
theorem WRows.below {w w' : World} {g o : Nat} {l : List Wt} (h : WRows w g o l) (hb : Below w.heap.size w w') (hg : g < w.heap.size) : WRows w' g o l := fun j hj => by
  obtain ⟨gj, oj, cj, h1, h2, h3, h4, h5⟩ := h j hj
  exact ⟨gj, oj, cj, (hb.cell (p := ⟨g, o + j * 2, none⟩) hg).trans h1, (hb.cell (p := ⟨g, o + j * 2 + 1, none⟩) hg).trans h2, h3, Nat.lt_of_lt_of_le h4 hb.size, h5.below hb h4⟩
def wFew (l : List Wt) : Prop := l.length ≤ 1048576 ∧ ∀ j, j < l.length → (wOf l j).length ≤ 1048576

/-- the count of a weight in a list: of the first that is equal -/
def countIn : List Wt → List Int → Int
  | [], _ => 0
  | x :: l, v => if x.1 = v then x.2 else countIn l v
theorem countIn_drop (l : List Wt) (v : List Int) (k : Nat) (hk : k < l.length) : countIn (l.drop k) v = if wOf l k = v then ctOf l k else countIn (l.drop (k + 1)) v := by
  have e : l.drop k = l[k] :: l.drop (k + 1) := List.drop_eq_getElem_cons hk
  rw [e]; simp [countIn, wOf, ctOf, List.getD, hk]

end Go.Proofs.Ytihfbbpkgmkbcaa
namespace Go.Proofs.Ytihfbbpkgmkbcaa
set_option maxRecDepth 100000
open Go.RowKit

/-- a slice of elements of k cells, at the head of block g, of the call's own -/
def OwnK (w : World) (B : Nat) (E : TypeId) (k g cap n : Nat) (cs : List Value) : Prop := w.ownsRow B E k (Value.slice (some ⟨g, 0, none⟩) n cap) n cs
section
variable {w w' : World} {B g cap n k : Nat} {E : TypeId} {cs : List Value}
theorem OwnK.base (h : OwnK w B E k g cap n cs) : B ≤ g := (World.ownsRow.lt h g rfl).1
theorem OwnK.lt (h : OwnK w B E k g cap n cs) : g < w.heap.size := (World.ownsRow.lt h g rfl).2
theorem OwnK.row (h : OwnK w B E k g cap n cs) : ∃ cur, w.heap[g]? = some (.cells cur E (0, 0)) ∧ n ≤ cap ∧ cap ≤ maxLen := by
  rcases h.2 with ⟨h', _⟩ | ⟨g', cap', cur, h', _, hh, hn, hm, _⟩
  · simp at h'
  · simp only [Value.slice.injEq, Option.some.injEq, Addr.mk.injEq] at h'
    obtain ⟨⟨rfl, _⟩, _, rfl⟩ := h'
    exact ⟨cur, hh, hn, hm⟩
theorem OwnK.capLe (h : OwnK w B E k g cap n cs) : n ≤ cap := by obtain ⟨_, _, h, _⟩ := h.row; exact h
theorem OwnK.len (h : OwnK w B E k g cap n cs) : cs.length = n * k := h.1
theorem OwnK.cell (h : OwnK w B E k g cap n cs) (j : Nat) (hj : j < cs.length) : w.cell? ⟨g, j, none⟩ = some cs[j] := by
  rw [World.ownsRow.cellAt h j (by have := h.len; omega)]; simp [hj]
theorem OwnK.frozen (h : OwnK w B E k g cap n cs) (j : Nat) : w.frozen? ⟨g, j, none⟩ = false := World.ownsRow.frozenAt h j
theorem OwnK.mono {B' : Nat} (h : OwnK w B E k g cap n cs) (hB : B' ≤ B) : OwnK w B' E k g cap n cs := by
  refine ⟨h.1, ?_⟩
  rcases h.2 with ⟨h', _⟩ | ⟨g', cap', cur, h', hb, r⟩
  · simp at h'
  · exact .inr ⟨g', cap', cur, h', by omega, r⟩
theorem OwnK.grown {row : Option Nat} (h : OwnK w B E k g cap n cs) (hg : w.grownBy w' row) (hne : some g ≠ row) : OwnK w' B E k g cap n cs := World.ownsRow.kept h hg (.inr hne)
theorem OwnK.below {B' : Nat} (h : OwnK w B E k g cap n cs) (hb : Below B' w w') (hg : g < B') : OwnK w' B E k g cap n cs := by
  refine ⟨h.1, ?_⟩
  rcases h.2 with ⟨h', _⟩ | ⟨g', cap', cur, h', hbb, hh, r⟩
  · simp at h'
  · refine .inr ⟨g', cap', cur, h', hbb, ?_, r⟩
    simp only [Value.slice.injEq, Option.some.injEq, Addr.mk.injEq] at h'
    obtain ⟨⟨rfl, _⟩, _⟩ := h'
    rw [hb.block _ hg]; exact hh
theorem OwnK.alloc (h : OwnK w B E k g cap n cs) (o : Obj) : OwnK (w.alloc o) B E k g cap n cs := World.ownsRow.alloc h o
theorem OwnK.set (h : OwnK w B E k g cap n cs) (j : Nat) (v : Value) : OwnK (w.setCell ⟨g, j, none⟩ v) B E k g cap n (cs.set j v) ∧ w.grownBy (w.setCell ⟨g, j, none⟩ v) (some g) := World.ownsRow.stored h j v
theorem OwnK.neV {B' g' cap' : Nat} {E' : TypeId} {vs' : List Value} (h : OwnK w B E k g cap n cs) (h' : OwnV w B' E' g' cap' vs') (hE : E ≠ E') : g ≠ g' := by
  rintro rfl
  obtain ⟨c1, e1, _⟩ := h.row
  obtain ⟨c2, e2, _⟩ := h'.row
  rw [e1] at e2
  simp at e2
  exact hE e2.2
end

theorem run_append_K {w : World} {S E : TypeId} {z : Value} {k by' : Nat} (hinfo : (Try.prog.info? E).map (fun i => (i.zero, i.size, i.bytes)) = some (some z, k, by')) (hu : Try.prog.underlying S = some (.slice E)) (hzs : z.cells.size = k) (hk : 0 < k) (hby : by' ≤ 1024)
    {B g cap n : Nat} {cs : List Value} (hown : OwnK w B E k g cap n cs) (g2 o2 m c2 : Nat) (news : List Value) (hl : news.length = m * k) (hnews : ∀ j u, news[j]? = some u → w.cell? ⟨g2, o2 + j, none⟩ = some u) (h1 : ∀ u ∈ news, u.oneCell' = true)
    (hlen : n + m ≤ 1048576) (ty : TypeId) :
    ∃ g' cap' w', (Builtin.append_ #[S, S] ty #[(Value.slice (some ⟨g, 0, none⟩) n cap), (Value.slice (some ⟨g2, o2, none⟩) m c2)]).run Try.prog w = .ok (Value.slice (some ⟨g', 0, none⟩) (n + m) cap') w' ∧ OwnK w' B E k g' cap' (n + m) (cs ++ news) ∧ w.grownBy w' (some g) ∧ (g' = g ∨ g' = w.heap.size) := by
  obtain ⟨i0, hi, hz0, hz1, hz2⟩ := info_parts hinfo
  have hbytes : (n + m) * by' ≤ 140737488355328 := Nat.le_trans (Nat.mul_le_mul hlen hby) (by decide)
  have hnews' : ∀ j u, news[j]? = some u → w.cell? ((⟨g2, o2, none⟩ : Addr).add j) = some u := fun j u hu => by rw [Addr.add_lit]; exact hnews j u hu
  obtain ⟨v', w', hr, ho, hg, -⟩ := run_append_own (P := Try.prog) w B S ty E i0 z k by' hu hi hz0 hz1 hz2 hzs hk _ n _ hown ⟨g2, o2, none⟩ m c2 news hl hnews' h1 (by unfold maxLen; omega) hbytes (by have := hown.base; have := hown.lt; omega)
  have fin : ∀ g' cap', v' = (Value.slice (some ⟨g', 0, none⟩) (n + m) cap') → (g' = g ∨ g' = w.heap.size) → ∃ g' cap' w', (Builtin.append_ #[S, S] ty #[(Value.slice (some ⟨g, 0, none⟩) n cap), (Value.slice (some ⟨g2, o2, none⟩) m c2)]).run Try.prog w = .ok (Value.slice (some ⟨g', 0, none⟩) (n + m) cap') w' ∧ OwnK w' B E k g' cap' (n + m) (cs ++ news) ∧ w.grownBy w' (some g) ∧ (g' = g ∨ g' = w.heap.size) := by
    intro g' cap' hv hor
    subst hv
    exact ⟨g', cap', w', hr, ho, hg, hor⟩
  have hl' : news.length = m * i0.size := by rw [hz1]; exact hl
  by_cases hroom : n + m ≤ cap
  · rcases hown.2 with ⟨h', _⟩ | ⟨g1, cap1, cur, hv, hb, hh, hn, hm, hs, htk⟩
    · simp at h'
    simp only [Value.slice.injEq, Option.some.injEq, Addr.mk.injEq, and_true, true_and] at hv
    obtain ⟨rfl, rfl⟩ := hv
    have hsz : n * i0.size + news.length ≤ cur.size := by
      rw [hz1, hl, hs, ← Nat.add_mul]
      exact Nat.mul_le_mul_right _ hroom
    have hr2 := run_append_room (P := Try.prog) w S ty E i0 hu hi g n cap cur hh ⟨g2, o2, none⟩ m c2 news hl' hnews' h1 hroom hsz
    rw [hr2] at hr
    simp only [Result.ok.injEq] at hr
    exact fin g cap hr.1.symm (.inl rfl)
  · have hbc : (n + m) * i0.bytes ≤ 1073741824 := by rw [hz2]; exact Nat.le_trans (Nat.mul_le_mul hlen hby) (by decide)
    have hr2 := run_append_grow (P := Try.prog) w S ty E i0 z hu hi hz0 ⟨g, 0, none⟩ n cap cs (by rw [hz1]; exact hown.1) (World.ownsRow.cells hown rfl) ⟨g2, o2, none⟩ m c2 news hl' hnews' (by omega) (by omega) (growslice_fits (by omega) (by omega))
    rw [hr2] at hr
    simp only [Result.ok.injEq] at hr
    exact fin _ _ hr.1.symm (.inr rfl)

theorem wpList_append_K {w : World} {S E : TypeId} {z : Value} {k by' : Nat} (hinfo : (Try.prog.info? E).map (fun i => (i.zero, i.size, i.bytes)) = some (some z, k, by')) (hu : Try.prog.underlying S = some (.slice E)) (hzs : z.cells.size = k) (hk : 0 < k) (hby : by' ≤ 1024)
    {ops : Array Oper} {rest : List Oper} {o : Oper} {a : Act} {Q : Exit → Act → World → Prop} (hgd : o.guard = none) (s x : Operand)
    (ho : o.op = .call { callee := .builtin .append, args := #[s, x], argTypes := #[S, S] })
    (B g cap n : Nat) (cs : List Value) (hown : OwnK w B E k g cap n cs) (g2 o2 m c2 : Nat) (news : List Value) (hl : news.length = m * k) (hnews : ∀ j u, news[j]? = some u → w.cell? ⟨g2, o2 + j, none⟩ = some u) (h1 : ∀ u ∈ news, u.oneCell' = true)
    (hs : a.eval s = (Value.slice (some ⟨g, 0, none⟩) n cap)) (hx : a.eval x = (Value.slice (some ⟨g2, o2, none⟩) m c2)) (hlen : n + m ≤ 1048576)
    (h : ∀ g' cap' w', OwnK w' B E k g' cap' (n + m) (cs ++ news) → w.grownBy w' (some g) → (g' = g ∨ g' = w.heap.size) → wpList Try.prog ops Q rest (a.put o.dst (Value.slice (some ⟨g', 0, none⟩) (n + m) cap')) w') :
    wpList Try.prog ops Q (o :: rest) a w := by
  obtain ⟨g', cap', w', hr, h2, h3, h4⟩ := run_append_K hinfo hu hzs hk hby hown g2 o2 m c2 news hl hnews h1 hlen o.type
  refine wpList_plain hgd fun K hK => ?_
  unfold Oper.wp execOp
  simp only [ho, resolve, invoke, builtin, Sem.run_bind, Sem.run_pure, Result.andThen_ok, List.map_toArray, List.map_cons, List.map_nil, hs, hx, hr]
  exact hK _ _ (h g' cap' w' h2 h3 h4)

end Go.Proofs.Ytihfbbpkgmkbcaa

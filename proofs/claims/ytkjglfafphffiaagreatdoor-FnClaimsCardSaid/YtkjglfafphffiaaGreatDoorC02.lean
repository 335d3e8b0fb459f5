/- Wd Wt OwnK Wo RegApp Refl Held -/
import Derived.Test.YtkjglfafphffiaaGreatDoorC01
import Derived.Test.YtkjglfafphffiaaGreatDoorC00
import Derived.Laws.ResultCell
import Derived.Deep.RegionHeld3
import Derived.Deep.DrawnRows
import Derived.StillTailTactics
import Derived.Deep.Slices
import Derived.Deep.Fields
import Derived.ChangeSame
namespace Go.Proofs.YtkjglfafphffiaaGreatDoor
set_option maxRecDepth 100000
open Go.RowKit
set_option maxHeartbeats 400000 in
theorem slices_Equal_any (g1 o1 n1 c1 g2 o2 n2 c2 : Nat) (xs ys : List Int) (w : World) (hn1 : xs.length = n1) (hn2 : ys.length = n2) (hx : xs.length ≤ 1099511627776) (hy : ys.length ≤ 1099511627776)
    (hcx : Cells w g1 o1 xs) (hcy : Cells w g2 o2 ys) :
    Calls Tryz.prog 77 #[(Value.slice (some ⟨g1, o1, none⟩) n1 c1), (Value.slice (some ⟨g2, o2, none⟩) n2 c2)] w (Reads w (.bool (decide (xs = ys)))) := by
  subst hn1; subst hn2
  by_cases hl : ys.length = xs.length
  · go_enter Tryz.func77, Tryz.ntmps77
    go_wp2
    go_loopw [13] (fun i wr => ∃ k : Nat, k ≤ xs.length ∧ i = .int .i64 k ∧ xs.take k = ys.take k ∧ ∃ n, wr = w.drewN n) (fun i _ => xs.length - (intOf i).toNat)
    case atStart => exact ⟨0, Nat.zero_le _, rfl, rfl, 0, rfl⟩
    case round =>
      obtain ⟨k, hk, rfl, he, n, rfl⟩ := hrel
      have He := Lib.hid he; clear he
      have Hl := Lib.hid hl; clear hl
      by_cases hlt : k < xs.length
      · have h1 := hcx k hlt
        have h2 := hcy k (by rw [Hl.out]; omega)
        have hl2 : k < ys.length := by rw [Hl.out]; omega
        go_wp2
        go_quiet (fail)
        go_wp2
        · have ht : (xs[k] != ys[k]) = true := by assumption
          go_ret
          have hne : xs ≠ ys := fun e => by subst e; simp at ht
          exact ⟨ret_bool (by simp [hne]), (by first | exact ⟨_, rfl⟩ | exact ⟨0, rfl⟩ | exact still2 _ _ _ | exact still3 _ _ _ _)⟩
        · have ht : (xs[k] != ys[k]) = false := by assumption
          go_roundw
          case rel => exact ⟨k + 1, by omega, by go_num, take_succ_eq Hl.out.symm hlt He.out (by simpa [List.getD, hlt, hl2] using ht), (by first | exact ⟨_, rfl⟩ | exact ⟨0, rfl⟩ | exact still2 _ _ _ | exact still3 _ _ _ _)⟩
          case measure => simp [intOf]; omega
      · go_wp2
        go_ret
        refine ⟨ret_bool ?_, n, rfl⟩
        have h3 := He.out
        rw [List.take_of_length_le (by omega), List.take_of_length_le (by have := Hl.out; omega)] at h3
        simp [h3]
  · have hb : ((xs.length : Int) != (ys.length : Int)) = true := by rw [bne_iff_ne]; omega
    go_enter Tryz.func77, Tryz.ntmps77
    go_wp2
    go_ret
    exact ⟨ret_bool (by simp; intro e; exact hl (by rw [e])), 0, rfl⟩
def lexCmp : List Int → List Int → Int
  | x :: a, y :: b => if x < y then -1 else if y < x then 1 else lexCmp a b
  | _, _ => 0
def wordCmp (a b : List Int) : Int := if a.length < b.length then -1 else if b.length < a.length then 1 else lexCmp a b
theorem lexCmp_eq {a b : List Int} (h : a.length = b.length) : lexCmp a b = 0 ↔ a = b := by
  induction a generalizing b with
  | nil => cases b with
    | nil => simp [lexCmp]
    | cons y b => simp at h
  | cons x a ih => cases b with
    | nil => simp at h
    | cons y b =>
      simp only [lexCmp]
      by_cases h1 : x < y
      · rw [if_pos h1]; simp; intro e; omega
      · rw [if_neg h1]
        by_cases h2 : y < x
        · rw [if_pos h2]; simp; intro e; omega
        · rw [if_neg h2, ih (by simpa using h)]
          have : x = y := by omega
          subst this; simp
theorem wordCmp_eq (a b : List Int) : (wordCmp a b == 0) = decide (a = b) := by
  unfold wordCmp
  by_cases h1 : a.length < b.length
  · rw [if_pos h1]; simp; intro e; subst e; omega
  · rw [if_neg h1]
    by_cases h2 : b.length < a.length
    · rw [if_pos h2]; simp; intro e; subst e; omega
    · rw [if_neg h2]
      have := lexCmp_eq (a := a) (b := b) (by omega)
      by_cases e : a = b
      · rw [this.2 e]; simp [e]
      · have h3 : lexCmp a b ≠ 0 := fun h => e (this.1 h)
        simp [e, h3]
theorem lexCmp_drop {a b : List Int} {k : Nat} (h1 : k < a.length) (h2 : k < b.length) : lexCmp (a.drop k) (b.drop k) = if a[k] < b[k] then -1 else if b[k] < a[k] then 1 else lexCmp (a.drop (k + 1)) (b.drop (k + 1)) := by
  have e1 : a.drop k = a[k] :: a.drop (k + 1) := List.drop_eq_getElem_cons h1
  have e2 : b.drop k = b[k] :: b.drop (k + 1) := List.drop_eq_getElem_cons h2
  rw [e1, e2]; rfl
set_option maxHeartbeats 1000000 in
theorem spec_CompareWords_any (g1 o1 n1 c1 g2 o2 n2 c2 : Nat) (xs ys : List Int) (w : World) (hn1 : xs.length = n1) (hn2 : ys.length = n2) (hx : xs.length ≤ 1099511627776)
    (hcx : Cells w g1 o1 xs) (hcy : Cells w g2 o2 ys) :
    Calls Tryz.prog 103 #[(Value.slice (some ⟨g1, o1, none⟩) n1 c1), (Value.slice (some ⟨g2, o2, none⟩) n2 c2)] w (Reads w (.int .i64 (wordCmp xs ys))) := by
  subst hn1; subst hn2
  by_cases hl : ys.length = xs.length
  · have e : wordCmp xs ys = lexCmp xs ys := by unfold wordCmp; rw [if_neg (by omega), if_neg (by omega)]
    rw [e]
    clear e
    have hl' : ys.length = xs.length := hl
    have Hl := Lib.hid hl'; clear hl'
    have hb : ((xs.length : Int) != (ys.length : Int)) = false := by rw [hl]; simp
    clear hl
    go_enter Tryz.func103, Tryz.ntmps103
    go_wp2
    go_loopw [5] (fun i wr => ∃ k : Nat, k ≤ xs.length ∧ i = .int .i64 k ∧ Hid (lexCmp xs ys = lexCmp (xs.drop k) (ys.drop k)) ∧ ∃ n, wr = w.drewN n) (fun i _ => xs.length - (intOf i).toNat)
    case atStart => exact ⟨0, Nat.zero_le _, rfl, rfl, 0, rfl⟩
    case round =>
      obtain ⟨k, hk, rfl, he, n, rfl⟩ := hrel
      by_cases hlt : k < xs.length
      · have hl2 : k < ys.length := by rw [Hl.out]; exact hlt
        have h1 := hcx k hlt
        have h2 := hcy k hl2
        have hd := lexCmp_drop hlt hl2
        have Hd := Lib.hid hd; clear hd
        go_wp2
        go_quiet (fail)
        go_wp2
        · have ht : xs[k] < ys[k] := by assumption
          go_ret
          exact ⟨ret_int (by rw [he.out, Hd.out, if_pos ht]), (by first | exact ⟨_, rfl⟩ | exact ⟨0, rfl⟩ | exact still2 _ _ _ | exact still3 _ _ _ _)⟩
        · have ht : ys[k] ≤ xs[k] := by assumption
          go_quiet (fail)
          go_wp2
          · have ht2 : ys[k] < xs[k] := by assumption
            go_ret
            exact ⟨ret_int (by rw [he.out, Hd.out, if_neg (by omega), if_pos ht2]), (by first | exact ⟨_, rfl⟩ | exact ⟨0, rfl⟩ | exact still2 _ _ _ | exact still3 _ _ _ _)⟩
          · have ht2 : xs[k] ≤ ys[k] := by assumption
            go_roundw
            case rel => exact ⟨k + 1, by omega, by go_num, by show _ = _; rw [he.out, Hd.out, if_neg (by omega), if_neg (by omega)], (by first | exact ⟨_, rfl⟩ | exact ⟨0, rfl⟩ | exact still2 _ _ _ | exact still3 _ _ _ _)⟩
            case measure => simp [intOf]; omega
      · obtain rfl : k = xs.length := by omega
        go_wp2
        go_ret
        refine ⟨ret_int ?_, n, rfl⟩
        rw [he.out, List.drop_length]; rfl
  · have hb : ((xs.length : Int) != (ys.length : Int)) = true := by rw [bne_iff_ne]; omega
    by_cases h1 : xs.length < ys.length
    · have e : wordCmp xs ys = -1 := by unfold wordCmp; rw [if_pos h1]
      rw [e]
      go_enter Tryz.func103, Tryz.ntmps103
      go_wp2
      go_ret
      exact ⟨rfl, 0, rfl⟩
    · have e : wordCmp xs ys = 1 := by unfold wordCmp; rw [if_neg h1, if_pos (by omega)]
      rw [e]
      go_enter Tryz.func103, Tryz.ntmps103
      go_wp2
      go_ret
      exact ⟨rfl, 0, rfl⟩
set_option maxHeartbeats 400000 in
theorem spec_EqualWords_any (g1 o1 n1 c1 g2 o2 n2 c2 : Nat) (xs ys : List Int) (w : World) (hn1 : xs.length = n1) (hn2 : ys.length = n2) (hx : xs.length ≤ 1099511627776)
    (hcx : Cells w g1 o1 xs) (hcy : Cells w g2 o2 ys) :
    Calls Tryz.prog 38 #[(Value.slice (some ⟨g1, o1, none⟩) n1 c1), (Value.slice (some ⟨g2, o2, none⟩) n2 c2)] w (Reads w (.bool (decide (xs = ys)))) := by
  have hw := wordCmp_eq xs ys
  rw [← hw]
  clear hw
  go_enter Tryz.func38, Tryz.ntmps38
  go_wp2_with fail
  refine (spec_CompareWords_any g1 o1 n1 c1 g2 o2 n2 c2 xs ys _ hn1 hn2 hx hcx hcy).mono ?_
  rintro e w1 ⟨rfl, m, rfl⟩
  go_wp2_with fail
  go_ret
  exact ⟨rfl, m, rfl⟩
end Go.Proofs.YtkjglfafphffiaaGreatDoor
namespace Go.Proofs.YtkjglfafphffiaaGreatDoor
set_option maxRecDepth 100000
open Go.RowKit
abbrev Wt := List Int × Int
end Go.Proofs.YtkjglfafphffiaaGreatDoor
namespace Go.Proofs.YtkjglfafphffiaaGreatDoor
set_option maxRecDepth 100000
open Go.RowKit
def OwnK (w : World) (B : Nat) (E : TypeId) (k g cap n : Nat) (cs : List Value) : Prop := w.ownsRow B E k (Value.slice (some ⟨g, 0, none⟩) n cap) n cs
section
variable {w w' : World} {B g cap n k : Nat} {E : TypeId} {cs : List Value}
theorem OwnK.base (h : OwnK w B E k g cap n cs) : B ≤ g := (World.ownsRow.lt h g rfl).1
theorem OwnK.lt (h : OwnK w B E k g cap n cs) : g < w.heap.size := (World.ownsRow.lt h g rfl).2
theorem OwnK.row (h : OwnK w B E k g cap n cs) : ∃ cur, w.heap[g]? = some (.cells cur E (0, 0)) ∧ n ≤ cap ∧ cap ≤ maxLen := by
  rcases h.2 with ⟨h', _⟩ | ⟨g', cap', cur, h', _, hh, hn, hm, _⟩
  · simp at h'
  · simp only [Value.slice.injEq, Option.some.injEq, Addr.mk.injEq] at h'
    obtain ⟨⟨rfl, _⟩, _, rfl⟩ := h'
    exact ⟨cur, hh, hn, hm⟩
theorem OwnK.len (h : OwnK w B E k g cap n cs) : cs.length = n * k := h.1
theorem OwnK.cell (h : OwnK w B E k g cap n cs) (j : Nat) (hj : j < cs.length) : w.cell? ⟨g, j, none⟩ = some cs[j] := by
  rw [World.ownsRow.cellAt h j (by have := h.len; omega)]; simp [hj]
theorem OwnK.grown {row : Option Nat} (h : OwnK w B E k g cap n cs) (hg : w.grownBy w' row) (hne : some g ≠ row) : OwnK w' B E k g cap n cs := World.ownsRow.kept h hg (.inr hne)
theorem OwnK.below {B' : Nat} (h : OwnK w B E k g cap n cs) (hb : Below B' w w') (hg : g < B') : OwnK w' B E k g cap n cs := by
  refine ⟨h.1, ?_⟩
  rcases h.2 with ⟨h', _⟩ | ⟨g', cap', cur, h', hbb, hh, r⟩
  · simp at h'
  · refine .inr ⟨g', cap', cur, h', hbb, ?_, r⟩
    simp only [Value.slice.injEq, Option.some.injEq, Addr.mk.injEq] at h'
    obtain ⟨⟨rfl, _⟩, _⟩ := h'
    rw [hb.block _ hg]; exact hh
theorem OwnK.alloc (h : OwnK w B E k g cap n cs) (o : Obj) : OwnK (w.alloc o) B E k g cap n cs := World.ownsRow.alloc h o
theorem OwnK.neV {B' g' cap' : Nat} {E' : TypeId} {vs' : List Value} (h : OwnK w B E k g cap n cs) (h' : OwnV w B' E' g' cap' vs') (hE : E ≠ E') : g ≠ g' := by
  rintro rfl
  obtain ⟨c1, e1, _⟩ := h.row
  obtain ⟨c2, e2, _⟩ := h'.row
  rw [e1] at e2
  simp at e2
  exact hE e2.2
end
theorem run_append_K {w : World} {S E : TypeId} {z : Value} {k by' : Nat} (hinfo : (Tryz.prog.info? E).map (fun i => (i.zero, i.size, i.bytes)) = some (some z, k, by')) (hu : Tryz.prog.underlying S = some (.slice E)) (hzs : z.cells.size = k) (hk : 0 < k) (hby : by' ≤ 1024)
    {B g cap n : Nat} {cs : List Value} (hown : OwnK w B E k g cap n cs) (g2 o2 m c2 : Nat) (news : List Value) (hl : news.length = m * k) (hnews : ∀ j u, news[j]? = some u → w.cell? ⟨g2, o2 + j, none⟩ = some u) (h1 : ∀ u ∈ news, u.oneCell' = true)
    (hlen : n + m ≤ 1048576) (ty : TypeId) :
    ∃ g' cap' w', (Builtin.append_ #[S, S] ty #[(Value.slice (some ⟨g, 0, none⟩) n cap), (Value.slice (some ⟨g2, o2, none⟩) m c2)]).run Tryz.prog w = .ok (Value.slice (some ⟨g', 0, none⟩) (n + m) cap') w' ∧ OwnK w' B E k g' cap' (n + m) (cs ++ news) ∧ w.grownBy w' (some g) ∧ (g' = g ∨ g' = w.heap.size) := by
  obtain ⟨i0, hi, hz0, hz1, hz2⟩ := info_parts hinfo
  have hbytes : (n + m) * by' ≤ 140737488355328 := Nat.le_trans (Nat.mul_le_mul hlen hby) (by decide)
  have hnews' : ∀ j u, news[j]? = some u → w.cell? ((⟨g2, o2, none⟩ : Addr).add j) = some u := fun j u hu => by rw [Addr.add_lit]; exact hnews j u hu
  obtain ⟨v', w', hr, ho, hg, -⟩ := run_append_own (P := Tryz.prog) w B S ty E i0 z k by' hu hi hz0 hz1 hz2 hzs hk _ n _ hown ⟨g2, o2, none⟩ m c2 news hl hnews' h1 (by unfold maxLen; omega) hbytes (by have := hown.base; have := hown.lt; omega)
  have fin : ∀ g' cap', v' = (Value.slice (some ⟨g', 0, none⟩) (n + m) cap') → (g' = g ∨ g' = w.heap.size) → ∃ g' cap' w', (Builtin.append_ #[S, S] ty #[(Value.slice (some ⟨g, 0, none⟩) n cap), (Value.slice (some ⟨g2, o2, none⟩) m c2)]).run Tryz.prog w = .ok (Value.slice (some ⟨g', 0, none⟩) (n + m) cap') w' ∧ OwnK w' B E k g' cap' (n + m) (cs ++ news) ∧ w.grownBy w' (some g) ∧ (g' = g ∨ g' = w.heap.size) := by
    intro g' cap' hv hor
    subst hv
    exact ⟨g', cap', w', hr, ho, hg, hor⟩
  have hl' : news.length = m * i0.size := by rw [hz1]; exact hl
  by_cases hroom : n + m ≤ cap
  · rcases hown.2 with ⟨h', _⟩ | ⟨g1, cap1, cur, hv, hb, hh, hn, hm, hs, htk⟩
    · simp at h'
    simp only [Value.slice.injEq, Option.some.injEq, Addr.mk.injEq, and_true, true_and] at hv
    obtain ⟨rfl, rfl⟩ := hv
    have hsz : n * i0.size + news.length ≤ cur.size := by
      rw [hz1, hl, hs, ← Nat.add_mul]
      exact Nat.mul_le_mul_right _ hroom
    have hr2 := run_append_room (P := Tryz.prog) w S ty E i0 hu hi g n cap cur hh ⟨g2, o2, none⟩ m c2 news hl' hnews' h1 hroom hsz
    rw [hr2] at hr
    simp only [Result.ok.injEq] at hr
    exact fin g cap hr.1.symm (.inl rfl)
  · have hbc : (n + m) * i0.bytes ≤ 1073741824 := by rw [hz2]; exact Nat.le_trans (Nat.mul_le_mul hlen hby) (by decide)
    have hr2 := run_append_grow (P := Tryz.prog) w S ty E i0 z hu hi hz0 ⟨g, 0, none⟩ n cap cs (by rw [hz1]; exact hown.1) (World.ownsRow.cells hown rfl) ⟨g2, o2, none⟩ m c2 news hl' hnews' (by omega) (by omega) (growslice_fits (by omega) (by omega))
    rw [hr2] at hr
    simp only [Result.ok.injEq] at hr
    exact fin _ _ hr.1.symm (.inr rfl)
theorem wpList_append_K {w : World} {S E : TypeId} {z : Value} {k by' : Nat} (hinfo : (Tryz.prog.info? E).map (fun i => (i.zero, i.size, i.bytes)) = some (some z, k, by')) (hu : Tryz.prog.underlying S = some (.slice E)) (hzs : z.cells.size = k) (hk : 0 < k) (hby : by' ≤ 1024)
    {ops : Array Oper} {rest : List Oper} {o : Oper} {a : Act} {Q : Exit → Act → World → Prop} (hgd : o.guard = none) (s x : Operand)
    (ho : o.op = .call { callee := .builtin .append, args := #[s, x], argTypes := #[S, S] })
    (B g cap n : Nat) (cs : List Value) (hown : OwnK w B E k g cap n cs) (g2 o2 m c2 : Nat) (news : List Value) (hl : news.length = m * k) (hnews : ∀ j u, news[j]? = some u → w.cell? ⟨g2, o2 + j, none⟩ = some u) (h1 : ∀ u ∈ news, u.oneCell' = true)
    (hs : a.eval s = (Value.slice (some ⟨g, 0, none⟩) n cap)) (hx : a.eval x = (Value.slice (some ⟨g2, o2, none⟩) m c2)) (hlen : n + m ≤ 1048576)
    (h : ∀ g' cap' w', OwnK w' B E k g' cap' (n + m) (cs ++ news) → w.grownBy w' (some g) → (g' = g ∨ g' = w.heap.size) → wpList Tryz.prog ops Q rest (a.put o.dst (Value.slice (some ⟨g', 0, none⟩) (n + m) cap')) w') :
    wpList Tryz.prog ops Q (o :: rest) a w := by
  obtain ⟨g', cap', w', hr, h2, h3, h4⟩ := run_append_K hinfo hu hzs hk hby hown g2 o2 m c2 news hl hnews h1 hlen o.type
  refine wpList_plain hgd fun K hK => ?_
  unfold Oper.wp execOp
  simp only [ho, resolve, invoke, builtin, Sem.run_bind, Sem.run_pure, Result.andThen_ok, List.map_toArray, List.map_cons, List.map_nil, hs, hx, hr]
  exact hK _ _ (h g' cap' w' h2 h3 h4)
end Go.Proofs.YtkjglfafphffiaaGreatDoor
namespace Go.Proofs.YtkjglfafphffiaaGreatDoor
set_option maxRecDepth 100000
open Go.RowKit
theorem Own.setNe {w : World} {B g cap : Nat} {xs : List Int} (h : Own w B g cap xs) (p : Addr) (v : Value) (hp : g ≠ p.block) : Own (w.setCell p v) B g cap xs := by
  refine ⟨h.1, ?_⟩
  rcases h.2 with ⟨h', _⟩ | ⟨g', cap', cur, h', hbb, hh, r⟩
  · simp at h'
  · refine .inr ⟨g', cap', cur, h', hbb, ?_, r⟩
    simp only [Value.slice.injEq, Option.some.injEq, Addr.mk.injEq] at h'
    obtain ⟨⟨rfl, _⟩, _⟩ := h'
    rw [Below.heap_setCell _ _ _ _ hp]; exact hh
abbrev WRef := RowRef × Int
end Go.Proofs.YtkjglfafphffiaaGreatDoor
namespace Go.Proofs.YtkjglfafphffiaaGreatDoor
set_option maxRecDepth 100000
open Go.RowKit
theorem step_append_int {ops : Array Oper} {w : World} {o : Oper} {a : Act} {K : Act → World → Prop} {Q : Exit → Act → World → Prop} {E : Prop} (hgd : o.guard = none) (s x : Operand)
    (ho : o.op = .call { callee := .builtin .append, args := #[s, x], argTypes := #[25, 25] })
    (B g cap n H : Nat) (xs : List Int) (z : Int) (W : World) (hn : xs.length = n) (hW : W = w.alloc (.cells #[.int .i64 z] 3)) (hH : w.heap.size = H) (hown : Own w B g cap xs) (hs : a.eval s = (Value.slice (some ⟨g, 0, none⟩) n cap)) (hx : a.eval x = (Value.slice (some ⟨H, 0, none⟩) 1 1)) (hlen : n + 1 ≤ 1099511627776)
    (h : ∀ g' cap' w', Own w' B g' cap' (xs ++ [z]) → w.grownBy w' (some g) → (g' = g ∨ w.heap.size < g') → K (a.put o.dst (Value.slice (some ⟨g', 0, none⟩) (n + 1) cap')) w') :
    if Region.wanted o (yielded ops a.tmps) = true then Oper.wp Tryz.prog o a W K Q else E := by
  subst hn; subst hH; subst hW
  have hw : Region.wanted o (yielded ops a.tmps) = true := by simp [Region.wanted, hgd]
  rw [if_pos hw]
  obtain ⟨g', cap', w', hr, h1, h2, h3⟩ := run_append_ints (hown.alloc (.cells #[.int .i64 z] 3)) (Own.new (B := w.heap.size) z (Nat.le_refl _)).cells (c2 := 1) hlen o.type
  have hgr : w.grownBy w' (some g) := ⟨h2.os, h2.tape, h2.output, Nat.le_trans (by simp) h2.size, fun k hk hne => (h2.block k (by simp; omega) hne).trans (Below.heap_alloc _ _ _ hk)⟩
  have hx' : a.eval x = (Value.slice (some ⟨w.heap.size, 0, none⟩) ([z].length) 1) := hx
  unfold Oper.wp execOp
  simp only [ho, resolve, invoke, builtin, Sem.run_bind, Sem.run_pure, Result.andThen_ok, List.map_toArray, List.map_cons, List.map_nil, hs, hx', hr]
  exact h g' cap' w' h1 hgr (h3.imp id (by simp; omega))
end Go.Proofs.YtkjglfafphffiaaGreatDoor
namespace Go.Proofs.YtkjglfafphffiaaGreatDoor
set_option maxRecDepth 100000
open Go.RowKit
def reflAt (c : List (List Int)) (i : Nat) (v : List Int) (k : Nat) : Int := wrap64 (v.getD k 0 - wrap64 (v.getD i 0 * ent c k i))
def refl (c : List (List Int)) (i : Nat) (v : List Int) : List Int := (List.range v.length).map (reflAt c i v)
def reflTo (c : List (List Int)) (i : Nat) (v : List Int) (k : Nat) : List Int := (List.range k).map (reflAt c i v) ++ v.drop k
theorem refl_length (c : List (List Int)) (i : Nat) (v : List Int) : (refl c i v).length = v.length := by simp [refl]
theorem reflTo_length {c : List (List Int)} {i : Nat} {v : List Int} {k : Nat} (hk : k ≤ v.length) : (reflTo c i v k).length = v.length := by simp [reflTo]; omega
theorem reflTo_at {c : List (List Int)} {i : Nat} {v : List Int} {k : Nat} (_hk : k < v.length) : (reflTo c i v k).getD k 0 = v.getD k 0 := by
  simp [reflTo, List.getD, List.getElem?_append_right]
theorem reflTo_succ {c : List (List Int)} {i : Nat} {v : List Int} {k : Nat} (hk : k < v.length) : (reflTo c i v k).set k (reflAt c i v k) = reflTo c i v (k + 1) := by
  unfold reflTo
  rw [List.set_append_right _ _ (by simp)]
  have e : v.drop k = v[k] :: v.drop (k + 1) := List.drop_eq_getElem_cons hk
  rw [List.length_map, List.length_range, Nat.sub_self, e, List.set_cons_zero, List.range_succ, List.map_append, List.append_assoc]
  rfl
theorem reflTo_zero (c : List (List Int)) (i : Nat) (v : List Int) : reflTo c i v 0 = v := by simp [reflTo]
theorem reflTo_all (c : List (List Int)) (i : Nat) (v : List Int) : reflTo c i v v.length = refl c i v := by simp [reflTo, refl]
set_option maxHeartbeats 2000000 in
theorem impl_reflected_any (w0 : World) (gc oc n cc g cap i m : Nat) (c : List (List Int)) (v : List Int) (w : World) (hn : c.length = n) (hm : v.length = m) (hv : v.length = c.length) (hsm : c.length ≤ 4) (hrl : ∀ j, j < c.length → (c.getD j []).length = c.length)
    (hi : i < c.length) (hgc : gc < w0.heap.size) (hr : Rows2 w0 gc oc c) (hb : Below w0.heap.size w0 w) (hown : Own w w0.heap.size g cap v) :
    Calls Tryz.prog 94 #[(Value.slice (some ⟨gc, oc, none⟩) n cc), .int .i64 i, (Value.slice (some ⟨g, 0, none⟩) m cap)] w (fun e w' => e = .returned (.tuple #[]) ∧ Own w' w0.heap.size g cap (refl c i v) ∧ w.grownBy w' (some g)) := by
  subst hn; subst hm
  have hiv : i < v.length := by omega
  have hvi := hown.cell i hiv
  generalize hx : v.getD i 0 = x at hvi
  have Hx := Lib.hid hx; clear hx
  have hvl : v.length ≤ 4 := by omega
  have Hv := Lib.hid hv; clear hv
  go_enter Tryz.func94, Tryz.ntmps94
  go_wp2
  go_loopw [14] (fun k wr => ∃ t : Nat, t ≤ v.length ∧ k = .int .i64 t ∧ Own wr w0.heap.size g cap (reflTo c i v t) ∧ w.grownBy wr (some g)) (fun k _ => v.length - (intOf k).toNat)
  case atStart => exact ⟨0, Nat.zero_le _, rfl, by rw [reflTo_zero]; exact hown, World.grownBy.refl _ _⟩
  case round =>
    obtain ⟨t, ht, rfl, ho, hgr⟩ := hrel
    by_cases hlt : t < v.length
    · have htc : t < c.length := by have := Hv.out; omega
      have hl := reflTo_length (c := c) (i := i) ht
      have hb2 : Below w0.heap.size w0 wr := hb.grown hgr hb.size (by intro j hj; cases hj; exact hown.base)
      obtain ⟨ga, oa, ca, q1, q2, q3, q4⟩ := hr.below hb2 hgc t htc
      have hrt := hrl t htc
      have e2 := q4 i (by rw [hrt]; exact hi)
      have f1 := ho.cell t (by rw [hl]; exact hlt)
      rw [reflTo_at hlt] at f1
      have f2 := ho.frozen t
      rw [hrt] at q1
      have he : reflAt c i v t = wrap64 (v.getD t 0 - wrap64 (x * ent c t i)) := by rw [← Hx.out]; rfl
      have hee : (c.getD t []).getD i 0 = ent c t i := rfl
      rw [hee] at e2
      generalize ent c t i = y at *
      generalize v.getD t 0 = z at *
      have hgr2 : w.grownBy wr.drew (some g) := grown_drew hgr
      have ho2 : Own wr.drew w0.heap.size g cap (reflTo c i v t) := ho.drew
      have f2' : wr.drew.frozen? ⟨g, t, none⟩ = false := f2
      have f1' : wr.drew.cell? ⟨g, t, none⟩ = some (.int .i64 z) := f1
      clear hgr hrt hee
      go_wp2
      set_option maxRecDepth 10000 in go_still_tail 14, (by kernel_rfl)
      change wpList _ _ _ _ _ wr.drew
      generalize wr.drew = w2 at *
      go_wp2
      go_roundw
      case rel =>
        have hs := ho2.set t (reflAt c i v t)
        rw [reflTo_succ hlt, he] at hs
        exact ⟨t + 1, by omega, by go_num, hs.1, World.grownBy.trans' hgr2 hs.2⟩
      case measure => simp [intOf]; omega
    · obtain rfl : t = v.length := by omega
      go_wp2
      go_end0
      rw [reflTo_all] at ho
      exact ⟨rfl, ho, hgr⟩
theorem impl_isPoint_any (gc oc n cc : Nat) (i : Int) (w : World) : Calls Tryz.prog 107 #[(Value.slice (some ⟨gc, oc, none⟩) n cc), .int .i64 i] w (Reads w (.bool (decide (0 ≤ i) && decide (i < n)))) := by
  by_cases h : 0 ≤ i
  · have h' : decide (0 ≤ i) = true := decide_eq_true h
    rw [h']
    go_enter Tryz.func107, Tryz.ntmps107
    go_wp2
    go_ret
    exact ⟨rfl, 0, rfl⟩
  · have h' : decide (0 ≤ i) = false := decide_eq_false h
    rw [h']
    go_enter Tryz.func107, Tryz.ntmps107
    go_wp2
    go_ret
    exact ⟨rfl, 0, rfl⟩
theorem refl_succ_to {c : List (List Int)} {i : Nat} {v : List Int} {k : Nat} : (List.range (k + 1)).map (reflAt c i v) = (List.range k).map (reflAt c i v) ++ [reflAt c i v k] := by
  rw [List.range_succ, List.map_append]; rfl
attribute [local go_sem ↓] Go.wp_at_zero Go.wp_at_succ
set_option maxHeartbeats 2000000 in
theorem spec_l6Reflect_any (gc oc n cc g o m cv i : Nat) (c : List (List Int)) (v : List Int) (w : World) (hn : c.length = n) (hm : v.length = m) (hvl : v.length ≤ c.length) (hx : c.length ≤ 4)
    (hrl : ∀ j, j < c.length → (c.getD j []).length = c.length) (hi : i < v.length) (hgc : gc < w.heap.size) (hg : g < w.heap.size) (hr : Rows2 w gc oc c) (hv : Cells w g o v) :
    Calls Tryz.prog 120 #[(Value.slice (some ⟨gc, oc, none⟩) n cc), .int .i64 i, (Value.slice (some ⟨g, o, none⟩) m cv)] w (GotInts w (refl c i v)) := by
  subst hn; subst hm
  go_enter Tryz.func120, Tryz.ntmps120
  go_wp2
  go_loopw [7, 8] (fun s k wr => ∃ t g' c' : Nat, t ≤ v.length ∧ k = .int .i64 t ∧ s = (Value.slice (some ⟨g', 0, none⟩) t c') ∧ Own wr w.heap.size g' c' ((List.range t).map (reflAt c i v)) ∧ Below w.heap.size w wr) (fun _ k _ => v.length - (intOf k).toNat)
  case atStart => exact ⟨0, _, _, Nat.zero_le _, rfl, rfl, Own.empty (Nat.le_refl _), (Below.refl _ _).alloc (Nat.le_refl _) _⟩
  case round =>
    obtain ⟨t, g', c', ht, rfl, rfl, ho, hb⟩ := hrel
    by_cases hlt : t < v.length
    · have htc : t < c.length := by omega
      obtain ⟨ga, oa, ca, q1, q2, q3, q4⟩ := hr t htc
      replace q1 := (hb.cell (p := ⟨gc, oc + t, none⟩) hgc).trans q1
      replace q4 := q4.below hb q3
      have hrt := hrl t htc
      have hic : i < c.length := by omega
      have e2 := q4 i (by rw [hrt]; exact hic)
      have e3 := hv.below hb hg t hlt
      have e4 := hv.below hb hg i hi
      rw [hrt] at q1
      have he : reflAt c i v t = IntKind.i64.wrap (v.getD t 0 - IntKind.i64.wrap (v.getD i 0 * ent c t i)) := by unfold reflAt; simp only [wrap64, IntKind.wrap_i64]
      have hee : (c.getD t []).getD i 0 = ent c t i := rfl
      rw [hee] at e2
      generalize ent c t i = y at *
      generalize v.getD t 0 = z at *
      generalize v.getD i 0 = x at *
      have Hvl := Lib.hid hvl; clear hvl hrt hee
      go_wp2
      have hBg := ho.base
      have ne1 : some gc ≠ some g' := by intro e; cases e; omega
      have ne2 : some ga ≠ some g' := by intro e; cases e; omega
      have ne3 : some g ≠ some g' := by intro e; cases e; omega
      have hl2 : ((List.range t).map (reflAt c i v)).length = t := by simp
      generalize hys : (List.range t).map (reflAt c i v) = ys at ho hl2
      have Hys := Lib.hid hys; clear hys
      go_region_held3 (fun W => W.cell? ⟨gc, oc + t, none⟩ = some (.slice (some ⟨ga, oa, none⟩) c.length ca) ∧ W.cell? ⟨ga, oa + i, none⟩ = some (.int .i64 y) ∧ W.cell? ⟨g, o + t, none⟩ = some (.int .i64 z) ∧ W.cell? ⟨g, o + i, none⟩ = some (.int .i64 x))
        (first | go_keep | exact ⟨hg3.cell (a := ⟨gc, oc + t, none⟩) q1 ne1, hg3.cell (a := ⟨ga, oa + i, none⟩) e2 ne2, hg3.cell (a := ⟨g, o + t, none⟩) e3 ne3, hg3.cell (a := ⟨g, o + i, none⟩) e4 ne3⟩)
        ((refine step_append_int (w := wr.drew) (by rfl) _ _ (by rfl) w.heap.size g' c' t wr.heap.size ys (IntKind.i64.wrap (z - IntKind.i64.wrap (x * y))) _ hl2 (by rfl) (by rfl) ho.drew (by rfl) (by rfl) (by omega) ?_; intro g3 c3 w3 ho3 hg3 hor))
      go_wp2
      go_roundw
      case rel =>
        rw [← he, ← Hys.out, ← refl_succ_to] at ho3
        exact ⟨t + 1, g3, c3, by omega, by go_num, rfl, ho3, (Below.drew hb).grown hg3 hb.size (by intro j hj; cases hj; exact ho.base)⟩
      case measure => simp [intOf]; omega
    · obtain rfl : t = v.length := by omega
      go_wp2
      go_ret
      exact GotInts.mk' g' c' (refl_length _ _ _) ho hb
end Go.Proofs.YtkjglfafphffiaaGreatDoor
namespace Go.Proofs.YtkjglfafphffiaaGreatDoor
set_option maxRecDepth 100000
open Go.RowKit
def rowsFew (rows : List (List Int)) : Prop := rows.length ≤ 1048576 ∧ (∀ j, j < rows.length → (rows.getD j []).length ≤ 1048576) ∧ sumLen rows rows.length ≤ 1048576
structure Only (B E : Nat) (w w' : World) : Prop where
  os : w'.os = w.os
  tape : w'.tape = w.tape
  output : w'.output = w.output
  size : w.heap.size ≤ w'.heap.size
  block : ∀ k, k < w.heap.size → (k < B ∨ E ≤ k) → w'.heap[k]? = w.heap[k]?
theorem Only.refl (B E : Nat) (w : World) : Only B E w w := ⟨rfl, rfl, rfl, Nat.le_refl _, fun _ _ _ => rfl⟩
theorem Only.trans {B E : Nat} {a b c : World} (h : Only B E a b) (k : Only B E b c) : Only B E a c :=
  ⟨k.os.trans h.os, k.tape.trans h.tape, k.output.trans h.output, Nat.le_trans h.size k.size, fun i hi hd => (k.block i (Nat.lt_of_lt_of_le hi h.size) hd).trans (h.block i hi hd)⟩
theorem Only.drewN {B E : Nat} {w w' : World} (h : Only B E w w') (n : Nat) : Only B E w (w'.drewN n) := ⟨h.os, h.tape, h.output, h.size, h.block⟩
theorem Below.only {b B E : Nat} {w w1 w2 : World} (h : Below b w w1) (k : Only B E w1 w2) (hB : b ≤ B) (hb : b ≤ w.heap.size) : Below b w w2 :=
  ⟨k.os.trans h.os, k.tape.trans h.tape, k.output.trans h.output, Nat.le_trans h.size k.size, fun i hi => (k.block i (by have := h.size; omega) (.inl (by omega))).trans (h.block i hi)⟩
theorem Own.same {w w' : World} {B g cap : Nat} {xs : List Int} (h : Own w B g cap xs) (hs : w'.heap[g]? = w.heap[g]?) : Own w' B g cap xs := by
  refine ⟨h.1, ?_⟩
  rcases h.2 with ⟨h', _⟩ | ⟨g', cap', cur, h', hbb, hh, r⟩
  · simp at h'
  · refine .inr ⟨g', cap', cur, h', hbb, ?_, r⟩
    simp only [Value.slice.injEq, Option.some.injEq, Addr.mk.injEq] at h'
    obtain ⟨⟨rfl, _⟩, _⟩ := h'
    rw [hs]; exact hh
theorem OwnV.same {w w' : World} {B g cap : Nat} {E : TypeId} {vs : List Value} (h : OwnV w B E g cap vs) (hs : w'.heap[g]? = w.heap[g]?) : OwnV w' B E g cap vs := by
  refine ⟨h.1, ?_⟩
  rcases h.2 with ⟨h', _⟩ | ⟨g', cap', cur, h', hbb, hh, r⟩
  · simp at h'
  · refine .inr ⟨g', cap', cur, h', hbb, ?_, r⟩
    simp only [Value.slice.injEq, Option.some.injEq, Addr.mk.injEq] at h'
    obtain ⟨⟨rfl, _⟩, _⟩ := h'
    rw [hs]; exact hh
def HeldI (w : World) (B E g cap : Nat) (xs : List Int) : Prop := Own w B g cap xs ∧ g < E
def HeldR (w : World) (B E g cap : Nat) (rows : List (List Int)) : Prop := ∃ rs, contents rs = rows ∧ OwnRows w B g cap rs ∧ g < E ∧ ∀ r ∈ rs, r.1 < E
section
variable {w w' : World} {B E b B2 E2 g cap : Nat} {xs : List Int} {rows : List (List Int)} {l : List Wt}
theorem HeldI.below (h : HeldI w B E g cap xs) (hb : Below b w w') (hE : E ≤ b) : HeldI w' B E g cap xs := ⟨h.1.same (hb.block _ (by have := h.2; omega)), h.2⟩
theorem HeldI.only (h : HeldI w B E g cap xs) (hb : Only B2 E2 w w') (hd : E ≤ B2 ∨ E2 ≤ B) : HeldI w' B E g cap xs := ⟨h.1.same (hb.block _ h.1.lt (by have := h.2; have := h.1.base; omega)), h.2⟩
theorem Inner.same {rs : List RowRef} (h : Inner w B rs) (hs : ∀ r ∈ rs, w'.heap[r.1]? = w.heap[r.1]?) : Inner w' B rs := ⟨fun r hr => (h.1 r hr).same (hs r hr), h.2⟩
theorem HeldR.below (h : HeldR w B E g cap rows) (hb : Below b w w') (hE : E ≤ b) : HeldR w' B E g cap rows := by
  obtain ⟨rs, hc, ho, h1, h2⟩ := h
  exact ⟨rs, hc, ⟨ho.1.same (hb.block _ (by omega)), ho.2.same (fun r hr => hb.block _ (by have := h2 r hr; omega))⟩, h1, h2⟩
theorem HeldR.only (h : HeldR w B E g cap rows) (hb : Only B2 E2 w w') (hd : E ≤ B2 ∨ E2 ≤ B) : HeldR w' B E g cap rows := by
  obtain ⟨rs, hc, ho, h1, h2⟩ := h
  exact ⟨rs, hc, ⟨ho.1.same (hb.block _ ho.1.lt (by have := ho.1.base; omega)), ho.2.same (fun r hr => hb.block _ (ho.2.1 r hr).lt (by have := h2 r hr; have := (ho.2.1 r hr).base; omega))⟩, h1, h2⟩
end
end Go.Proofs.YtkjglfafphffiaaGreatDoor

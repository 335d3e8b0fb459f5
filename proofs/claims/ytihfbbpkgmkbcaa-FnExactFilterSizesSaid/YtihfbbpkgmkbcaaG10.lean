/- Values of the call's own in an interval of blocks: integers, rows, weights with counts; the laws' helpers over them. -/
import Derived.Test.YtihfbbpkgmkbcaaG09
namespace Go.Proofs.Ytihfbbpkgmkbcaa
set_option maxRecDepth 100000
open Go.RowKit

def rowsFew (rows : List (List Int)) : Prop := rows.length ≤ 1048576 ∧ (∀ j, j < rows.length → (rows.getD j []).length ≤ 1048576) ∧ sumLen rows rows.length ≤ 1048576
theorem szLL_few {rows : List (List Int)} {left : Int} (hl : left ≤ 1048576) (h : 0 ≤ szLL rows left) : rowsFew rows ∧ szLL rows left ≤ 1048576 := by
  unfold szLL at *
  split at h
  · omega
  · rename_i hh
    rw [if_neg hh]
    refine ⟨⟨by omega, fun j hj => ?_, by omega⟩, by omega⟩
    have h1 := sumLen_succ rows j hj
    have h2 := sumLen_mono rows (k := j + 1) (n := rows.length) hj
    omega

/-- what changes lies between two block numbers -/
structure Only (B E : Nat) (w w' : World) : Prop where
  os : w'.os = w.os
  tape : w'.tape = w.tape
  output : w'.output = w.output
  size : w.heap.size ≤ w'.heap.size
  block : ∀ k, k < w.heap.size → (k < B ∨ E ≤ k) → w'.heap[k]? = w.heap[k]?
theorem Only.refl (B E : Nat) (w : World) : Only B E w w := ⟨rfl, rfl, rfl, Nat.le_refl _, fun _ _ _ => rfl⟩
theorem Only.trans {B E : Nat} {a b c : World} (h : Only B E a b) (k : Only B E b c) : Only B E a c :=
  ⟨k.os.trans h.os, k.tape.trans h.tape, k.output.trans h.output, Nat.le_trans h.size k.size, fun i hi hd => (k.block i (Nat.lt_of_lt_of_le hi h.size) hd).trans (h.block i hi hd)⟩
theorem Only.of_grown {B E g : Nat} {w w' : World} (h : w.grownBy w' (some g)) (hB : B ≤ g) (hE : g < E) : Only B E w w' :=
  ⟨h.os, h.tape, h.output, h.size, fun k hk hd => h.block k hk (by intro e; cases e; omega)⟩
theorem Only.drewN {B E : Nat} {w w' : World} (h : Only B E w w') (n : Nat) : Only B E w (w'.drewN n) := ⟨h.os, h.tape, h.output, h.size, h.block⟩
theorem Below.only {b B E : Nat} {w w1 w2 : World} (h : Below b w w1) (k : Only B E w1 w2) (hB : b ≤ B) (hb : b ≤ w.heap.size) : Below b w w2 :=
  ⟨k.os.trans h.os, k.tape.trans h.tape, k.output.trans h.output, Nat.le_trans h.size k.size, fun i hi => (k.block i (by have := h.size; omega) (.inl (by omega))).trans (h.block i hi)⟩

theorem Own.same {w w' : World} {B g cap : Nat} {xs : List Int} (h : Own w B g cap xs) (hs : w'.heap[g]? = w.heap[g]?) : Own w' B g cap xs := by
  refine ⟨h.1, ?_⟩
  rcases h.2 with ⟨h', _⟩ | ⟨g', cap', cur, h', hbb, hh, r⟩
  · simp at h'
  · refine .inr ⟨g', cap', cur, h', hbb, ?_, r⟩
    simp only [Value.slice.injEq, Option.some.injEq, Addr.mk.injEq] at h'
    obtain ⟨⟨rfl, _⟩, _⟩ := h'
    rw [hs]; exact hh
theorem OwnK.same {w w' : World} {B g cap n k : Nat} {E : TypeId} {cs : List Value} (h : OwnK w B E k g cap n cs) (hs : w'.heap[g]? = w.heap[g]?) : OwnK w' B E k g cap n cs := by
  refine ⟨h.1, ?_⟩
  rcases h.2 with ⟨h', _⟩ | ⟨g', cap', cur, h', hbb, hh, r⟩
  · simp at h'
  · refine .inr ⟨g', cap', cur, h', hbb, ?_, r⟩
    simp only [Value.slice.injEq, Option.some.injEq, Addr.mk.injEq] at h'
    obtain ⟨⟨rfl, _⟩, _⟩ := h'
    rw [hs]; exact hh
theorem OwnV.same {w w' : World} {B g cap : Nat} {E : TypeId} {vs : List Value} (h : OwnV w B E g cap vs) (hs : w'.heap[g]? = w.heap[g]?) : OwnV w' B E g cap vs := by
  refine ⟨h.1, ?_⟩
  rcases h.2 with ⟨h', _⟩ | ⟨g', cap', cur, h', hbb, hh, r⟩
  · simp at h'
  · refine .inr ⟨g', cap', cur, h', hbb, ?_, r⟩
    simp only [Value.slice.injEq, Option.some.injEq, Addr.mk.injEq] at h'
    obtain ⟨⟨rfl, _⟩, _⟩ := h'
    rw [hs]; exact hh

def HeldI (w : World) (B E g cap : Nat) (xs : List Int) : Prop := Own w B g cap xs ∧ g < E
def HeldR (w : World) (B E g cap : Nat) (rows : List (List Int)) : Prop := ∃ rs, contents rs = rows ∧ OwnRows w B g cap rs ∧ g < E ∧ ∀ r ∈ rs, r.1 < E
def HeldW (w : World) (B E g cap : Nat) (l : List Wt) : Prop := ∃ rs, contW rs = l ∧ OwnW w B g cap rs ∧ g < E ∧ ∀ r ∈ rs, r.1.1 < E
section
variable {w w' : World} {B E b B2 E2 g cap : Nat} {xs : List Int} {rows : List (List Int)} {l : List Wt}
theorem HeldI.lt (h : HeldI w B E g cap xs) : g < w.heap.size := h.1.lt
theorem HeldI.cells (h : HeldI w B E g cap xs) : Cells w g 0 xs := h.1.cells
theorem HeldI.capLe (h : HeldI w B E g cap xs) : xs.length ≤ cap := h.1.capLe
theorem HeldI.base (h : HeldI w B E g cap xs) : B ≤ g := h.1.base
theorem HeldI.below (h : HeldI w B E g cap xs) (hb : Below b w w') (hE : E ≤ b) : HeldI w' B E g cap xs := ⟨h.1.same (hb.block _ (by have := h.2; omega)), h.2⟩
theorem HeldI.only (h : HeldI w B E g cap xs) (hb : Only B2 E2 w w') (hd : E ≤ B2 ∨ E2 ≤ B) : HeldI w' B E g cap xs := ⟨h.1.same (hb.block _ h.1.lt (by have := h.2; have := h.1.base; omega)), h.2⟩
theorem HeldR.lt (h : HeldR w B E g cap rows) : g < w.heap.size := by obtain ⟨rs, -, h, -⟩ := h; exact h.lt
theorem HeldR.rows2 (h : HeldR w B E g cap rows) : Rows2 w g 0 rows := by obtain ⟨rs, rfl, h, -⟩ := h; exact h.rows2
theorem HeldR.capLe (h : HeldR w B E g cap rows) : rows.length ≤ cap := by obtain ⟨rs, rfl, h, -⟩ := h; have := h.capLe; simpa [contents] using this
theorem HeldR.base (h : HeldR w B E g cap rows) : B ≤ g := by obtain ⟨rs, -, h, -⟩ := h; exact h.base
theorem Inner.same {rs : List RowRef} (h : Inner w B rs) (hs : ∀ r ∈ rs, w'.heap[r.1]? = w.heap[r.1]?) : Inner w' B rs := ⟨fun r hr => (h.1 r hr).same (hs r hr), h.2⟩
theorem HeldR.below (h : HeldR w B E g cap rows) (hb : Below b w w') (hE : E ≤ b) : HeldR w' B E g cap rows := by
  obtain ⟨rs, hc, ho, h1, h2⟩ := h
  exact ⟨rs, hc, ⟨ho.1.same (hb.block _ (by omega)), ho.2.same (fun r hr => hb.block _ (by have := h2 r hr; omega))⟩, h1, h2⟩
theorem HeldR.only (h : HeldR w B E g cap rows) (hb : Only B2 E2 w w') (hd : E ≤ B2 ∨ E2 ≤ B) : HeldR w' B E g cap rows := by
  obtain ⟨rs, hc, ho, h1, h2⟩ := h
  exact ⟨rs, hc, ⟨ho.1.same (hb.block _ ho.1.lt (by have := ho.1.base; omega)), ho.2.same (fun r hr => hb.block _ (ho.2.1 r hr).lt (by have := h2 r hr; have := (ho.2.1 r hr).base; omega))⟩, h1, h2⟩
theorem HeldW.lt (h : HeldW w B E g cap l) : g < w.heap.size := by obtain ⟨rs, -, h, -⟩ := h; exact h.lt
theorem HeldW.wrows (h : HeldW w B E g cap l) : WRows w g 0 l := by obtain ⟨rs, rfl, h, -⟩ := h; exact h.wrows
theorem HeldW.capLe (h : HeldW w B E g cap l) : l.length ≤ cap := by obtain ⟨rs, rfl, h, -⟩ := h; have := h.1.capLe; simpa [contW] using this
theorem HeldW.base (h : HeldW w B E g cap l) : B ≤ g := by obtain ⟨rs, -, h, -⟩ := h; exact h.base
theorem HeldW.below (h : HeldW w B E g cap l) (hb : Below b w w') (hE : E ≤ b) : HeldW w' B E g cap l := by
  obtain ⟨rs, hc, ho, h1, h2⟩ := h
  refine ⟨rs, hc, ⟨ho.1.same (hb.block _ (by omega)), ho.2.same (fun r hr => ?_)⟩, h1, h2⟩
  obtain ⟨x, hx, rfl⟩ := List.mem_map.1 hr
  exact hb.block _ (by have := h2 x hx; omega)
theorem HeldW.only (h : HeldW w B E g cap l) (hb : Only B2 E2 w w') (hd : E ≤ B2 ∨ E2 ≤ B) : HeldW w' B E g cap l := by
  obtain ⟨rs, hc, ho, h1, h2⟩ := h
  refine ⟨rs, hc, ⟨ho.1.same (hb.block _ ho.1.lt (by have := ho.1.base; omega)), ho.2.same (fun r hr => ?_)⟩, h1, h2⟩
  have hl := (ho.2.1 r hr).lt
  have hbs := (ho.2.1 r hr).base
  obtain ⟨x, hx, rfl⟩ := List.mem_map.1 hr
  exact hb.block _ hl (by have := h2 x hx; omega)
end

theorem toIntS_h (a : Option Addr) (c : Nat) (xs : List Int) (w : World) (hx : xs.length ≤ 1048576) (ha : ArgInts w a xs) :
    Calls Try.prog 18 #[.slice a xs.length c] w (fun e w' => ∃ g cap, e = .returned (Value.slice (some ⟨g, 0, none⟩) xs.length cap) ∧ HeldI w' w.heap.size w'.heap.size g cap xs ∧ Below w.heap.size w w') :=
  (toIntS_any a c xs w (by omega) ha).mono fun _ _ ⟨g, cap, he, ho, hb⟩ => ⟨g, cap, he, ⟨ho, ho.lt⟩, hb⟩
theorem toIntSS_h (a : Option Addr) (c : Nat) (rows : List (List Int)) (w : World) (hx : rowsFew rows) (ha : ArgRows w a rows) :
    Calls Try.prog 9 #[.slice a rows.length c] w (fun e w' => ∃ g cap, e = .returned (Value.slice (some ⟨g, 0, none⟩) rows.length cap) ∧ HeldR w' w.heap.size w'.heap.size g cap rows ∧ Below w.heap.size w w') :=
  (toIntSS_any a _ c rows w rfl hx.1 (fun j hj => by have := hx.2.1 j hj; omega) ha).mono fun _ _ ⟨g, cap, rs, he, hc, ho, hb⟩ => ⟨g, cap, he, ⟨rs, hc, ho, ho.lt, fun r hr => (ho.2.1 r hr).lt⟩, hb⟩
theorem toWeightedS_h (a : Option Addr) (c : Nat) (l : List Wt) (w : World) (hx : wFew l) (ha : ArgWts w a l) :
    Calls Try.prog 10 #[.slice a l.length c] w (fun e w' => ∃ g cap, e = .returned (Value.slice (some ⟨g, 0, none⟩) l.length cap) ∧ HeldW w' w.heap.size w'.heap.size g cap l ∧ Below w.heap.size w w') :=
  (toWeightedS_any a _ c l w rfl hx ha).mono fun _ _ ⟨g, cap, rs, he, hc, ho, hb⟩ => ⟨g, cap, he, ⟨rs, hc, ho, ho.lt, fun r hr => (ho.2.1 r.1 (List.mem_map_of_mem hr)).lt⟩, hb⟩
theorem eqIntS_h {B E B2 E2 g cap g2 cap2 : Nat} {xs : List Int} {w : World} (hx : xs.length ≤ 1048576) (h1 : HeldI w B E g cap xs) (h2 : HeldI w B2 E2 g2 cap2 xs) :
    Calls Try.prog 20 #[(Value.slice (some ⟨g, 0, none⟩) xs.length cap), (Value.slice (some ⟨g2, 0, none⟩) xs.length cap2)] w (Gives w (.bool true)) :=
  (eqIntS_same g 0 _ cap g2 0 _ cap2 xs w rfl rfl (by omega) h1.cells h2.cells).mono fun _ _ ⟨he, m, hm⟩ => ⟨he, by subst hm; exact below_drewN' w m⟩
theorem eqIntSS_h {B E B2 E2 g cap g2 cap2 : Nat} {rows : List (List Int)} {w : World} (hx : rowsFew rows) (h1 : HeldR w B E g cap rows) (h2 : HeldR w B2 E2 g2 cap2 rows) :
    Calls Try.prog 13 #[(Value.slice (some ⟨g, 0, none⟩) rows.length cap), (Value.slice (some ⟨g2, 0, none⟩) rows.length cap2)] w (Gives w (.bool true)) :=
  (eqIntSS_same g 0 _ cap g2 0 _ cap2 rows w rfl rfl hx.1 (fun j hj => by have := hx.2.1 j hj; omega) h1.rows2 h2.rows2).mono fun _ _ ⟨he, m, hm⟩ => ⟨he, by subst hm; exact below_drewN' w m⟩
theorem eqWeightedS_h {B E B2 E2 g cap g2 cap2 : Nat} {l : List Wt} {w : World} (hx : wFew l) (h1 : HeldW w B E g cap l) (h2 : HeldW w B2 E2 g2 cap2 l) :
    Calls Try.prog 12 #[(Value.slice (some ⟨g, 0, none⟩) l.length cap), (Value.slice (some ⟨g2, 0, none⟩) l.length cap2)] w (Gives w (.bool true)) :=
  eqWeightedS_same g 0 _ cap g2 0 _ cap2 l w rfl rfl hx h1.lt h2.lt h1.wrows h2.wrows
theorem szIntSS_h (a : Option Addr) (c : Nat) (rows : List (List Int)) (left : Int) (w : World) (hl : 0 ≤ left ∧ left ≤ 1048576) (hn : rows.length ≤ maxLen) (hrl : ∀ j, j < rows.length → (rows.getD j []).length ≤ maxLen) (ha : ArgRows w a rows) :
    Calls Try.prog 6 #[.slice a rows.length c, .int .i64 left] w (fun e w' => ∃ L : Int, e = .returned (.int .i64 L) ∧ (0 ≤ L → rowsFew rows ∧ L ≤ 1048576) ∧ Below w.heap.size w w') := by
  have hm : maxLen ≤ 9223372036854775807 := by decide +kernel
  exact (szIntSS_any a _ c rows left w rfl hl (by omega) (fun j hj => by have := hrl j hj; omega) ha).mono fun _ _ ⟨he, m, hw⟩ => ⟨_, he, fun h => szLL_few hl.2 h, by subst hw; exact below_drewN' w m⟩
theorem szWeightedS_h (a : Option Addr) (c : Nat) (l : List Wt) (left : Int) (w : World) (hl : 0 ≤ left ∧ left ≤ 1048576) (hn : l.length ≤ maxLen) (hrl : ∀ j, j < l.length → (wOf l j).length ≤ maxLen) (ha : ArgWts w a l) :
    Calls Try.prog 7 #[.slice a l.length c, .int .i64 left] w (fun e w' => ∃ L : Int, e = .returned (.int .i64 L) ∧ (0 ≤ L → wFew l ∧ L ≤ 1048576) ∧ Below w.heap.size w w') := by
  have hm : maxLen ≤ 9223372036854775807 := by decide +kernel
  exact szWeightedS_any a _ c l left w rfl hl (by omega) (fun j hj => by have := hrl j hj; omega) ha
end Go.Proofs.Ytihfbbpkgmkbcaa

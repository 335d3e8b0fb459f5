/- Small roots by the reference: contract. append of elements of any number of cells to a slice of the call's own; slices of vectors; append of rows to rows. Pairs of roots and coroots of the call's own; 'add', that puts one into the list unless it is there: contract. 'add', that puts a pair into the list unless its root is there: contract. Sets of vectors that a call keeps in a map: words and laws. -/
import Derived.Test.YtmjneokgnnbekaaGreatDoorG24
import Derived.Test.YtmjneokgnnbekaaGreatDoorG19
import Derived.Test.YtmjneokgnnbekaaGreatDoorG03
import Derived.Maps.Own
import Derived.Maps.OwnOps
import Derived.Maps.Views
import Derived.WideKeyArr2
import Derived.DeepKeys4
namespace Go.Proofs.YtmjneokgnnbekaaGreatDoor
set_option maxRecDepth 100000
open Go.RowKit Game

theorem OwnRows.other {w w' : World} {B B2 g g2 cap cap2 : Nat} {rs rs2 : List RowRef} (h : OwnRows w B g cap rs) (h2 : OwnRows w B2 g2 cap2 rs2) (hne : g ≠ g2) (hg : w.grownBy w' (some g2)) : OwnRows w' B g cap rs :=
  ⟨h.1.grown hg (fun e => hne (Option.some.inj e)), fun r hr => (h.2.1 r hr).grown hg (fun e => h2.1.ne (h.2.1 r hr).toV (by decide) (Option.some.inj e).symm), h.2.2⟩
theorem putsR_mem {x : List Int} : ∀ {L : List (List Int)}, x ∈ putsR L → x ∈ L := by
  have : ∀ (L a : List (List Int)), x ∈ L.foldl putR a → x ∈ L ∨ x ∈ a := by
    intro L
    induction L with
    | nil => intro a h; exact .inr h
    | cons y L ih =>
      intro a h
      rw [List.foldl_cons] at h
      rcases ih _ h with h1 | h1
      · exact .inl (List.mem_cons_of_mem _ h1)
      · rcases mem_putR.1 h1 with e | e
        · exact .inl (by rw [e]; simp)
        · exact .inr e
  intro L h
  rcases this L [] h with h | h
  · exact h
  · simp at h
/-- three lists of rows of the call's own -/
structure Tri (w : World) (B gT cT gO cO gD cD : Nat) (rsT rsO rsD : List RowRef) : Prop where
  t : OwnRows w B gT cT rsT
  o : OwnRows w B gO cO rsO
  d : OwnRows w B gD cD rsD
  to' : gT ≠ gO
  td : gT ≠ gD
  od : gO ≠ gD
section
variable {w w' : World} {B gT cT gO cO gD cD g' c' : Nat} {rsT rsO rsD rs' : List RowRef}
theorem Tri.below (h : Tri w B gT cT gO cO gD cD rsT rsO rsD) (hb : Below w.heap.size w w') : Tri w' B gT cT gO cO gD cD rsT rsO rsD := ⟨h.t.below hb, h.o.below hb, h.d.below hb, h.to', h.td, h.od⟩
theorem Tri.still (h : Tri w B gT cT gO cO gD cD rsT rsO rsD) (hs : ∃ n, w' = w.drewN n) : Tri w' B gT cT gO cO gD cD rsT rsO rsD := ⟨h.t.still hs, h.o.still hs, h.d.still hs, h.to', h.td, h.od⟩
theorem Tri.pushO (h : Tri w B gT cT gO cO gD cD rsT rsO rsD) (ho : OwnRows w' B g' c' rs') (hg : w.grownBy w' (some gO)) (hor : g' = gO ∨ w.heap.size < g') : Tri w' B gT cT g' c' gD cD rsT rs' rsD := by
  have h1 := h.t.lt
  have h2 := h.d.lt
  have a := h.to'; have b := h.od
  refine ⟨h.t.other h.o a hg, ho, h.d.other h.o (Ne.symm b) hg, ?_, h.td, ?_⟩
  · rcases hor with e | e
    · rw [e]; exact a
    · omega
  · rcases hor with e | e
    · rw [e]; exact b
    · omega
theorem Tri.pushD (h : Tri w B gT cT gO cO gD cD rsT rsO rsD) (ho : OwnRows w' B g' c' rs') (hg : w.grownBy w' (some gD)) (hor : g' = gD ∨ w.heap.size < g') : Tri w' B gT cT gO cO g' c' rsT rsO rs' := by
  have h1 := h.t.lt
  have h2 := h.o.lt
  have a := h.td; have b := h.od
  refine ⟨h.t.other h.d a hg, h.o.other h.d b hg, ho, h.to', ?_, ?_⟩
  · rcases hor with e | e
    · rw [e]; exact a
    · omega
  · rcases hor with e | e
    · rw [e]; exact b
    · omega
theorem Tri.ne3 (h : Tri w B gT cT gO cO gD cD rsT rsO rsD) {g3 c3 : Nat} {xs : List Int} (ho : Own w' w.heap.size g3 c3 xs) : (∀ s ∈ rsO, s.1 ≠ g3) ∧ ∀ s ∈ rsD, s.1 ≠ g3 :=
  ⟨fun s hs e => by have h1 := (h.o.2.1 s hs).lt; have h2 := ho.base; omega, fun s hs e => by have h1 := (h.d.2.1 s hs).lt; have h2 := ho.base; omega⟩
end
/-- roots and coroots, in two lists -/
structure InTwo (rsO rsD : List RowRef) (Q : List RPair) : Prop where
  o : contents rsO = Q.map (·.1)
  d : contents rsD = Q.map (·.2)
section
variable {rsO rsD : List RowRef} {Q : List RPair}
theorem InTwo.lo (h : InTwo rsO rsD Q) : rsO.length = Q.length := by have := congrArg List.length h.o; simpa [contents] using this
theorem InTwo.ld (h : InTwo rsO rsD Q) : rsD.length = Q.length := by have := congrArg List.length h.d; simpa [contents] using this
theorem InTwo.push (h : InTwo rsO rsD Q) (a b : RowRef) : InTwo (rsO ++ [a]) (rsD ++ [b]) (Q ++ [(a.2.2, b.2.2)]) :=
  ⟨by rw [contents_append, h.o, List.map_append]; rfl, by rw [contents_append, h.d, List.map_append]; rfl⟩
theorem InTwo.ato (h : InTwo rsO rsD Q) {k : Nat} (hk : k < rsO.length) : rsO[k].2.2 = (Q.getD k ([], [])).1 := by
  have h1 : (contents rsO).getD k [] = rsO[k].2.2 := by simp [contents, List.getD, hk]
  have hk' : k < Q.length := by rw [← h.lo]; exact hk
  rw [← h1, h.o]; simp [List.getD, hk']
theorem InTwo.atd (h : InTwo rsO rsD Q) {k : Nat} (hk : k < rsD.length) : rsD[k].2.2 = (Q.getD k ([], [])).2 := by
  have h1 : (contents rsD).getD k [] = rsD[k].2.2 := by simp [contents, List.getD, hk]
  have hk' : k < Q.length := by rw [← h.ld]; exact hk
  rw [← h1, h.d]; simp [List.getD, hk']
end
def smallB (c : List (List Int)) : Bool := (smR c).isSome
theorem small_none {c : List (List Int)} (h : smR c = none) : smallL c = [] ∧ smallB c = false := by unfold smallL smallB; rw [h]; exact ⟨rfl, rfl⟩
theorem small_some {c : List (List Int)} {Q : List RPair} (h : smR c = some Q) : smallL c = putsR (Q.map (·.1)) ∧ smallB c = true := by unfold smallL smallB; rw [h]; exact ⟨rfl, rfl⟩
theorem smStart_take (c : List (List Int)) (k : Nat) (hk : k < c.length) : (smStart c).take (k + 1) = (smStart c).take k ++ [(simpL c.length k, simpL c.length k)] := by
  rw [List.take_succ_eq_append_getElem (by rw [smStart_length]; exact hk)]
  simp [smStart]
theorem smStep_new {c t : List (List Int)} {Q : List RPair} {k i : Nat} {x y : List Int} (hQ : Q.getD k ([], []) = (x, y)) (h1 : pairL (c.getD i []) x < 0) (h2 : wrap64 (pairL (c.getD i []) x * pairL (t.getD i []) y) < 4) (h3 : mirL c i x ∉ Q.map (·.1)) : smStep c t Q k i = Q ++ [(mirL c i x, mirL t i y)] := by
  unfold smStep; rw [hQ]; exact if_pos ⟨h1, h2, h3⟩
theorem smStep_old {c t : List (List Int)} {Q : List RPair} {k i : Nat} {x y : List Int} (hQ : Q.getD k ([], []) = (x, y)) (h : ¬ (pairL (c.getD i []) x < 0 ∧ wrap64 (pairL (c.getD i []) x * pairL (t.getD i []) y) < 4 ∧ mirL c i x ∉ Q.map (·.1))) : smStep c t Q k i = Q := by
  unfold smStep; rw [hQ]; exact if_neg h

end Go.Proofs.YtmjneokgnnbekaaGreatDoor
namespace Go.Proofs.YtmjneokgnnbekaaGreatDoor
set_option maxRecDepth 100000
open Go.RowKit Game

/-! ### vectors -/
theorem infoVec : (Tryz.prog.info? 64).map (fun i => (i.zero, i.size, i.bytes)) = some (some (.agg #[.int .i64 0, .int .i64 0, .int .i64 0, .int .i64 0]), 4, 32) := by kernel_rfl
def vec4 (v : List Int) : List Value := [.int .i64 (v.getD 0 0), .int .i64 (v.getD 1 0), .int .i64 (v.getD 2 0), .int .i64 (v.getD 3 0)]
def flatV (vs : List (List Int)) : List Value := vs.flatMap vec4
def OwnVecs (w : World) (B g cap : Nat) (vs : List (List Int)) : Prop := OwnK w B 64 4 g cap vs.length (flatV vs)
theorem flatV_length (vs : List (List Int)) : (flatV vs).length = vs.length * 4 := by
  induction vs with
  | nil => rfl
  | cons v vs ih => unfold flatV at *; simp only [List.flatMap_cons, List.length_append, ih, List.length_cons]; simp [vec4]; omega
theorem flatV_append (a b : List (List Int)) : flatV (a ++ b) = flatV a ++ flatV b := by simp [flatV]
theorem flatV_at {vs : List (List Int)} {j i : Nat} (hj : j < vs.length) (hi : i < 4) : (flatV vs)[j * 4 + i]? = some (.int .i64 ((vs.getD j []).getD i 0)) := by
  induction vs generalizing j with
  | nil => simp at hj
  | cons v vs ih =>
    unfold flatV at *
    simp only [List.flatMap_cons]
    cases j with
    | zero =>
      rw [List.getElem?_append_left (by simp [vec4]; omega)]
      have : i = 0 ∨ i = 1 ∨ i = 2 ∨ i = 3 := by omega
      rcases this with rfl | rfl | rfl | rfl <;> rfl
    | succ j =>
      have := ih (j := j) (by simpa using hj)
      rw [List.getElem?_append_right (by simp [vec4]; omega)]
      have e : (j + 1) * 4 + i - (vec4 v).length = j * 4 + i := by simp [vec4]; omega
      rw [e, this]
      simp [List.getD]
section
variable {w w' : World} {B g cap : Nat} {vs : List (List Int)}
theorem OwnVecs.lt (h : OwnVecs w B g cap vs) : g < w.heap.size := OwnK.lt h
theorem OwnVecs.base (h : OwnVecs w B g cap vs) : B ≤ g := OwnK.base h
theorem OwnVecs.below {B' : Nat} (h : OwnVecs w B g cap vs) (hb : Below B' w w') (hg : g < B') : OwnVecs w' B g cap vs := OwnK.below h hb hg
theorem OwnVecs.mono {B' : Nat} (h : OwnVecs w B g cap vs) (hB : B' ≤ B) : OwnVecs w B' g cap vs := OwnK.mono h hB
theorem OwnVecs.grown {row : Option Nat} (h : OwnVecs w B g cap vs) (hg : w.grownBy w' row) (hne : some g ≠ row) : OwnVecs w' B g cap vs := OwnK.grown h hg hne
theorem OwnVecs.still (h : OwnVecs w B g cap vs) (hs : ∃ n, w' = w.drewN n) : OwnVecs w' B g cap vs := by obtain ⟨n, rfl⟩ := hs; exact h
theorem OwnVecs.cell (h : OwnVecs w B g cap vs) {j i : Nat} (hj : j < vs.length) (hi : i < 4) : w.cell? ⟨g, j * 4 + i, none⟩ = some (.int .i64 ((vs.getD j []).getD i 0)) := by
  have hl : j * 4 + i < (flatV vs).length := by rw [flatV_length]; omega
  rw [OwnK.cell h _ hl, ← flatV_at hj hi, List.getElem?_eq_getElem hl]
theorem OwnVecs.empty (hB : B ≤ w.heap.size) : OwnVecs (w.alloc (.cells #[] 64)) B w.heap.size 0 [] :=
  World.ownsRow_lit w #[] 0 hB (by decide) rfl
theorem OwnVecs.one (v : List Int) (hB : B ≤ w.heap.size) : OwnVecs (w.alloc (.cells #[.int .i64 (v.getD 0 0), .int .i64 (v.getD 1 0), .int .i64 (v.getD 2 0), .int .i64 (v.getD 3 0)] 64)) B w.heap.size 1 [v] :=
  World.ownsRow_lit w #[.int .i64 (v.getD 0 0), .int .i64 (v.getD 1 0), .int .i64 (v.getD 2 0), .int .i64 (v.getD 3 0)] 1 hB (by decide) rfl
/-- 'append(out, rows...)' -/
theorem wpList_append_rows {ops : Array Oper} {rest : List Oper} {o : Oper} {a : Act} {Q : Exit → Act → World → Prop} (hgd : o.guard = none) (s x : Operand)
    (ho : o.op = .call { callee := .builtin .append, args := #[s, x], argTypes := #[22, 22] })
    (B g cap n g2 c2 m : Nat) (rs rs2 : List RowRef) (w : World) (hn : rs.length = n) (hm : rs2.length = m) (hown : OwnRows w B g cap rs) (hown2 : OwnRows w B g2 c2 rs2) (hne : ∀ r ∈ rs, ∀ s ∈ rs2, r.1 ≠ s.1)
    (hs : a.eval s = (Value.slice (some ⟨g, 0, none⟩) n cap)) (hx : a.eval x = (Value.slice (some ⟨g2, 0, none⟩) m c2)) (hlen : n + m ≤ 1048576)
    (h : ∀ g' cap' w', OwnRows w' B g' cap' (rs ++ rs2) → w.grownBy w' (some g) → (g' = g ∨ g' = w.heap.size) → wpList Tryz.prog ops Q rest (a.put o.dst (Value.slice (some ⟨g', 0, none⟩) (n + m) cap')) w') :
    wpList Tryz.prog ops Q (o :: rest) a w := by
  subst hn; subst hm
  have ho1 : OwnK w B 23 1 g cap rs.length (rs.map rowVal) := by have := hown.1; unfold OwnV at this; rw [List.length_map] at this; exact this
  refine wpList_append_K infoRow Tryz.underlying22 rfl (by decide) (by decide) hgd s x ho B g cap rs.length (rs.map rowVal) ho1 g2 0 rs2.length c2 (rs2.map rowVal) (by simp) ?_ ?_ hs hx hlen ?_
  · intro j u hu
    have hj : j < (rs2.map rowVal).length := (List.getElem?_eq_some_iff.1 hu).1
    rw [Nat.zero_add, hown2.1.cell j hj, ← hu, List.getElem?_eq_getElem hj]
  · intro u hu
    obtain ⟨r, -, rfl⟩ := List.mem_map.1 hu
    rfl
  · intro g' cap' w' h2 h3 h4
    refine h g' cap' w' ⟨?_, fun r hr => ?_, ?_⟩ h3 h4
    · unfold OwnV
      rw [List.map_append, List.length_append, List.length_map, List.length_map]
      exact h2
    · rcases List.mem_append.1 hr with hr | hr
      · exact (hown.2.1 r hr).grown h3 (fun e => hown.1.ne (hown.2.1 r hr).toV (by decide) (Option.some.inj e).symm)
      · exact (hown2.2.1 r hr).grown h3 (fun e => hown.1.ne (hown2.2.1 r hr).toV (by decide) (Option.some.inj e).symm)
    · rw [List.map_append, List.nodup_append]
      refine ⟨hown.2.2, hown2.2.2, fun x hx y hy => ?_⟩
      obtain ⟨r, hr, rfl⟩ := List.mem_map.1 hx
      obtain ⟨s, hs, rfl⟩ := List.mem_map.1 hy
      exact hne r hr s hs
end
end Go.Proofs.YtmjneokgnnbekaaGreatDoor
namespace Go.Proofs.YtmjneokgnnbekaaGreatDoor
set_option maxRecDepth 100000
open Go.RowKit Game

abbrev PairRef := RowRef × RowRef
def pair2 (p : PairRef) : List Value := [rowVal p.1, rowVal p.2]
def flatQ (ps : List PairRef) : List Value := ps.flatMap pair2
def OwnPairs (w : World) (B g cap : Nat) (ps : List PairRef) : Prop := OwnK w B 86 2 g cap ps.length (flatQ ps)
theorem infoPair : (Tryz.prog.info? 86).map (fun i => (i.zero, i.size, i.bytes)) = some (some (.agg #[.slice none 0 0, .slice none 0 0]), 2, 48) := by kernel_rfl
theorem flatQ_length (ps : List PairRef) : (flatQ ps).length = ps.length * 2 := by
  induction ps with
  | nil => rfl
  | cons v vs ih => unfold flatQ at *; simp only [List.flatMap_cons, List.length_append, ih, List.length_cons]; simp [pair2]; omega
theorem flatQ_append (a b : List PairRef) : flatQ (a ++ b) = flatQ a ++ flatQ b := by simp [flatQ]
theorem flatQ_at {ps : List PairRef} {j : Nat} (hj : j < ps.length) : (flatQ ps)[j * 2]? = some (rowVal ps[j].1) ∧ (flatQ ps)[j * 2 + 1]? = some (rowVal ps[j].2) := by
  induction ps generalizing j with
  | nil => simp at hj
  | cons v vs ih =>
    unfold flatQ at *
    simp only [List.flatMap_cons]
    cases j with
    | zero => exact ⟨rfl, rfl⟩
    | succ j =>
      have := ih (j := j) (by simpa using hj)
      rw [List.getElem?_append_right (by simp [pair2]; omega), List.getElem?_append_right (by simp [pair2]; omega)]
      have e1 : (j + 1) * 2 - (pair2 v).length = j * 2 := by simp [pair2]; omega
      have e2 : (j + 1) * 2 + 1 - (pair2 v).length = j * 2 + 1 := by simp [pair2]; omega
      rw [e1, e2]
      exact this
section
variable {w w' : World} {B g cap : Nat} {ps : List PairRef}
theorem OwnPairs.lt (h : OwnPairs w B g cap ps) : g < w.heap.size := OwnK.lt h
theorem OwnPairs.base (h : OwnPairs w B g cap ps) : B ≤ g := OwnK.base h
theorem OwnPairs.mono {B' : Nat} (h : OwnPairs w B g cap ps) (hB : B' ≤ B) : OwnPairs w B' g cap ps := OwnK.mono h hB
theorem OwnPairs.below (h : OwnPairs w B g cap ps) (hb : Below w.heap.size w w') : OwnPairs w' B g cap ps := OwnK.below h hb (OwnK.lt h)
theorem OwnPairs.grown {row : Option Nat} (h : OwnPairs w B g cap ps) (hg : w.grownBy w' row) (hne : some g ≠ row) : OwnPairs w' B g cap ps := OwnK.grown h hg hne
theorem OwnPairs.still (h : OwnPairs w B g cap ps) (hs : ∃ n, w' = w.drewN n) : OwnPairs w' B g cap ps := by obtain ⟨n, rfl⟩ := hs; exact h
theorem OwnPairs.cell (h : OwnPairs w B g cap ps) {j : Nat} (hj : j < ps.length) : w.cell? ⟨g, j * 2, none⟩ = some (rowVal ps[j].1) ∧ w.cell? ⟨g, j * 2 + 1, none⟩ = some (rowVal ps[j].2) := by
  have hl1 : j * 2 < (flatQ ps).length := by rw [flatQ_length]; omega
  have hl2 : j * 2 + 1 < (flatQ ps).length := by rw [flatQ_length]; omega
  obtain ⟨h1, h2⟩ := flatQ_at hj
  rw [OwnK.cell h _ hl1, OwnK.cell h _ hl2, ← h1, ← h2, List.getElem?_eq_getElem hl1, List.getElem?_eq_getElem hl2]
  exact ⟨rfl, rfl⟩
theorem OwnPairs.empty (hB : B ≤ w.heap.size) : OwnPairs (w.alloc (.cells #[] 86)) B w.heap.size 0 [] :=
  World.ownsRow_lit w #[] 0 hB (by decide) rfl
theorem OwnPairs.one (p : PairRef) (hB : B ≤ w.heap.size) : OwnPairs (w.alloc (.cells #[rowVal p.1, rowVal p.2] 86)) B w.heap.size 1 [p] :=
  World.ownsRow_lit w #[rowVal p.1, rowVal p.2] 1 hB (by decide) rfl
theorem wpList_append_pair {ops : Array Oper} {rest : List Oper} {o : Oper} {a : Act} {Q : Exit → Act → World → Prop} (hgd : o.guard = none) (s x : Operand)
    (ho : o.op = .call { callee := .builtin .append, args := #[s, x], argTypes := #[83, 83] })
    (B g cap n H : Nat) (ps : List PairRef) (p : PairRef) (w W : World) (hn : ps.length = n) (hW : W = w.alloc (.cells #[rowVal p.1, rowVal p.2] 86)) (hH : w.heap.size = H) (hown : OwnPairs w B g cap ps)
    (hs : a.eval s = (Value.slice (some ⟨g, 0, none⟩) n cap)) (hx : a.eval x = (Value.slice (some ⟨H, 0, none⟩) 1 1)) (hlen : n + 1 ≤ 1048576)
    (h : ∀ g' cap' w', OwnPairs w' B g' cap' (ps ++ [p]) → w.grownBy w' (some g) → (g' = g ∨ w.heap.size < g') → wpList Tryz.prog ops Q rest (a.put o.dst (Value.slice (some ⟨g', 0, none⟩) (n + 1) cap')) w') :
    wpList Tryz.prog ops Q (o :: rest) a W := by
  subst hn; subst hW; subst hH
  have hnew := OwnPairs.one (w := w) (B := w.heap.size) p (Nat.le_refl _)
  refine wpList_append_K infoPair Tryz.underlying83 rfl (by decide) (by decide) hgd s x ho B g cap ps.length (flatQ ps) (OwnK.alloc hown _) w.heap.size 0 1 1 (pair2 p) rfl ?_ ?_ hs hx hlen ?_
  · intro j u hu
    have hj : j < 2 := by have := (List.getElem?_eq_some_iff.1 hu).1; simpa [pair2] using this
    have h1 := hnew.cell (j := 0) (by simp)
    rw [Nat.zero_mul] at h1
    have : j = 0 ∨ j = 1 := by omega
    rcases this with rfl | rfl
    · rw [Nat.zero_add, h1.1, ← hu]; rfl
    · rw [h1.2, ← hu]; rfl
  · intro u hu
    simp [pair2] at hu
    rcases hu with rfl | rfl <;> rfl
  · intro g' cap' w' h2 h3 h4
    refine h g' cap' w' ?_ ⟨h3.os, h3.tape, h3.output, Nat.le_trans (by simp) h3.size, fun k hk hne => (h3.block k (by simp; omega) hne).trans (Below.heap_alloc _ _ _ hk)⟩ (h4.imp id (by simp; omega))
    unfold OwnPairs
    rw [flatQ_append, List.length_append]
    have e : flatQ [p] = pair2 p := by simp [flatQ]
    rw [e]
    exact h2
end

/-- what 'add' works on: the set of the roots and the list of pairs, in two boxes -/
structure SmSt (w : World) (B bS bL bM gP cP nP nM m : Nat) (ps : List PairRef) : Prop where
  hS : w.heap[bS]? = some (.cells #[.map (some bM)] 66 (0, 0))
  hL : w.heap[bL]? = some (.cells #[(Value.slice (some ⟨gP, 0, none⟩) nP cP)] 83 (0, 0))
  hP : OwnPairs w B gP cP ps
  hn : ps.length = nP
  hM : SeenM w bM nM m (ps.map fun p => p.1.2.2)
  hnM : nM ≤ nP
  rows : ∀ p ∈ ps, Own w B p.1.1 p.1.2.1 p.1.2.2 ∧ Own w B p.2.1 p.2.2.1 p.2.2.2
  nodup : (ps.map fun p => p.1.1).Nodup
  bL_ge : B ≤ bL
  bM_ge : B ≤ bM
/-- what 'add' leaves as it was -/
structure SmFr (w w' : World) (bL gP bM : Nat) : Prop where
  os : w'.os = w.os
  tape : w'.tape = w.tape
  output : w'.output = w.output
  size : w.heap.size ≤ w'.heap.size
  block : ∀ k, k < w.heap.size → k ≠ bL → k ≠ gP → k ≠ bM → w'.heap[k]? = w.heap[k]?
theorem box_cell {w : World} {b : Nat} {v : Value} {t : TypeId} (h : w.heap[b]? = some (.cells #[v] t (0, 0))) : w.cell? ⟨b, 0, none⟩ = some v ∧ w.frozen? ⟨b, 0, none⟩ = false := by
  constructor <;> simp [World.cell?, World.frozen?, h]
theorem box_lt {w : World} {b : Nat} {o : Obj} (h : w.heap[b]? = some o) : b < w.heap.size := (Array.getElem?_eq_some_iff.1 h).1
section
variable {w w' : World} {B bS bL bM gP cP nP nM m : Nat} {ps : List PairRef}
theorem SmFr.below (h : SmFr w w' bL gP bM) {b : Nat} (h1 : b ≤ bL) (h2 : b ≤ gP) (h3 : b ≤ bM) (hb : b ≤ w.heap.size) : Below b w w' :=
  ⟨h.os, h.tape, h.output, h.size, fun k hk => h.block k (by omega) (by omega) (by omega) (by omega)⟩
theorem SeenM.same {ks : List (List Int)} (h : SeenM w bM nM m ks) (hs : w'.heap[bM]? = w.heap[bM]?) : SeenM w' bM nM m ks := by
  obtain ⟨D, ⟨es, clock, hh, r⟩, h2⟩ := h
  exact ⟨D, ⟨es, clock, hs.trans hh, r⟩, h2⟩
theorem SmSt.keep (h : SmSt w B bS bL bM gP cP nP nM m ps) (hk : ∀ k, k < w.heap.size → w'.heap[k]? = w.heap[k]?) : SmSt w' B bS bL bM gP cP nP nM m ps :=
  ⟨(hk _ (box_lt h.hS)).trans h.hS, (hk _ (box_lt h.hL)).trans h.hL, OwnK.same h.hP (hk _ h.hP.lt), h.hn, h.hM.same (hk _ h.hM.lt), h.hnM, fun p hp => ⟨(h.rows p hp).1.same (hk _ (h.rows p hp).1.lt), (h.rows p hp).2.same (hk _ (h.rows p hp).2.lt)⟩, h.nodup, h.bL_ge, h.bM_ge⟩
theorem SmSt.below (h : SmSt w B bS bL bM gP cP nP nM m ps) (hb : Below w.heap.size w w') : SmSt w' B bS bL bM gP cP nP nM m ps := h.keep hb.block
theorem SmSt.still (h : SmSt w B bS bL bM gP cP nP nM m ps) (hs : ∃ n, w' = w.drewN n) : SmSt w' B bS bL bM gP cP nP nM m ps := by obtain ⟨n, rfl⟩ := hs; exact h.keep fun _ _ => rfl
/-- the blocks are different -/
theorem SmSt.ne (h : SmSt w B bS bL bM gP cP nP nM m ps) : bS ≠ bM ∧ bL ≠ bM ∧ gP ≠ bM ∧ bS ≠ gP ∧ bL ≠ gP ∧ bS ≠ bL := by
  obtain ⟨D, ⟨es, clock, hh, -⟩, -⟩ := h.hM
  obtain ⟨cur, h2, -⟩ := OwnK.row h.hP
  have h3 := h.hS
  have h4 := h.hL
  refine ⟨?_, ?_, ?_, ?_, ?_, ?_⟩ <;> intro e <;> subst e <;> simp_all
theorem SmSt.neOwn (h : SmSt w B bS bL bM gP cP nP nM m ps) {B2 g cap : Nat} {xs : List Int} (ho : Own w B2 g cap xs) : g ≠ bS ∧ g ≠ bL ∧ g ≠ bM ∧ g ≠ gP := by
  obtain ⟨D, ⟨es, clock, hh, -⟩, -⟩ := h.hM
  obtain ⟨cur, h2, -⟩ := OwnK.row h.hP
  obtain ⟨cur2, h5, -⟩ := ho.toV.row
  have h3 := h.hS
  have h4 := h.hL
  refine ⟨?_, ?_, ?_, ?_⟩ <;> intro e <;> subst e <;> simp_all
theorem SmSt.neRows (h : SmSt w B bS bL bM gP cP nP nM m ps) {B2 g cap : Nat} {rs : List RowRef} (ho : OwnRows w B2 g cap rs) : g ≠ bS ∧ g ≠ bL ∧ g ≠ bM ∧ g ≠ gP := by
  obtain ⟨D, ⟨es, clock, hh, -⟩, -⟩ := h.hM
  obtain ⟨cur, h2, -⟩ := OwnK.row h.hP
  obtain ⟨cur2, h5, -⟩ := ho.1.row
  have h3 := h.hS
  have h4 := h.hL
  refine ⟨?_, ?_, ?_, ?_⟩ <;> intro e <;> subst e <;> simp_all
/-- a list of rows besides stays as it was -/
theorem SmFr.rows (h : SmFr w w' bL gP bM) (st : SmSt w B bS bL bM gP cP nP nM m ps) {B2 g cap : Nat} {rs : List RowRef} (ho : OwnRows w B2 g cap rs) : OwnRows w' B2 g cap rs := by
  have h1 := st.neRows ho
  exact ⟨ho.1.same (h.block _ ho.lt h1.2.1 h1.2.2.2 h1.2.2.1), fun r hr => by
    have h2 := st.neOwn (ho.2.1 r hr)
    exact (ho.2.1 r hr).same (h.block _ (ho.2.1 r hr).lt h2.2.1 h2.2.2.2 h2.2.2.1), ho.2.2⟩
end
end Go.Proofs.YtmjneokgnnbekaaGreatDoor
namespace Go.Proofs.YtmjneokgnnbekaaGreatDoor
set_option maxRecDepth 100000
open Go.RowKit Game

theorem heap_setCell_ne {w : World} {b k : Nat} {v : Value} (h : k ≠ b) : (w.setCell ⟨b, 0, none⟩ v).heap[k]? = w.heap[k]? := by
  show (w.heap.modify b _)[k]? = _
  rw [Array.getElem?_modify]
  simp [Ne.symm h]
theorem heap_setCell_size {w : World} {b : Nat} {v : Value} : (w.setCell ⟨b, 0, none⟩ v).heap.size = w.heap.size := by
  show (w.heap.modify b _).size = _
  simp
/-- the roots of pairs -/
def rootsQ (ps : List PairRef) : List (List Int) := ps.map fun p => p.1.2.2
/-- the list behind 'add' -/
def addQ (ps : List PairRef) (p : PairRef) : List PairRef := if p.1.2.2 ∈ rootsQ ps then ps else ps ++ [p]
def AddPost (B bS bL bM gP m : Nat) (w : World) (ps' : List PairRef) (e : Ending) (w' : World) : Prop :=
  e = .returned (.tuple #[]) ∧ SmFr w w' bL gP bM ∧ ∃ gP' cP' nP' nM', SmSt w' B bS bL bM gP' cP' nP' nM' m ps' ∧ (gP' = gP ∨ w.heap.size ≤ gP')

end Go.Proofs.YtmjneokgnnbekaaGreatDoor
namespace Go.Proofs.YtmjneokgnnbekaaGreatDoor
set_option maxRecDepth 100000
open Go.RowKit Game
open Go.Maps (Keyed IsMap)

theorem vecLaidOutP : laidOutB Tryz.prog = true := by kernel_rfl
theorem vecRowP : (63 : TypeId) < Tryz.prog.types.size := of_decide_eq_true (by kernel_rfl)
theorem vecLawP : WideMaps.KeyLaw Tryz.prog 63 := deep_law_laid vecLaidOutP (m := 2) (by omega) vecRowP (by kernel_rfl) (by rw [Tryz.underlying63])
theorem vecKeyedP : Keyed Tryz.prog 63 := Keyed.of_law vecLawP
theorem vecArrP : WideMaps.ArrKey Tryz.prog 63 3 4 := ⟨Tryz.underlying63, by kernel_rfl, by kernel_rfl, by kernel_rfl⟩
theorem boolZeroP (w : World) : (zeroValue 4).run Tryz.prog w = .ok (.bool false) w := by kernel_rfl
theorem typesPosP : ∃ m, Tryz.prog.types.size = m + 1 := by
  have h : 0 < Tryz.prog.types.size := Nat.lt_of_le_of_lt (Nat.zero_le _) vecRowP
  generalize Tryz.prog.types.size = k at h
  exact ⟨k - 1, by omega⟩

def WfVP (v : List Int) : Prop := ∀ j, j < 4 → (Lit.int .i64 (v.getD j 0)).wf = true
def keyLP (v : List Int) : Lit := .string (keyBytes [.int .i64 (v.getD 0 0), .int .i64 (v.getD 1 0), .int .i64 (v.getD 2 0), .int .i64 (v.getD 3 0)])
theorem keyOf_vecP {v : List Int} (h : WfVP v) : keyOf Tryz.prog 63 (vecVal v) = some (keyLP v) := by
  have hkt := vecArrP.keyType typesPosP
  obtain ⟨m, hm⟩ := typesPosP
  have h0 := h 0 (by omega)
  have h1 := h 1 (by omega)
  have h2 := h 2 (by omega)
  have h3 := h 3 (by omega)
  unfold vecVal keyLP
  generalize v.getD 0 0 = x0 at *
  generalize v.getD 1 0 = x1 at *
  generalize v.getD 2 0 = x2 at *
  generalize v.getD 3 0 = x3 at *
  unfold keyOf
  simp only [vecArrP.hu]
  rw [if_pos (by simp [hkt, Value.formed, vecArrP.hu, vecArrP.size]), hm]
  unfold Program.keyLits
  simp only [vecArrP.hu, Value.cells]
  rw [if_pos (by rw [vecArrP.size]; rfl), show List.range 4 = [0, 1, 2, 3] from rfl, List.mapM_cons, List.mapM_cons, List.mapM_cons, List.mapM_cons, List.mapM_nil]
  simp [vecArrP.one, Program.keyLits, Tryz.underlying3, h0, h1, h2, h3]
theorem vecVal_injP {v u : List Int} (hl : v.length = u.length) (h4 : v.length ≤ 4) (h : vecVal v = vecVal u) : v = u := by
  unfold vecVal at h
  simp at h
  obtain ⟨h0, h1, h2, h3⟩ := h
  apply List.ext_getElem hl
  intro i hi hi'
  have : i = 0 ∨ i = 1 ∨ i = 2 ∨ i = 3 := by omega
  rcases this with rfl | rfl | rfl | rfl <;> simp_all
theorem keyL_injP {v u : List Int} (hv : WfVP v) (hu : WfVP u) (hl : v.length = u.length) (h4 : v.length ≤ 4) (h : keyLP v = keyLP u) : v = u :=
  vecVal_injP hl h4 (vecKeyedP.inj (keyOf_vecP hv) (by rw [h]; exact keyOf_vecP hu))

/-- block b is a map that holds just these vectors of m numbers -/
def SeenMP (w : World) (b n m : Nat) (ks : List (List Int)) : Prop :=
  ∃ D : DataW Unit, w.ownsMap Tryz.prog 63 (plainElem Tryz.prog 4) b n D ∧ IsMap D ∧ ∀ v : List Int, v.length = m → WfVP v → D.atKey (keyLP v) (.lit (.bool false)) = .lit (.bool (decide (v ∈ ks)))
section
variable {w w' : World} {b n m : Nat} {ks : List (List Int)}
theorem SeenMP.start (w : World) (m : Nat) : SeenMP (w.alloc (.map #[] 0)) w.heap.size 0 m [] :=
  ⟨.map [], World.ownsMap_made _ _ _ _, ⟨[], rfl⟩, fun v _ _ => by simp [DataW.atKey]⟩
theorem SeenMP.lt (h : SeenMP w b n m ks) : b < w.heap.size := by obtain ⟨D, h, -⟩ := h; exact h.lt
theorem SeenMP.grown {row : Option Nat} (h : SeenMP w b n m ks) (hg : w.grownBy w' row) (hne : some b ≠ row) : SeenMP w' b n m ks := by
  obtain ⟨D, h, h2⟩ := h; exact ⟨D, h.kept hg hne, h2⟩
theorem SeenMP.below {B : Nat} (h : SeenMP w b n m ks) (hb : Below B w w') (hB : b < B) : SeenMP w' b n m ks := by
  obtain ⟨D, ⟨es, clock, hh, r⟩, h2⟩ := h
  exact ⟨D, ⟨es, clock, (hb.block b hB).trans hh, r⟩, h2⟩
theorem SeenMP.still (h : SeenMP w b n m ks) (hs : ∃ k, w' = w.drewN k) : SeenMP w' b n m ks := by obtain ⟨k, rfl⟩ := hs; exact h
theorem plainElem_bool_invP {P : Program} {e : TypeId} (he : P.underlying e = some .bool) {v : Value} {z : DataW Unit × List MemPlace} (h : plainElem P e v = some z) : ∃ x, v = .bool x ∧ z = (.lit (.bool x), []) := by
  unfold plainElem at h
  rw [he] at h
  cases v <;> simp at h
  subst h
  exact ⟨_, rfl, rfl⟩
/-- 'seen[key]' -/
theorem wpList_seen_lookupP {ops : Array Oper} {rest : List Oper} {o : Oper} {a : Act} {Q : Exit → Act → World → Prop}
    (hg : o.guard = none) (x y : Operand) (hop : o.op = Op.lookup 84 x y false) (b n m : Nat) (ks : List (List Int)) (v : List Int) (hv : v.length = m) (hw : WfVP v)
    (hown : SeenMP w b n m ks) (hx : a.eval x = .map (some b)) (hy : a.eval y = vecVal v) (r : Bool) (hr : decide (v ∈ ks) = r)
    (hK : wpList Tryz.prog ops Q rest (a.put o.dst (.bool r)) w) :
    wpList Tryz.prog ops Q (o :: rest) a w := by
  refine wpList_plain hg fun K' hK' => ?_
  obtain ⟨D, hD, -, hat⟩ := hown
  obtain ⟨u, ps, hrun, hu⟩ := hD.lookup vecKeyedP Tryz.underlying84 (boolZeroP w) (plainElem_bool (H := Unit) Tryz.underlying4 false) (keyOf_vecP hw)
  obtain ⟨z, rfl, hz⟩ := plainElem_bool_invP Tryz.underlying4 hu
  rw [hat v hv hw] at hz
  simp at hz
  unfold Oper.wp
  simp [execOp, hop, hx, hy, hrun, Result.andThen]
  rw [← hz.1, hr]
  exact hK' _ _ hK
/-- 'seen[key] = true' -/
theorem wpList_seen_putP {ops : Array Oper} {rest : List Oper} {o : Oper} {a : Act} {Q : Exit → Act → World → Prop}
    (hg : o.guard = none) (x y z : Operand) (hop : o.op = Op.mapUpdate 84 x y z) (b n m : Nat) (ks : List (List Int)) (v : List Int) (hv : v.length = m) (h4 : m ≤ 4) (hw : WfVP v)
    (hown : SeenMP w b n m ks) (hn : n < 1048576) (hx : a.eval x = .map (some b)) (hy : a.eval y = vecVal v) (hz : a.eval z = .bool true)
    (hK : ∀ w', SeenMP w' b (n + 1) m (ks ++ [v]) → w.grownBy w' (some b) → wpList Tryz.prog ops Q rest (a.put o.dst undef) w') :
    wpList Tryz.prog ops Q (o :: rest) a w := by
  obtain ⟨D, hD, hmap, hat⟩ := hown
  refine wpList_mapUpdate_own w hg x y z _ hop _ _ vecKeyedP Tryz.underlying84 _ b n D hx hD (by unfold maxLen; omega) _ _ (keyLP v) hy hz (keyOf_vecP hw) _ [] (plainElem_bool (H := Unit) Tryz.underlying4 true) ?_
  intro w' hown' hgr
  refine hK w' ⟨_, hown', ?_, fun u hu hwu => ?_⟩ hgr
  · obtain ⟨es, rfl⟩ := hmap
    exact ⟨_, rfl⟩
  · by_cases e : u = v
    · subst e
      rw [Maps.atKey_put_same hmap (vecKeyedP.key (keyOf_vecP hw))]
      simp
    · have hne : keyLP u ≠ keyLP v := fun h => e (keyL_injP hwu hw (by omega) (by omega) h)
      rw [Maps.atKey_put_other hne, hat u hu hwu]
      simp [e]
end
end Go.Proofs.YtmjneokgnnbekaaGreatDoor

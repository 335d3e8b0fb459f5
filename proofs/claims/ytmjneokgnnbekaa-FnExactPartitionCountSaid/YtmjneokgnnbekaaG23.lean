/- Small roots by the reference: contract. append of elements of any number of cells to a slice of the call's own; slices of vectors; append of rows to rows. -/
import Derived.Test.YtmjneokgnnbekaaG21
import Derived.Test.YtmjneokgnnbekaaG22
import Derived.Test.YtmjneokgnnbekaaG20
import Derived.Test.YtmjneokgnnbekaaG05
namespace Go.Proofs.Ytmjneokgnnbekaa
set_option maxRecDepth 100000
open Go.RowKit Game

theorem OwnRows.other {w w' : World} {B B2 g g2 cap cap2 : Nat} {rs rs2 : List RowRef} (h : OwnRows w B g cap rs) (h2 : OwnRows w B2 g2 cap2 rs2) (hne : g ≠ g2) (hg : w.grownBy w' (some g2)) : OwnRows w' B g cap rs :=
  ⟨h.1.grown hg (fun e => hne (Option.some.inj e)), fun r hr => (h.2.1 r hr).grown hg (fun e => h2.1.ne (h.2.1 r hr).toV (by decide) (Option.some.inj e).symm), h.2.2⟩
theorem putsR_mem {x : List Int} : ∀ {L : List (List Int)}, x ∈ putsR L → x ∈ L := by
  have : ∀ (L a : List (List Int)), x ∈ L.foldl putR a → x ∈ L ∨ x ∈ a := by
    intro L
    induction L with
    | nil => intro a h; exact .inr h
    | cons y L ih =>
      intro a h
      rw [List.foldl_cons] at h
      rcases ih _ h with h1 | h1
      · exact .inl (List.mem_cons_of_mem _ h1)
      · rcases mem_putR.1 h1 with e | e
        · exact .inl (by rw [e]; simp)
        · exact .inr e
  intro L h
  rcases this L [] h with h | h
  · exact h
  · simp at h
/-- three lists of rows of the call's own -/
structure Tri (w : World) (B gT cT gO cO gD cD : Nat) (rsT rsO rsD : List RowRef) : Prop where
  t : OwnRows w B gT cT rsT
  o : OwnRows w B gO cO rsO
  d : OwnRows w B gD cD rsD
  to' : gT ≠ gO
  td : gT ≠ gD
  od : gO ≠ gD
section
variable {w w' : World} {B gT cT gO cO gD cD g' c' : Nat} {rsT rsO rsD rs' : List RowRef}
theorem Tri.below (h : Tri w B gT cT gO cO gD cD rsT rsO rsD) (hb : Below w.heap.size w w') : Tri w' B gT cT gO cO gD cD rsT rsO rsD := ⟨h.t.below hb, h.o.below hb, h.d.below hb, h.to', h.td, h.od⟩
theorem Tri.still (h : Tri w B gT cT gO cO gD cD rsT rsO rsD) (hs : ∃ n, w' = w.drewN n) : Tri w' B gT cT gO cO gD cD rsT rsO rsD := ⟨h.t.still hs, h.o.still hs, h.d.still hs, h.to', h.td, h.od⟩
theorem Tri.pushO (h : Tri w B gT cT gO cO gD cD rsT rsO rsD) (ho : OwnRows w' B g' c' rs') (hg : w.grownBy w' (some gO)) (hor : g' = gO ∨ w.heap.size < g') : Tri w' B gT cT g' c' gD cD rsT rs' rsD := by
  have h1 := h.t.lt
  have h2 := h.d.lt
  have a := h.to'; have b := h.od
  refine ⟨h.t.other h.o a hg, ho, h.d.other h.o (Ne.symm b) hg, ?_, h.td, ?_⟩
  · rcases hor with e | e
    · rw [e]; exact a
    · omega
  · rcases hor with e | e
    · rw [e]; exact b
    · omega
theorem Tri.pushD (h : Tri w B gT cT gO cO gD cD rsT rsO rsD) (ho : OwnRows w' B g' c' rs') (hg : w.grownBy w' (some gD)) (hor : g' = gD ∨ w.heap.size < g') : Tri w' B gT cT gO cO g' c' rsT rsO rs' := by
  have h1 := h.t.lt
  have h2 := h.o.lt
  have a := h.td; have b := h.od
  refine ⟨h.t.other h.d a hg, h.o.other h.d b hg, ho, h.to', ?_, ?_⟩
  · rcases hor with e | e
    · rw [e]; exact a
    · omega
  · rcases hor with e | e
    · rw [e]; exact b
    · omega
theorem Tri.ne3 (h : Tri w B gT cT gO cO gD cD rsT rsO rsD) {g3 c3 : Nat} {xs : List Int} (ho : Own w' w.heap.size g3 c3 xs) : (∀ s ∈ rsO, s.1 ≠ g3) ∧ ∀ s ∈ rsD, s.1 ≠ g3 :=
  ⟨fun s hs e => by have h1 := (h.o.2.1 s hs).lt; have h2 := ho.base; omega, fun s hs e => by have h1 := (h.d.2.1 s hs).lt; have h2 := ho.base; omega⟩
end
/-- roots and coroots, in two lists -/
structure InTwo (rsO rsD : List RowRef) (Q : List RPair) : Prop where
  o : contents rsO = Q.map (·.1)
  d : contents rsD = Q.map (·.2)
section
variable {rsO rsD : List RowRef} {Q : List RPair}
theorem InTwo.lo (h : InTwo rsO rsD Q) : rsO.length = Q.length := by have := congrArg List.length h.o; simpa [contents] using this
theorem InTwo.ld (h : InTwo rsO rsD Q) : rsD.length = Q.length := by have := congrArg List.length h.d; simpa [contents] using this
theorem InTwo.push (h : InTwo rsO rsD Q) (a b : RowRef) : InTwo (rsO ++ [a]) (rsD ++ [b]) (Q ++ [(a.2.2, b.2.2)]) :=
  ⟨by rw [contents_append, h.o, List.map_append]; rfl, by rw [contents_append, h.d, List.map_append]; rfl⟩
theorem InTwo.ato (h : InTwo rsO rsD Q) {k : Nat} (hk : k < rsO.length) : rsO[k].2.2 = (Q.getD k ([], [])).1 := by
  have h1 : (contents rsO).getD k [] = rsO[k].2.2 := by simp [contents, List.getD, hk]
  have hk' : k < Q.length := by rw [← h.lo]; exact hk
  rw [← h1, h.o]; simp [List.getD, hk']
theorem InTwo.atd (h : InTwo rsO rsD Q) {k : Nat} (hk : k < rsD.length) : rsD[k].2.2 = (Q.getD k ([], [])).2 := by
  have h1 : (contents rsD).getD k [] = rsD[k].2.2 := by simp [contents, List.getD, hk]
  have hk' : k < Q.length := by rw [← h.ld]; exact hk
  rw [← h1, h.d]; simp [List.getD, hk']
end
def smallB (c : List (List Int)) : Bool := (smR c).isSome
theorem small_none {c : List (List Int)} (h : smR c = none) : smallL c = [] ∧ smallB c = false := by unfold smallL smallB; rw [h]; exact ⟨rfl, rfl⟩
theorem small_some {c : List (List Int)} {Q : List RPair} (h : smR c = some Q) : smallL c = putsR (Q.map (·.1)) ∧ smallB c = true := by unfold smallL smallB; rw [h]; exact ⟨rfl, rfl⟩
theorem smStart_take (c : List (List Int)) (k : Nat) (hk : k < c.length) : (smStart c).take (k + 1) = (smStart c).take k ++ [(simpL c.length k, simpL c.length k)] := by
  rw [List.take_succ_eq_append_getElem (by rw [smStart_length]; exact hk)]
  simp [smStart]
theorem smStep_new {c t : List (List Int)} {Q : List RPair} {k i : Nat} {x y : List Int} (hQ : Q.getD k ([], []) = (x, y)) (h1 : pairL (c.getD i []) x < 0) (h2 : wrap64 (pairL (c.getD i []) x * pairL (t.getD i []) y) < 4) (h3 : mirL c i x ∉ Q.map (·.1)) : smStep c t Q k i = Q ++ [(mirL c i x, mirL t i y)] := by
  unfold smStep; rw [hQ]; exact if_pos ⟨h1, h2, h3⟩
theorem smStep_old {c t : List (List Int)} {Q : List RPair} {k i : Nat} {x y : List Int} (hQ : Q.getD k ([], []) = (x, y)) (h : ¬ (pairL (c.getD i []) x < 0 ∧ wrap64 (pairL (c.getD i []) x * pairL (t.getD i []) y) < 4 ∧ mirL c i x ∉ Q.map (·.1))) : smStep c t Q k i = Q := by
  unfold smStep; rw [hQ]; exact if_neg h

end Go.Proofs.Ytmjneokgnnbekaa
namespace Go.Proofs.Ytmjneokgnnbekaa
set_option maxRecDepth 100000
open Go.RowKit Game

/-! ### vectors -/
def vec4 (v : List Int) : List Value := [.int .i64 (v.getD 0 0), .int .i64 (v.getD 1 0), .int .i64 (v.getD 2 0), .int .i64 (v.getD 3 0)]
def flatV (vs : List (List Int)) : List Value := vs.flatMap vec4
theorem flatV_length (vs : List (List Int)) : (flatV vs).length = vs.length * 4 := by
  induction vs with
  | nil => rfl
  | cons v vs ih => unfold flatV at *; simp only [List.flatMap_cons, List.length_append, ih, List.length_cons]; simp [vec4]; omega
theorem flatV_append (a b : List (List Int)) : flatV (a ++ b) = flatV a ++ flatV b := by simp [flatV]
theorem flatV_at {vs : List (List Int)} {j i : Nat} (hj : j < vs.length) (hi : i < 4) : (flatV vs)[j * 4 + i]? = some (.int .i64 ((vs.getD j []).getD i 0)) := by
  induction vs generalizing j with
  | nil => simp at hj
  | cons v vs ih =>
    unfold flatV at *
    simp only [List.flatMap_cons]
    cases j with
    | zero =>
      rw [List.getElem?_append_left (by simp [vec4]; omega)]
      have : i = 0 ∨ i = 1 ∨ i = 2 ∨ i = 3 := by omega
      rcases this with rfl | rfl | rfl | rfl <;> rfl
    | succ j =>
      have := ih (j := j) (by simpa using hj)
      rw [List.getElem?_append_right (by simp [vec4]; omega)]
      have e : (j + 1) * 4 + i - (vec4 v).length = j * 4 + i := by simp [vec4]; omega
      rw [e, this]
      simp [List.getD]
section
variable {w w' : World} {B g cap : Nat} {vs : List (List Int)}
/-- 'append(out, rows...)' -/
theorem wpList_append_rows {ops : Array Oper} {rest : List Oper} {o : Oper} {a : Act} {Q : Exit → Act → World → Prop} (hgd : o.guard = none) (s x : Operand)
    (ho : o.op = .call { callee := .builtin .append, args := #[s, x], argTypes := #[22, 22] })
    (B g cap n g2 c2 m : Nat) (rs rs2 : List RowRef) (w : World) (hn : rs.length = n) (hm : rs2.length = m) (hown : OwnRows w B g cap rs) (hown2 : OwnRows w B g2 c2 rs2) (hne : ∀ r ∈ rs, ∀ s ∈ rs2, r.1 ≠ s.1)
    (hs : a.eval s = (Value.slice (some ⟨g, 0, none⟩) n cap)) (hx : a.eval x = (Value.slice (some ⟨g2, 0, none⟩) m c2)) (hlen : n + m ≤ 1048576)
    (h : ∀ g' cap' w', OwnRows w' B g' cap' (rs ++ rs2) → w.grownBy w' (some g) → (g' = g ∨ g' = w.heap.size) → wpList Try.prog ops Q rest (a.put o.dst (Value.slice (some ⟨g', 0, none⟩) (n + m) cap')) w') :
    wpList Try.prog ops Q (o :: rest) a w := by
  subst hn; subst hm
  have ho1 : OwnK w B 23 1 g cap rs.length (rs.map rowVal) := by have := hown.1; unfold OwnV at this; rw [List.length_map] at this; exact this
  refine wpList_append_K infoRow Try.underlying22 rfl (by decide) (by decide) hgd s x ho B g cap rs.length (rs.map rowVal) ho1 g2 0 rs2.length c2 (rs2.map rowVal) (by simp) ?_ ?_ hs hx hlen ?_
  · intro j u hu
    have hj : j < (rs2.map rowVal).length := (List.getElem?_eq_some_iff.1 hu).1
    rw [Nat.zero_add, hown2.1.cell j hj, ← hu, List.getElem?_eq_getElem hj]
  · intro u hu
    obtain ⟨r, -, rfl⟩ := List.mem_map.1 hu
    rfl
  · intro g' cap' w' h2 h3 h4
    refine h g' cap' w' ⟨?_, fun r hr => ?_, ?_⟩ h3 h4
    · unfold OwnV
      rw [List.map_append, List.length_append, List.length_map, List.length_map]
      exact h2
    · rcases List.mem_append.1 hr with hr | hr
      · exact (hown.2.1 r hr).grown h3 (fun e => hown.1.ne (hown.2.1 r hr).toV (by decide) (Option.some.inj e).symm)
      · exact (hown2.2.1 r hr).grown h3 (fun e => hown.1.ne (hown2.2.1 r hr).toV (by decide) (Option.some.inj e).symm)
    · rw [List.map_append, List.nodup_append]
      refine ⟨hown.2.2, hown2.2.2, fun x hx y hy => ?_⟩
      obtain ⟨r, hr, rfl⟩ := List.mem_map.1 hx
      obtain ⟨s, hs, rfl⟩ := List.mem_map.1 hy
      exact hne r hr s hs
end
end Go.Proofs.Ytmjneokgnnbekaa

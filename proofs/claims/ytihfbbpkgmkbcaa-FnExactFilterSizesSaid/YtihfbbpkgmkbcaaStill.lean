/- Worlds that only drew; an insertion into a list of rows under way. -/
import Derived.Test.YtihfbbpkgmkbcaaAppRow
import Derived.Test.YtihfbbpkgmkbcaaWd
namespace Go.Proofs.Ytihfbbpkgmkbcaa
set_option maxRecDepth 100000
namespace Game
end Game
open Go.RowKit

/-- a new list of rows of the call's own from block B0 on; the list itself is new -/
def GotPut (w : World) (B0 : Nat) (rows : List (List Int)) (e : Ending) (w' : World) : Prop :=
  ∃ g cap rs, e = .returned (Value.slice (some ⟨g, 0, none⟩) rows.length cap) ∧ contents rs = rows ∧ OwnRows w' B0 g cap rs ∧ w.heap.size ≤ g ∧ Below w.heap.size w w'

theorem GotPut.mk' {w w' : World} {B0 : Nat} {rows : List (List Int)} {n : Nat} (g cap : Nat) (rs : List RowRef) (hl : rs.length = n) (hc : contents rs = rows) (ho : OwnRows w' B0 g cap rs) (hg : w.heap.size ≤ g) (hb : Below w.heap.size w w') :
    GotPut w B0 rows (.returned (Value.slice (some ⟨g, 0, none⟩) n cap)) w' := by
  subst hl; subst hc
  exact ⟨g, cap, rs, by rw [contents_length], rfl, ho, hg, hb⟩

section
variable {w a b : World} {B B' : Nat}
theorem below_still (h : Below B w a) (hs : ∃ n, b = a.drewN n) : Below B w b := by obtain ⟨n, rfl⟩ := hs; exact below_drewN h n
theorem OwnRows.still {g cap : Nat} {rs : List RowRef} (h : OwnRows a B g cap rs) (hs : ∃ n, b = a.drewN n) : OwnRows b B g cap rs := by obtain ⟨n, rfl⟩ := hs; exact h
theorem Own.still {g cap : Nat} {xs : List Int} (h : Own a B g cap xs) (hs : ∃ n, b = a.drewN n) : Own b B g cap xs := by obtain ⟨n, rfl⟩ := hs; exact h
theorem OwnV.still {g cap : Nat} {E : TypeId} {xs : List Value} (h : OwnV a B E g cap xs) (hs : ∃ n, b = a.drewN n) : OwnV b B E g cap xs := by obtain ⟨n, rfl⟩ := hs; exact h
theorem Cells.still {g o : Nat} {xs : List Int} (h : Cells a g o xs) (hs : ∃ n, b = a.drewN n) : Cells b g o xs := by obtain ⟨n, rfl⟩ := hs; exact h
theorem Rows2.still {g o : Nat} {xs : List (List Int)} (h : Rows2 a g o xs) (hs : ∃ n, b = a.drewN n) : Rows2 b g o xs := by obtain ⟨n, rfl⟩ := hs; exact h
theorem size_still (hs : ∃ n, b = a.drewN n) : b.heap.size = a.heap.size := by obtain ⟨n, rfl⟩ := hs; rfl
theorem cell_still (hs : ∃ n, b = a.drewN n) (p : Addr) : b.cell? p = a.cell? p := by obtain ⟨n, rfl⟩ := hs; rfl
end

theorem still_trans {a b d : World} (h : ∃ n, b = a.drewN n) (k : ∃ n, d = b.drewN n) : ∃ n, d = a.drewN n := by
  obtain ⟨n, rfl⟩ := h
  obtain ⟨m, rfl⟩ := k
  exact ⟨n + m, by rw [World.drewN_drewN]⟩
/-- an insertion under way: H: the first new block; put: what an insertion gives -/
structure PutSt (put : List (List Int) → List (List Int)) (H : Nat) (rs : List RowRef) (i : Nat) (acc : List RowRef) (pl : Bool) : Prop where
  blocks : ∀ s ∈ acc, s ∈ rs.take i ∨ H ≤ s.1
  fin : contents acc ++ (if pl then contents (rs.drop i) else put (contents (rs.drop i))) = put (contents rs)
  len : acc.length ≤ i + 1
  lenF : pl = false → acc.length = i
section
variable {put : List (List Int) → List (List Int)} {H : Nat} {rs acc : List RowRef} {i : Nat} {pl : Bool}
theorem PutSt.start : PutSt put H rs 0 [] false := ⟨by simp, by simp [contents], by simp, by simp⟩
theorem contents_drop (rs : List RowRef) {i : Nat} (hi : i < rs.length) : contents (rs.drop i) = rs[i].2.2 :: contents (rs.drop (i + 1)) := by
  rw [List.drop_eq_getElem_cons hi]; rfl
theorem PutSt.step (h : PutSt put H rs i acc pl) (hi : i < rs.length) (new : List RowRef) (pl' : Bool) (hnew : ∀ s ∈ new, H ≤ s.1) (hl : acc.length + new.length ≤ i + 1) (hF : pl' = false → pl = false ∧ new = [])
    (hf : (if pl then contents (rs.drop i) else put (contents (rs.drop i))) = contents new ++ rs[i].2.2 :: (if pl' then contents (rs.drop (i + 1)) else put (contents (rs.drop (i + 1))))) :
    PutSt put H rs (i + 1) (acc ++ new ++ [rs[i]]) pl' := by
  refine ⟨?_, ?_, by simp; omega, ?_⟩
  · intro s hs
    rw [List.append_assoc, List.mem_append, List.mem_append, List.mem_singleton] at hs
    rcases hs with h1 | h1 | h1
    · rcases h.blocks s h1 with h2 | h2
      · left
        rw [List.take_succ_eq_append_getElem hi]
        exact List.mem_append_left _ h2
      · exact .inr h2
    · exact .inr (hnew s h1)
    · left
      rw [List.take_succ_eq_append_getElem hi, h1]
      exact List.mem_append_right _ (by simp)
  · rw [← h.fin, hf]
    simp [contents]
  · intro e
    have := hF e
    rw [this.2, List.append_nil, List.length_append, h.lenF this.1]; rfl
theorem PutSt.last (h : PutSt put H rs rs.length acc false) (r : RowRef) (hp : put [] = [r.2.2]) : contents (acc ++ [r]) = put (contents rs) := by
  have := h.fin
  simp [contents] at this ⊢
  rw [hp] at this
  exact this
theorem PutSt.done (h : PutSt put H rs rs.length acc true) : contents acc = put (contents rs) := by
  have := h.fin
  simpa [contents] using this
theorem PutSt.ne (h : PutSt put H rs i acc pl) (hnd : (rs.map (·.1)).Nodup) (hi : i < rs.length) (hH : rs[i].1 < H) : ∀ s ∈ acc, s.1 ≠ rs[i].1 := by
  intro s hs e
  rcases h.blocks s hs with h1 | h1
  · obtain ⟨t, ht, rfl⟩ := List.mem_iff_getElem.1 h1
    rw [List.length_take] at ht
    rw [List.getElem_take] at e
    have ht' : t < rs.length := by omega
    have h2 : (rs.map (·.1))[t]'(by simpa using ht') = (rs.map (·.1))[i]'(by simpa using hi) := by simpa using e
    have h3 := (List.getElem_inj hnd).1 h2
    omega
  · omega
end
end Go.Proofs.Ytihfbbpkgmkbcaa

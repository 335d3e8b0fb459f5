/- What a law wants to know of made lists of weights. -/
import Derived.Test.YtihfbbpkgmkbcaaG32
import Derived.Test.YtihfbbpkgmkbcaaG46
import Derived.Test.YtihfbbpkgmkbcaaG11
namespace Go.Proofs.Ytihfbbpkgmkbcaa
set_option maxRecDepth 100000
open Go.RowKit Game

theorem GotWB.held {w w' : World} {L : List Wt} {b : Bool} {e : Ending} (h : GotWB w L b e w') :
    ∃ g cap, e = .returned (.tuple #[(Value.slice (some ⟨g, 0, none⟩) L.length cap), .bool b]) ∧ HeldW w' w.heap.size w'.heap.size g cap L ∧ Below w.heap.size w w' := by
  obtain ⟨g, cap, rs, he, hc, ho, hb⟩ := h
  exact ⟨g, cap, he, ⟨rs, hc, ho, ho.lt, fun r hr => (ho.ofMem hr).lt⟩, hb⟩
theorem demL_ok (c : List (List Int)) (i : Int) (l : List Wt) : ((demL c i l).length ≤ 5000 ∧ CtW 1000000000 (demL c i l) ∧ LenW c.length (demL c i l)) ∧ (demL c i l = [] ∨ c.length ≤ 4) := by
  by_cases h : demOk c i l
  · rw [(demL_yes h).1]
    have h1 := demP_ok (r := colL c i.toNat) (i := i.toNat) (l := l) fun x hx => h.2.2.mem hx
    have hl := h.2.2.1
    have h2 := h1.canW (by omega)
    have h3 := ctW_canW (K := 1000) (by omega) h1.ct
    have h4 := h1.few
    exact ⟨⟨h2.2.2.2, h3.mono (by omega), h2.1⟩, .inr h.1.2.1⟩
  · rw [(demL_no h).1]
    exact ⟨⟨by simp, by intro x hx; simp at hx, by intro x hx; simp at hx⟩, .inl rfl⟩
theorem demL_few (c : List (List Int)) (i : Int) (l : List Wt) : wFew (demL c i l) := by
  obtain ⟨⟨h1, -, h3⟩, h4⟩ := demL_ok c i l
  refine ⟨by omega, fun j hj => ?_⟩
  rcases h4 with h | h
  · rw [h] at hj; simp at hj
  · have := h3 ((demL c i l).getD j ([], 0)) (by simp [List.getD, hj])
    unfold wOf; omega
end Go.Proofs.Ytihfbbpkgmkbcaa

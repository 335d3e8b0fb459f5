/- The program's summed: contract. -/
import Derived.Test.YtihfbbpkgmkbcaaG19
import Derived.Test.YtihfbbpkgmkbcaaG41
import Derived.Test.YtihfbbpkgmkbcaaG30
import Derived.Test.YtihfbbpkgmkbcaaG09
namespace Go.Proofs.Ytihfbbpkgmkbcaa
set_option maxRecDepth 100000
open Go.RowKit Game Stb

def GotCan (w : World) (l : List Wt) (e : Ending) (w' : World) : Prop :=
  ∃ (g cap : Nat) (rs : List WRef), e = .returned (Value.slice (some ⟨g, 0, none⟩) rs.length cap) ∧ contW rs = canW l ∧ OwnW w' w.heap.size g cap rs ∧ Below w.heap.size w w'
theorem GotCan.mk' {w w' : World} {l : List Wt} {n : Nat} (g cap : Nat) (rs : List WRef) (hn : rs.length = n) (hc : contW rs = canW l) (ho : OwnW w' w.heap.size g cap rs) (hb : Below w.heap.size w w') : GotCan w l (.returned (Value.slice (some ⟨g, 0, none⟩) n cap)) w' := by
  subst hn; exact ⟨g, cap, rs, rfl, hc, ho, hb⟩
def srefD : SRef := ⟨0, 0, 0, 0, [], 0⟩
theorem lst_getD {α : Type} (N : Nat) (d : Nat → α) (x : α) (k : Nat) (hk : k < N) : (lst N d).getD k x = d k := by simp [lst, List.getD, hk]
theorem lst_length {α : Type} (N : Nat) (d : Nat → α) : (lst N d).length = N := by simp [lst]
theorem lst_take {α : Type} (N : Nat) (d : Nat → α) (k : Nat) (hk : k ≤ N) : (lst N d).take k = lst k d := by
  unfold lst
  rw [← List.map_take, List.take_range, Nat.min_eq_left hk]
/-- what was read as weights -/
theorem wrows_refs {w : World} {g o : Nat} {l : List Wt} (h : WRows w g o l) (hf : wFew l) : ∃ d : Nat → SRef, (lst l.length d).map SRef.wt = l ∧ ∀ k, k < l.length → (w.cell? ⟨g, o + k * 2, none⟩ = some (d k).v1 ∧ w.cell? ⟨g, o + (k * 2 + 1), none⟩ = some (d k).v2) ∧ Rd w w.heap.size (d k) := by
  have h1 : ∀ i, i < l.length → ∃ x : SRef, x.wt = l.getD i ([], 0) ∧ (w.cell? ⟨g, o + i * 2, none⟩ = some x.v1 ∧ w.cell? ⟨g, o + (i * 2 + 1), none⟩ = some x.v2) ∧ Rd w w.heap.size x := fun i hi => by
    obtain ⟨gj, oj, cj, q1, q2, q3, q4, q5⟩ := h i hi
    exact ⟨⟨gj, oj, (wOf l i).length, cj, wOf l i, ctOf l i⟩, rfl, ⟨q1, q2⟩, by show gj ≠ w.heap.size; omega, q4, rfl, q3, hf.2 i hi, q5⟩
  obtain ⟨L, hL, hL2⟩ := list_of_all srefD l.length _ h1
  refine ⟨fun k => L.getD k srefD, ?_, fun k hk => (hL2 k hk).2⟩
  apply List.ext_getElem (by simp [lst])
  intro k k1 k2
  have := (hL2 k k2).1
  simp only [lst, List.getElem_map, List.getElem_range]
  rw [this]
  simp [List.getD, k2]
theorem srt_pair {N : Nat} {d : Nat → SRef} (h : Srt ltW d 0 N) : ((lst N d).map SRef.wt).Pairwise fun x y => ¬ downCmp y.1 x.1 < 0 := by
  rw [List.pairwise_map]
  unfold lst
  rw [List.pairwise_map, List.pairwise_iff_getElem]
  intro i j hi hj hij
  have hj' : j < N := by simpa using hj
  simp only [List.getElem_range]
  have := h i j (Nat.zero_le _) hij hj'
  unfold ltW ltOf cfW at this
  simpa [SRef.wt] using this
/-- as a list under sorting -/
def toS (r : WRef) : SRef := ⟨r.1.1, 0, r.1.2.2.length, r.1.2.1, r.1.2.2, r.2⟩
theorem flatW_fl (rs : List WRef) (d : Nat → SRef) (hd : ∀ k (hk : k < rs.length), d k = toS rs[k]) : flatW rs = fl rs.length d := by
  apply List.ext_getElem (by rw [flatW_length, fl_length])
  intro t h1 h2
  have ht : t < rs.length * 2 := by rw [flatW_length] at h1; exact h1
  have hk : t / 2 < rs.length := by omega
  obtain ⟨f1, f2⟩ := flatW_at rs [] (t / 2) hk
  rw [List.append_nil] at f1 f2
  simp only [fl, List.getElem_map, List.getElem_range]
  have hdk := hd (t / 2) hk
  rcases Nat.mod_two_eq_zero_or_one t with hm | hm
  · have e : t / 2 * 2 = t := by omega
    rw [e, List.getElem?_eq_getElem h1] at f1
    rw [if_pos hm, hdk]
    exact Option.some.inj f1
  · have e : t / 2 * 2 + 1 = t := by omega
    rw [e, List.getElem?_eq_getElem h1] at f2
    rw [if_neg (by omega), hdk]
    exact Option.some.inj f2
theorem OwnW.sst {w : World} {B g cap : Nat} {rs : List WRef} (h : OwnW w B g cap rs) (hf : ∀ r ∈ rs, r.1.2.2.length ≤ 1048576) : ∃ d, SSt w w B g cap rs.length d ∧ lst rs.length d = rs.map toS := by
  refine ⟨fun k => toS (rs.getD k ((0, 0, []), 0)), ⟨?_, fun k hk => ?_, World.grownBy.refl _ _⟩, ?_⟩
  · rw [← flatW_fl rs _ (fun k hk => by simp [List.getD, hk])]
    exact h.1
  · have hm : rs[k] ∈ rs := List.getElem_mem hk
    have ho := h.ofMem hm
    have e : rs.getD k ((0, 0, []), 0) = rs[k] := by simp [List.getD, hk]
    simp only [e]
    exact ⟨fun e => h.ne ho e.symm, ho.lt, rfl, ho.capLe, hf _ hm, ho.cells⟩
  · apply List.ext_getElem (by simp [lst])
    intro k h1 h2
    have hk : k < rs.length := by simpa using h2
    simp [lst, List.getD, hk]
/-- back from there: some of them left -/
theorem sst_back {w W : World} {B g cap M : Nat} {rs : List WRef} {d : Nat → SRef} (h : OwnW w B g cap rs) (S : SSt w W B g cap M d) (hd : lst M d = (rs.map toS).filter nzS) :
    OwnW W B g cap (rs.filter fun r => !(r.2 == 0)) ∧ (rs.filter fun r => !(r.2 == 0)).length = M := by
  have e : (rs.map toS).filter nzS = (rs.filter fun r => !(r.2 == 0)).map toS := by rw [List.filter_map]; rfl
  rw [e] at hd
  have hl : (rs.filter fun r => !(r.2 == 0)).length = M := by
    have := congrArg List.length hd
    rw [lst_length, List.length_map] at this
    exact this.symm
  have hk : ∀ k (hk : k < (rs.filter fun r => !(r.2 == 0)).length), d k = toS (rs.filter fun r => !(r.2 == 0))[k] := fun k hk => by
    have h1 := lst_getD M d srefD k (by omega)
    rw [hd] at h1
    rw [← h1]
    simp [List.getD, hk]
  have hf := flatW_fl _ d hk
  rw [hl] at hf
  refine ⟨⟨by rw [hf, hl]; exact S.own, fun r hr => ?_, ?_⟩, hl⟩
  · obtain ⟨s, hs, rfl⟩ := List.mem_map.1 hr
    have hs' := (List.mem_filter.1 hs).1
    have ho := h.ofMem hs'
    exact ho.grown S.grown (fun e => h.ne ho (Option.some.inj e).symm)
  · exact (List.Sublist.map _ (List.filter_sublist.map _)).nodup h.2.2
theorem cont_filter (rs : List WRef) : contW (rs.filter fun r => !(r.2 == 0)) = (contW rs).filter fun x => !(x.2 == 0) := by
  unfold contW
  rw [List.filter_map]
  rfl
end Go.Proofs.Ytihfbbpkgmkbcaa

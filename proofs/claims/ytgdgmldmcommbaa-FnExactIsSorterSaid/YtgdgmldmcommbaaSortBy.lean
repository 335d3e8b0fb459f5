/- SortBy, the program's and the reference's: contracts. -/
import Derived.Test.YtgdgmldmcommbaaSort
namespace Go.Proofs.Ytgdgmldmcommbaa
open Go.RowKit

def sortBy (xs ws : List Int) : List Int := ws.foldl sortStep xs
theorem sortBy_length (xs ws : List Int) : (sortBy xs ws).length = xs.length := by
  unfold sortBy
  induction ws generalizing xs with
  | nil => rfl
  | cons i ws ih => simp only [List.foldl_cons]; rw [ih, sortStep_length]
theorem foldl_take_succ {α : Type} (f : α → Int → α) (a : α) (ws : List Int) (k : Nat) (hk : k < ws.length) : (ws.take (k + 1)).foldl f a = f ((ws.take k).foldl f a) (ws[k]) := by
  rw [List.take_succ_eq_append_getElem hk, List.foldl_append]; rfl
theorem sortBy_succ (xs ws : List Int) (k : Nat) (hk : k < ws.length) : sortBy xs (ws.take (k + 1)) = sortStep (sortBy xs (ws.take k)) ws[k] := foldl_take_succ _ _ _ _ hk

set_option maxHeartbeats 400000 in
theorem impl_SortBy_any (g o n c g2 o2 n2 c2 : Nat) (xs ws : List Int) (w : World) (hn : xs.length = n) (hx : xs.length ≤ 1048576) (hg : g < w.heap.size) (hc : Cells w g o xs)
    (hn2 : ws.length = n2) (hx2 : ws.length ≤ 1048576) (hg2 : g2 < w.heap.size) (hc2 : Cells w g2 o2 ws) :
    Calls Try.prog 30 #[(Value.slice (some ⟨g, o, none⟩) n c), (Value.slice (some ⟨g2, o2, none⟩) n2 c2)] w (GotInts w (sortBy xs ws)) := by
  subst hn; subst hn2
  go_enter Try.func30, Try.ntmps30
  go_wp2_with (at_builtin; refine wpList_clone rfl _ _ rfl g o _ c xs rfl hg hc rfl rfl (by omega) ?_)
  intro g1 c1 w1 ho hb
  go_wp2
  go_loopw [5, 13] (fun v i wr => ∃ k g' c' : Nat, k ≤ ws.length ∧ i = .int .i64 k ∧ v = (Value.slice (some ⟨g', 0, none⟩) xs.length c') ∧ Own wr w.heap.size g' c' (sortBy xs (ws.take k)) ∧ Below w.heap.size w wr) (fun _ i _ => ws.length - (intOf i).toNat)
  case atStart => exact ⟨0, g1, c1, Nat.zero_le _, rfl, rfl, ho, hb⟩
  case round =>
    obtain ⟨k, g', c', hk, rfl, rfl, ho', hb'⟩ := hrel
    by_cases hlt : k < ws.length
    · have h1 := hc2.below hb' hg2 k hlt
      go_wp2_with fail
      refine (impl_SortStep_any g' 0 _ c' (sortBy xs (ws.take k)) ws[k] _ (sortBy_length _ _) (by rw [sortBy_length]; exact hx) ho'.lt ho'.cells).mono ?_
      rintro e w2 ⟨g3, c3, rfl, ho3, hb3⟩
      rw [← sortBy_succ _ _ _ hlt] at ho3 ⊢
      rw [sortBy_length]
      go_wp2
      go_roundw
      case rel => exact ⟨k + 1, g3, c3, by omega, by go_num, rfl, ho3.mono hb'.size, hb'.trans (hb3.mono hb'.size)⟩
      case measure => simp [intOf]; omega
    · obtain rfl : k = ws.length := by omega
      go_wp2
      go_ret
      rw [List.take_length] at ho'
      exact GotInts.mk' g' c' (sortBy_length _ _) ho' hb'

set_option maxHeartbeats 400000 in
theorem spec_SortBy_any (g o n c g2 o2 n2 c2 : Nat) (xs ws : List Int) (w : World) (hn : xs.length = n) (hx : xs.length ≤ 1048576) (hg : g < w.heap.size) (hc : Cells w g o xs)
    (hn2 : ws.length = n2) (hx2 : ws.length ≤ 1048576) (hg2 : g2 < w.heap.size) (hc2 : Cells w g2 o2 ws) :
    Calls Try.prog 29 #[(Value.slice (some ⟨g, o, none⟩) n c), (Value.slice (some ⟨g2, o2, none⟩) n2 c2)] w (GotInts w (sortBy xs ws)) := by
  subst hn; subst hn2
  go_enter Try.func29, Try.ntmps29
  go_wp2_with (at_builtin; refine wpList_clone rfl _ _ rfl g o _ c xs rfl hg hc rfl rfl (by omega) ?_)
  intro g1 c1 w1 ho hb
  go_wp2
  go_loopw [5, 6] (fun v i wr => ∃ k g' c' : Nat, k ≤ ws.length ∧ i = .int .i64 k ∧ v = (Value.slice (some ⟨g', 0, none⟩) xs.length c') ∧ Own wr w.heap.size g' c' (sortBy xs (ws.take k)) ∧ Below w.heap.size w wr) (fun _ i _ => ws.length - (intOf i).toNat)
  case atStart => exact ⟨0, g1, c1, Nat.zero_le _, rfl, rfl, ho, hb⟩
  case round =>
    obtain ⟨k, g', c', hk, rfl, rfl, ho', hb'⟩ := hrel
    by_cases hlt : k < ws.length
    · have h1 := hc2.below hb' hg2 k hlt
      go_wp2_with fail
      refine (spec_SortStep_any g' 0 _ c' (sortBy xs (ws.take k)) ws[k] _ (sortBy_length _ _) (by rw [sortBy_length]; exact hx) ho'.lt ho'.cells).mono ?_
      rintro e w2 ⟨g3, c3, rfl, ho3, hb3⟩
      rw [← sortBy_succ _ _ _ hlt] at ho3 ⊢
      rw [sortBy_length]
      go_wp2
      go_roundw
      case rel => exact ⟨k + 1, g3, c3, by omega, by go_num, rfl, ho3.mono hb'.size, hb'.trans (hb3.mono hb'.size)⟩
      case measure => simp [intOf]; omega
    · obtain rfl : k = ws.length := by omega
      go_wp2
      go_ret
      rw [List.take_length] at ho'
      exact GotInts.mk' g' c' (sortBy_length _ _) ho' hb'
end Go.Proofs.Ytgdgmldmcommbaa

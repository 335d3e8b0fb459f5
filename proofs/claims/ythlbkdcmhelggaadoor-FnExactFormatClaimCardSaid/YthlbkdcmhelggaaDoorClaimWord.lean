/- ClaimWord: contracts. -/
import Derived.Test.YthlbkdcmhelggaaDoorNet
import Derived.WalkLawsBesides
namespace Go.Proofs.YthlbkdcmhelggaaDoor
open Go.RowKit

def claimWord (k : Int) : ByteArray :=
  if k = 1 then ⟨#[114, 101, 100, 117, 99, 101, 100]⟩ else if k = 2 then ⟨#[101, 113, 117, 97, 108]⟩ else if k = 3 then ⟨#[98, 101, 108, 111, 119]⟩
  else if k = 4 then ⟨#[110, 111, 116, 98, 101, 108, 111, 119]⟩ else if k = 5 then ⟨#[105, 110, 102, 105, 110, 105, 116, 101]⟩ else if k = 6 then ⟨#[115, 111, 114, 116, 115]⟩ else ⟨#[]⟩

theorem impl_ClaimWord_any (k : Int) (w : World) : Calls Tryd.prog 18 #[.int .i64 k] w (Reads w (.string (claimWord k))) := by
  by_cases h1 : k = 1
  · subst h1; go_enter Tryd.func18, Tryd.ntmps18; go_wp2; go_ret; exact ⟨rfl, 0, rfl⟩
  by_cases h2 : k = 2
  · subst h2; go_enter Tryd.func18, Tryd.ntmps18; go_wp2; go_ret; exact ⟨rfl, 0, rfl⟩
  by_cases h3 : k = 3
  · subst h3; go_enter Tryd.func18, Tryd.ntmps18; go_wp2; go_ret; exact ⟨rfl, 0, rfl⟩
  by_cases h4 : k = 4
  · subst h4; go_enter Tryd.func18, Tryd.ntmps18; go_wp2; go_ret; exact ⟨rfl, 0, rfl⟩
  by_cases h5 : k = 5
  · subst h5; go_enter Tryd.func18, Tryd.ntmps18; go_wp2; go_ret; exact ⟨rfl, 0, rfl⟩
  by_cases h6 : k = 6
  · subst h6; go_enter Tryd.func18, Tryd.ntmps18; go_wp2; go_ret; exact ⟨rfl, 0, rfl⟩
  have d1 : (k == 1) = false := by simpa using h1
  have d2 : (k == 2) = false := by simpa using h2
  have d3 : (k == 3) = false := by simpa using h3
  have d4 : (k == 4) = false := by simpa using h4
  have d5 : (k == 5) = false := by simpa using h5
  have d6 : (k == 6) = false := by simpa using h6
  have e : claimWord k = ⟨#[]⟩ := by simp [claimWord, h1, h2, h3, h4, h5, h6]
  rw [e]
  clear e h1 h2 h3 h4 h5 h6
  go_enter Tryd.func18, Tryd.ntmps18; go_wp2; go_ret; exact ⟨rfl, 0, rfl⟩

set_option maxHeartbeats 1000000 in
theorem spec_ClaimWord_any (k : Int) (w : World) : Calls Tryd.prog 11 #[.int .i64 k] w (Gives w (.string (claimWord k))) := by
  by_cases hr : 1 ≤ k ∧ k ≤ 6
  · have hl := spec_l1In_any k 1 6 w
    rw [decide_eq_true hr] at hl
    have Hl := Lib.hid hl; clear hl
    have : k = 1 ∨ k = 2 ∨ k = 3 ∨ k = 4 ∨ k = 5 ∨ k = 6 := by omega
    rcases this with rfl | rfl | rfl | rfl | rfl | rfl
    all_goals
      go_enter Tryd.func11, Tryd.ntmps11
      go_wp2_with fail
      refine Hl.out.mono ?_
      rintro e w1 ⟨rfl, m, rfl⟩
      have hcell : ∀ j, ((w.drewN m).alloc (.cells #[.string ⟨#[114, 101, 100, 117, 99, 101, 100]⟩, .string ⟨#[101, 113, 117, 97, 108]⟩, .string ⟨#[98, 101, 108, 111, 119]⟩, .string ⟨#[110, 111, 116, 98, 101, 108, 111, 119]⟩, .string ⟨#[105, 110, 102, 105, 110, 105, 116, 101]⟩, .string ⟨#[115, 111, 114, 116, 115]⟩] 9)).cell? ⟨w.heap.size, j, none⟩ = (#[.string ⟨#[114, 101, 100, 117, 99, 101, 100]⟩, .string ⟨#[101, 113, 117, 97, 108]⟩, .string ⟨#[98, 101, 108, 111, 119]⟩, .string ⟨#[110, 111, 116, 98, 101, 108, 111, 119]⟩, .string ⟨#[105, 110, 102, 105, 110, 105, 116, 101]⟩, .string ⟨#[115, 111, 114, 116, 115]⟩] : Array Value)[j]? := fun j => World.cell?_alloc_at _ _ _ _ rfl
      go_wp2
      go_ret
      exact ⟨rfl, (below_drewN' w m).alloc (Nat.le_refl _) _⟩
  · have hl := spec_l1In_any k 1 6 w
    rw [decide_eq_false hr] at hl
    have Hl := Lib.hid hl; clear hl
    have e : claimWord k = ⟨#[]⟩ := by
      unfold claimWord
      rw [if_neg (by omega), if_neg (by omega), if_neg (by omega), if_neg (by omega), if_neg (by omega), if_neg (by omega)]
    rw [e]
    go_enter Tryd.func11, Tryd.ntmps11
    go_wp2_with fail
    refine Hl.out.mono ?_
    rintro e w1 ⟨rfl, m, rfl⟩
    go_wp2
    go_ret
    exact ⟨rfl, below_drewN' w m⟩
end Go.Proofs.YthlbkdcmhelggaaDoor

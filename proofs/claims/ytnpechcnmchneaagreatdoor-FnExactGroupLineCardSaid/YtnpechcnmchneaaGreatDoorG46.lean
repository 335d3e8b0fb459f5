/- SizeByName of the program at names of parts: contract. -/
import Derived.Test.YtnpechcnmchneaaGreatDoorG45
namespace Go.Proofs.YtnpechcnmchneaaGreatDoor
set_option maxRecDepth 100000
open Go.RowKit
open Go.Lib (join)

set_option maxHeartbeats 400000 in
theorem impl_sizeT_0 (w : World) : Calls Tryz.prog 130 #[.string ⟨#[65, 49]⟩] w (Reads w (.int .i64 (sizeT (names17.getD 0 [])))) := by
  have e : sizeT (names17.getD 0 []) = 2 := by decide
  rw [e]
  clear e
  go_enter Tryz.func130, Tryz.ntmps130
  go_wp2_with fail
  go_ret
  exact ⟨rfl, 0, rfl⟩
set_option maxHeartbeats 400000 in
theorem impl_sizeT_1 (w : World) : Calls Tryz.prog 130 #[.string ⟨#[65, 50]⟩] w (Reads w (.int .i64 (sizeT (names17.getD 1 [])))) := by
  have e : sizeT (names17.getD 1 []) = 6 := by decide
  rw [e]
  clear e
  go_enter Tryz.func130, Tryz.ntmps130
  go_wp2_with fail
  go_ret
  exact ⟨rfl, 0, rfl⟩
set_option maxHeartbeats 400000 in
theorem impl_sizeT_2 (w : World) : Calls Tryz.prog 130 #[.string ⟨#[65, 51]⟩] w (Reads w (.int .i64 (sizeT (names17.getD 2 [])))) := by
  have e : sizeT (names17.getD 2 []) = 24 := by decide
  rw [e]
  clear e
  go_enter Tryz.func130, Tryz.ntmps130
  go_wp2_with fail
  go_ret
  exact ⟨rfl, 0, rfl⟩
set_option maxHeartbeats 400000 in
theorem impl_sizeT_3 (w : World) : Calls Tryz.prog 130 #[.string ⟨#[65, 52]⟩] w (Reads w (.int .i64 (sizeT (names17.getD 3 [])))) := by
  have e : sizeT (names17.getD 3 []) = 120 := by decide
  rw [e]
  clear e
  go_enter Tryz.func130, Tryz.ntmps130
  go_wp2_with fail
  go_ret
  exact ⟨rfl, 0, rfl⟩
set_option maxHeartbeats 400000 in
theorem impl_sizeT_4 (w : World) : Calls Tryz.prog 130 #[.string ⟨#[66, 50]⟩] w (Reads w (.int .i64 (sizeT (names17.getD 4 [])))) := by
  have e : sizeT (names17.getD 4 []) = 8 := by decide
  rw [e]
  clear e
  go_enter Tryz.func130, Tryz.ntmps130
  go_wp2_with fail
  go_ret
  exact ⟨rfl, 0, rfl⟩
set_option maxHeartbeats 400000 in
theorem impl_sizeT_5 (w : World) : Calls Tryz.prog 130 #[.string ⟨#[66, 51]⟩] w (Reads w (.int .i64 (sizeT (names17.getD 5 [])))) := by
  have e : sizeT (names17.getD 5 []) = 48 := by decide
  rw [e]
  clear e
  go_enter Tryz.func130, Tryz.ntmps130
  go_wp2_with fail
  go_ret
  exact ⟨rfl, 0, rfl⟩
set_option maxHeartbeats 400000 in
theorem impl_sizeT_6 (w : World) : Calls Tryz.prog 130 #[.string ⟨#[66, 52]⟩] w (Reads w (.int .i64 (sizeT (names17.getD 6 [])))) := by
  have e : sizeT (names17.getD 6 []) = 384 := by decide
  rw [e]
  clear e
  go_enter Tryz.func130, Tryz.ntmps130
  go_wp2_with fail
  go_ret
  exact ⟨rfl, 0, rfl⟩
set_option maxHeartbeats 400000 in
theorem impl_sizeT_7 (w : World) : Calls Tryz.prog 130 #[.string ⟨#[67, 51]⟩] w (Reads w (.int .i64 (sizeT (names17.getD 7 [])))) := by
  have e : sizeT (names17.getD 7 []) = 48 := by decide
  rw [e]
  clear e
  go_enter Tryz.func130, Tryz.ntmps130
  go_wp2_with fail
  go_ret
  exact ⟨rfl, 0, rfl⟩
set_option maxHeartbeats 400000 in
theorem impl_sizeT_8 (w : World) : Calls Tryz.prog 130 #[.string ⟨#[67, 52]⟩] w (Reads w (.int .i64 (sizeT (names17.getD 8 [])))) := by
  have e : sizeT (names17.getD 8 []) = 384 := by decide
  rw [e]
  clear e
  go_enter Tryz.func130, Tryz.ntmps130
  go_wp2_with fail
  go_ret
  exact ⟨rfl, 0, rfl⟩
set_option maxHeartbeats 400000 in
theorem impl_sizeT_9 (w : World) : Calls Tryz.prog 130 #[.string ⟨#[68, 52]⟩] w (Reads w (.int .i64 (sizeT (names17.getD 9 [])))) := by
  have e : sizeT (names17.getD 9 []) = 192 := by decide
  rw [e]
  clear e
  go_enter Tryz.func130, Tryz.ntmps130
  go_wp2_with fail
  go_ret
  exact ⟨rfl, 0, rfl⟩
set_option maxHeartbeats 400000 in
theorem impl_sizeT_10 (w : World) : Calls Tryz.prog 130 #[.string ⟨#[70, 52]⟩] w (Reads w (.int .i64 (sizeT (names17.getD 10 [])))) := by
  have e : sizeT (names17.getD 10 []) = 1152 := by decide
  rw [e]
  clear e
  go_enter Tryz.func130, Tryz.ntmps130
  go_wp2_with fail
  go_ret
  exact ⟨rfl, 0, rfl⟩
set_option maxHeartbeats 400000 in
theorem impl_sizeT_11 (w : World) : Calls Tryz.prog 130 #[.string ⟨#[71, 50]⟩] w (Reads w (.int .i64 (sizeT (names17.getD 11 [])))) := by
  have e : sizeT (names17.getD 11 []) = 12 := by decide
  rw [e]
  clear e
  go_enter Tryz.func130, Tryz.ntmps130
  go_wp2_with fail
  go_ret
  exact ⟨rfl, 0, rfl⟩
set_option maxHeartbeats 400000 in
theorem impl_sizeT_12 (w : World) : Calls Tryz.prog 130 #[.string ⟨#[65, 49, 126]⟩] w (Reads w (.int .i64 (sizeT (names17.getD 12 [])))) := by
  have e : sizeT (names17.getD 12 []) = 0 := by decide
  rw [e]
  clear e
  go_enter Tryz.func130, Tryz.ntmps130
  go_wp2_with fail
  go_ret
  exact ⟨rfl, 0, rfl⟩
set_option maxHeartbeats 400000 in
theorem impl_sizeT_13 (w : World) : Calls Tryz.prog 130 #[.string ⟨#[65, 50, 126]⟩] w (Reads w (.int .i64 (sizeT (names17.getD 13 [])))) := by
  have e : sizeT (names17.getD 13 []) = 0 := by decide
  rw [e]
  clear e
  go_enter Tryz.func130, Tryz.ntmps130
  go_wp2_with fail
  go_ret
  exact ⟨rfl, 0, rfl⟩
set_option maxHeartbeats 400000 in
theorem impl_sizeT_14 (w : World) : Calls Tryz.prog 130 #[.string ⟨#[65, 51, 126]⟩] w (Reads w (.int .i64 (sizeT (names17.getD 14 [])))) := by
  have e : sizeT (names17.getD 14 []) = 0 := by decide
  rw [e]
  clear e
  go_enter Tryz.func130, Tryz.ntmps130
  go_wp2_with fail
  go_ret
  exact ⟨rfl, 0, rfl⟩
set_option maxHeartbeats 400000 in
theorem impl_sizeT_15 (w : World) : Calls Tryz.prog 130 #[.string ⟨#[67, 50, 126]⟩] w (Reads w (.int .i64 (sizeT (names17.getD 15 [])))) := by
  have e : sizeT (names17.getD 15 []) = 0 := by decide
  rw [e]
  clear e
  go_enter Tryz.func130, Tryz.ntmps130
  go_wp2_with fail
  go_ret
  exact ⟨rfl, 0, rfl⟩
set_option maxHeartbeats 400000 in
theorem impl_sizeT_16 (w : World) : Calls Tryz.prog 130 #[.string ⟨#[71, 50, 126]⟩] w (Reads w (.int .i64 (sizeT (names17.getD 16 [])))) := by
  have e : sizeT (names17.getD 16 []) = 0 := by decide
  rw [e]
  clear e
  go_enter Tryz.func130, Tryz.ntmps130
  go_wp2_with fail
  go_ret
  exact ⟨rfl, 0, rfl⟩
set_option maxHeartbeats 400000 in
theorem impl_sizeT_17 (w : World) : Calls Tryz.prog 130 #[.string ⟨#[63]⟩] w (Reads w (.int .i64 (sizeT (names17.getD 17 [])))) := by
  have e : sizeT (names17.getD 17 []) = 0 := by decide
  rw [e]
  clear e
  go_enter Tryz.func130, Tryz.ntmps130
  go_wp2_with fail
  go_ret
  exact ⟨rfl, 0, rfl⟩
theorem impl_sizeOfType_ok (s : Bs) (hs : s ∈ names17) (w : World) : Calls Tryz.prog 130 #[.string ⟨s.toArray⟩] w (Reads w (.int .i64 (sizeT s))) := by
  have hl : names17.length = 18 := rfl
  obtain ⟨k, hk, e⟩ := List.mem_iff_getElem.1 hs
  have e2 : names17.getD k [] = s := by simp [List.getD, hk, e]
  rw [hl] at hk
  have : k = 0 ∨ k = 1 ∨ k = 2 ∨ k = 3 ∨ k = 4 ∨ k = 5 ∨ k = 6 ∨ k = 7 ∨ k = 8 ∨ k = 9 ∨ k = 10 ∨ k = 11 ∨ k = 12 ∨ k = 13 ∨ k = 14 ∨ k = 15 ∨ k = 16 ∨ k = 17 := by omega
  rw [← e2]
  clear e e2 hs hl
  rcases this with rfl | rfl | rfl | rfl | rfl | rfl | rfl | rfl | rfl | rfl | rfl | rfl | rfl | rfl | rfl | rfl | rfl | rfl
  · exact impl_sizeT_0 w
  · exact impl_sizeT_1 w
  · exact impl_sizeT_2 w
  · exact impl_sizeT_3 w
  · exact impl_sizeT_4 w
  · exact impl_sizeT_5 w
  · exact impl_sizeT_6 w
  · exact impl_sizeT_7 w
  · exact impl_sizeT_8 w
  · exact impl_sizeT_9 w
  · exact impl_sizeT_10 w
  · exact impl_sizeT_11 w
  · exact impl_sizeT_12 w
  · exact impl_sizeT_13 w
  · exact impl_sizeT_14 w
  · exact impl_sizeT_15 w
  · exact impl_sizeT_16 w
  · exact impl_sizeT_17 w

/-- the product of the sizes -/
def prodT (L : List Bs) : Int := L.foldl (fun a s => a * sizeT s) 1
theorem prodT_succ (L : List Bs) (k : Nat) (hk : k < L.length) : prodT (L.take (k + 1)) = prodT (L.take k) * sizeT (L.getD k []) := by
  have e : L.take (k + 1) = L.take k ++ [L[k]] := List.take_succ_eq_append_getElem hk
  have e2 : L.getD k [] = L[k] := by simp [List.getD, hk]
  rw [e, e2]
  unfold prodT
  rw [List.foldl_append]
  rfl
def pw : Nat → Int
  | 0 => 1
  | k + 1 => pw k * 1152
theorem pw_le {k : Nat} (h : k ≤ 4) : pw k ≤ 1761205026816 ∧ 1 ≤ pw k := by
  have : k = 0 ∨ k = 1 ∨ k = 2 ∨ k = 3 ∨ k = 4 := by omega
  rcases this with rfl | rfl | rfl | rfl | rfl <;> decide
theorem mulT {x y p : Int} (hx : 0 ≤ x ∧ x ≤ p) (hy : 0 ≤ y ∧ y ≤ 1152) : 0 ≤ x * y ∧ x * y ≤ p * 1152 := by
  refine ⟨Int.mul_nonneg hx.1 hy.1, ?_⟩
  have h1 : x * y ≤ x * 1152 := Int.mul_le_mul_of_nonneg_left hy.2 hx.1
  have h2 : x * 1152 ≤ p * 1152 := Int.mul_le_mul_of_nonneg_right hx.2 (by omega)
  omega
theorem prodT_bound {L : List Bs} (h : ∀ s ∈ L, s ∈ names17) : ∀ k, k ≤ L.length → 0 ≤ prodT (L.take k) ∧ prodT (L.take k) ≤ pw k
  | 0, _ => by simp [prodT, pw]
  | k + 1, hk => by
    have ih := prodT_bound h k (by omega)
    rw [prodT_succ L k (by omega)]
    have hm : L.getD k [] ∈ names17 := h _ (by simp [List.getD, show k < L.length by omega])
    have h2 := names_noX _ hm
    exact mulT ih ⟨h2.2.2.2.1, h2.2.2.2.2⟩

set_option maxHeartbeats 1000000 in
theorem impl_SizeByName_ok (L : List Bs) (w : World) (hL : L ≠ []) (hl4 : L.length ≤ 4) (h : ∀ s ∈ L, s ∈ names17) (hm : MaxL w) :
    Calls Tryz.prog 80 #[.string ⟨(join L [120]).toArray⟩] w (Gives w (.int .i64 (prodT L))) := by
  have hs := split_ok 120 L w hL (by omega) (fun x hx => (names_noX _ (h x hx)).1) (by have := join_len 120 L (fun x hx => (names_noX _ (h x hx)).2.1); omega) hm
  have HS := Lib.hid hs
  have HZ := Lib.hid (fun k (hk : k < L.length) W => impl_sizeOfType_ok (L.getD k []) (h _ (by simp [List.getD, hk])) W)
  have HB := Lib.hid (fun k (hk : k ≤ L.length) => prodT_bound h k hk)
  have HP := Lib.hid (fun k (hk : k < L.length) => prodT_succ L k hk)
  have HA : Hid (prodT (L.take L.length) = prodT L) := Lib.hid (by rw [List.take_length])
  have hz4 : ¬ (4 : Int) < (L.length : Int) := by omega
  clear hs hm h
  generalize prodT L = R at *
  generalize (⟨(join L [120]).toArray⟩ : ByteArray) = nm at *
  go_enter Tryz.func80, Tryz.ntmps80
  go_wp2_with fail
  refine HS.out.mono ?_
  rintro e w1 ⟨g1, rfl, ho1, hb1⟩
  clear HS
  go_wp2_with fail
  go_loopw [4, 6, 14] (fun zv _ kv wr => ∃ k : Nat, k ≤ L.length ∧ kv = .int .i64 k ∧ zv = .int .i64 (prodT (L.take k)) ∧ Below w1.heap.size w1 wr) (fun _ _ kv _ => L.length - (intOf kv).toNat)
  case atStart => exact ⟨0, Nat.zero_le _, rfl, rfl, Below.refl _ _⟩
  case round =>
    obtain ⟨k, hk, rfl, rfl, hb⟩ := hrel
    by_cases hlt : k < L.length
    · have hcell := ho1.cell k ⟨(L.getD k []).toArray⟩ (by simp [strs, List.getD, hlt])
      rw [Nat.zero_add] at hcell
      have hcellr := (hb.cell (p := ⟨g1, k, none⟩) (OwnK.lt ho1)).trans hcell
      have HZk := Lib.hid (HZ.out k hlt)
      have hpk := HP.out k hlt
      have hbk := HB.out (k + 1) hlt
      have hpw := pw_le (k := k + 1) (by omega)
      rw [hpk] at hbk
      have Hpk := Lib.hid hpk
      clear hpk hcell
      generalize L.getD k [] = s at *
      generalize sizeT s = z at *
      generalize prodT (L.take k) = x at *
      generalize pw (k + 1) = P at *
      have hw : IntKind.i64.wrap (x * z) = x * z := IntWalk.i64_in _ ⟨by omega, by omega⟩
      go_wp2_with fail
      refine (HZk.out _).mono ?_
      rintro e w2 ⟨rfl, hs2⟩
      have hb2 := below_still hb hs2
      clear hb hs2 HZk hcellr
      go_wp2_with fail
      go_roundw
      case rel => exact ⟨k + 1, by omega, by go_num, by rw [Hpk.out], hb2⟩
      case measure => simp [intOf]; omega
    · obtain rfl : k = L.length := by omega
      rw [HA.out]
      have hb9 := hb1.trans (hb.mono hb1.size)
      go_wp2_with fail
      go_ret
      exact ⟨rfl, hb9⟩
end Go.Proofs.YtnpechcnmchneaaGreatDoor

/- slices.Clone of a list of weights; the closure summed$2: contracts. -/
import Derived.Test.YtihfbbpkgmkbcaaG38
namespace Go.Proofs.Ytihfbbpkgmkbcaa
set_option maxRecDepth 100000
open Go.RowKit Game Stb

theorem infoW2 : (Try.prog.info? 48).map (fun i => (i.zero, i.size, i.bytes)) = some (some (.agg #[.slice none 0 0, .int .i64 0]), 2, 32) := by kernel_rfl
theorem fl_at {N : Nat} {d : Nat → SRef} {w : World} {g o : Nat} (hc : ∀ k, k < N → w.cell? ⟨g, o + k * 2, none⟩ = some (d k).v1 ∧ w.cell? ⟨g, o + (k * 2 + 1), none⟩ = some (d k).v2) (j : Nat) (u : Value) (h : (fl N d)[j]? = some u) : w.cell? ⟨g, o + j, none⟩ = some u := by
  obtain ⟨hj, rfl⟩ := List.getElem?_eq_some_iff.1 h
  have hj2 : j < N * 2 := by rw [fl_length] at hj; exact hj
  have hk : j / 2 < N := by omega
  obtain ⟨h1, h2⟩ := hc (j / 2) hk
  rcases Nat.mod_two_eq_zero_or_one j with hm | hm
  · have e : j / 2 * 2 = j := by omega
    rw [e] at h1
    rw [h1]
    simp only [fl, List.getElem_map, List.getElem_range, hm, if_pos]
  · have e : j / 2 * 2 + 1 = j := by omega
    rw [e] at h2
    rw [h2]
    simp only [fl, List.getElem_map, List.getElem_range, hm]
    rfl
theorem fl_one {N : Nat} {d : Nat → SRef} : ∀ u ∈ fl N d, u.oneCell' = true := by
  intro u hu
  unfold fl at hu
  obtain ⟨t, -, rfl⟩ := List.mem_map.1 hu
  split <;> rfl

theorem wpList_cloneW {w : World} {ops : Array Oper} {rest : List Oper} {o : Oper} {a : Act} {Q : Exit → Act → World → Prop} (hgd : o.guard = none) (s x : Operand)
    (ho : o.op = .call { callee := .builtin .append, args := #[s, x], argTypes := #[26, 26] })
    (g2 o2 N c2 : Nat) (d : Nat → SRef) (hg : g2 < w.heap.size) (hc : ∀ k, k < N → w.cell? ⟨g2, o2 + k * 2, none⟩ = some (d k).v1 ∧ w.cell? ⟨g2, o2 + (k * 2 + 1), none⟩ = some (d k).v2)
    (hrd : ∀ k, k < N → Rd w w.heap.size (d k)) (hs : a.eval s = (Value.slice (some ⟨w.heap.size, 0, none⟩) 0 0)) (hx : a.eval x = (Value.slice (some ⟨g2, o2, none⟩) N c2)) (hlen : N ≤ 1048576)
    (h : ∀ G cap w', w.heap.size ≤ G → Below w.heap.size w w' → SSt w' w' w.heap.size G cap N d → wpList Try.prog ops Q rest (a.put o.dst (Value.slice (some ⟨G, 0, none⟩) N cap)) w') :
    wpList Try.prog ops Q (o :: rest) a (w.alloc (.cells #[] 48)) := by
  have hb0 : Below w.heap.size w (w.alloc (.cells #[] 48)) := (Below.refl _ _).alloc (Nat.le_refl _) _
  have hE : OwnK (w.alloc (.cells #[] 48)) w.heap.size 48 2 w.heap.size 0 0 [] := World.ownsRow_lit w #[] 0 (Nat.le_refl _) (by decide) rfl
  refine wpList_append_K infoW2 Try.underlying26 rfl (by decide) (by decide) hgd s x ho w.heap.size w.heap.size 0 0 [] hE g2 o2 N c2 (fl N d) (fl_length N d) (fun j u hu => ?_) fl_one hs hx (by omega) fun G cap w' h2 h3 h4 => ?_
  · have := fl_at hc j u hu
    rw [← this]
    unfold World.cell?
    simp only [hb0.block g2 hg]
  · have hb : Below w.heap.size w w' := hb0.grown h3 (by simp) (by intro k hk; cases hk; exact Nat.le_refl _)
    have hG : w.heap.size ≤ G := by rcases h4 with rfl | rfl; exact Nat.le_refl _; simp
    rw [Nat.zero_add] at h2 ⊢
    refine h G cap w' hG hb ⟨h2, fun k hk => ?_, World.grownBy.refl _ _⟩
    obtain ⟨r1, r2, r3, r4, r5, r6⟩ := hrd k hk
    exact ⟨by omega, Nat.lt_of_lt_of_le r2 hb.size, r3, r4, r5, r6.below hb r2⟩

set_option maxHeartbeats 1000000 in
theorem clone_wts (g o N c : Nat) (d : Nat → SRef) (w : World) (hN : N ≤ 1048576) (hg : g < w.heap.size) (hc : ∀ k, k < N → w.cell? ⟨g, o + k * 2, none⟩ = some (d k).v1 ∧ w.cell? ⟨g, o + (k * 2 + 1), none⟩ = some (d k).v2)
    (hrd : ∀ k, k < N → Rd w w.heap.size (d k)) :
    Calls Try.prog 50 #[(Value.slice (some ⟨g, o, none⟩) N c)] w fun e w' => ∃ G cap, e = .returned (Value.slice (some ⟨G, 0, none⟩) N cap) ∧ w.heap.size ≤ G ∧ Below w.heap.size w w' ∧ SSt w' w' w.heap.size G cap N d := by
  have hnil : ∀ W, (binOp .eql 26 (Value.slice (some ⟨g, o, none⟩) N c) (.slice none 0 0)).run Try.prog W = .ok (.bool false) W := fun W => Lib.run_eql_slice_nil W 26 48 _ _ _ _ _ Try.underlying26
  go_enter Try.func50, Try.ntmps50
  go_wp2_with (at_builtin; refine wpList_cloneW rfl _ _ rfl g o N c d hg hc hrd rfl rfl (by omega) ?_)
  intro G cap w1 hG hb hS
  go_wp2_with fail
  go_ret
  exact ⟨G, cap, rfl, hG, hb, hS⟩

set_option maxHeartbeats 1000000 in
/-- no count left -/
theorem zero_wt (v : Value) (x : SRef) (w : World) (hv : v = .agg #[x.v1, x.v2]) :
    Calls Try.prog 56 #[v] w fun e w' => e = .returned (.bool (x.ct == 0)) ∧ ∃ q os', w' = Go.Sort.grow (w.drewN q) os' := by
  obtain ⟨g, o, n, c, xs, t⟩ := x
  subst hv
  show Calls _ _ #[.agg #[(Value.slice (some ⟨g, o, none⟩) n c), .int .i64 t]] _ _
  dsimp only
  go_enter Try.func56, Try.ntmps56
  go_wp2_with fail
  go_ret
  exact ⟨rfl, 0, #[_], Go.Sort.alloc_eq_grow _ _⟩

set_option maxHeartbeats 1000000 in
/-- the first place without a count -/
theorem index_wts (B G cap N : Nat) (d : Nat → SRef) (w : World) (hN : N ≤ 1048576) (S : SSt w w B G cap N d) :
    Calls Try.prog 62 #[(Value.slice (some ⟨G, 0, none⟩) N cap), .func (.func 56) #[] #[]] w fun e w' => ∃ i : Int, e = .returned (.int .i64 i) ∧ SSt w w' B G cap N d ∧
      ((i = -1 ∧ ∀ k, k < N → (d k).ct ≠ 0) ∨ ∃ k : Nat, i = k ∧ k < N ∧ (d k).ct = 0 ∧ ∀ j, j < k → (d j).ct ≠ 0) := by
  have S0 := Lib.hid S
  clear S
  go_enter Try.func62, Try.ntmps62
  go_wp2_with fail
  go_loopw [5, 8] (fun _ kv wr => ∃ k : Nat, k ≤ N ∧ kv = .int .i64 k ∧ Hid (SSt w wr B G cap N d) ∧ Hid (∀ j, j < k → (d j).ct ≠ 0)) (fun _ kv _ => N - (intOf kv).toNat)
  case atStart => exact ⟨0, Nat.zero_le _, rfl, S0, Lib.hid (fun j h => absurd h (Nat.not_lt_zero _))⟩
  case round =>
    clear S0
    obtain ⟨k, hk, rfl, S, HZ⟩ := hrel
    by_cases hlt : k < N
    · have hz : (k : Int) < (N : Int) := by omega
      obtain ⟨c1, c2⟩ := S.out.cells hlt
      obtain ⟨x, hx⟩ : ∃ x, d k = x := ⟨_, rfl⟩
      have HX := Lib.hid hx
      rw [hx] at c1 c2
      have v1 : x.v1 = (Value.slice (some ⟨x.g, x.o, none⟩) x.n x.c) := rfl
      have v2 : x.v2 = .int .i64 x.ct := rfl
      rw [v1] at c1; rw [v2] at c2
      clear hx v1 v2
      have HC := Lib.hid (fun W => zero_wt (.agg #[(Value.slice (some ⟨x.g, x.o, none⟩) x.n x.c), .int .i64 x.ct]) x W rfl)
      by_cases h0 : x.ct = 0
      · have H0 := Lib.hid h0
        clear h0
        go_wp2_with fail
        refine (HC.out _).mono ?_
        rintro e w1 ⟨rfl, q, os', rfl⟩
        have HS := Lib.hid (S.out.cls q os')
        clear S c1 c2 HC
        have hb : (x.ct == 0) = true := by rw [H0.out]; rfl
        rw [hb]
        clear hb
        go_wp2_with fail
        go_ret
        exact ⟨k, rfl, HS.out, .inr ⟨k, rfl, hlt, by rw [HX.out]; exact H0.out, HZ.out⟩⟩
      · have HZ2 : Hid (∀ j, j < k + 1 → (d j).ct ≠ 0) := fun j hj => by
          by_cases e : j = k
          · rw [e, HX.out]; exact h0
          · exact HZ.out j (by omega)
        have H0 := Lib.hid h0
        clear h0
        go_wp2_with fail
        refine (HC.out _).mono ?_
        rintro e w1 ⟨rfl, q, os', rfl⟩
        have HS := Lib.hid (S.out.cls q os')
        clear S c1 c2 HC HZ
        have hb : (x.ct == 0) = false := by rw [beq_eq_false_iff_ne]; exact H0.out
        rw [hb]
        clear hb
        go_wp2_with fail
        go_roundw
        case rel => exact ⟨k + 1, by omega, by go_num, HS, HZ2⟩
        case measure => simp [intOf]; omega
    · obtain rfl : k = N := by omega
      go_wp2_with fail
      go_ret
      exact ⟨-1, rfl, S.out, .inl ⟨rfl, HZ.out⟩⟩
end Go.Proofs.Ytihfbbpkgmkbcaa

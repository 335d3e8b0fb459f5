/- What the reference's l29Put does as a loop; what a step puts; counts bounded. Plain law. -/
import Derived.Test.YtihfbbpkgmkbcaaG18
namespace Go.Proofs.Ytihfbbpkgmkbcaa
set_option maxRecDepth 100000
open Game

/-- l29Put as it goes along the list; pl: placed already -/
def putP (v : List Int) (n : Int) : List Wt → Bool → List Wt
  | [], pl => if pl = true then [] else if n = 0 then [] else [(v, n)]
  | x :: xs, pl => if x.1 = v then (if x.2 + n = 0 then putP v n xs true else (x.1, x.2 + n) :: putP v n xs true)
      else if pl = false ∧ downCmp v x.1 < 0 then (if n = 0 then x :: putP v n xs true else (v, n) :: x :: putP v n xs true) else x :: putP v n xs pl
theorem putP_true (v : List Int) (n : Int) : ∀ l : List Wt, (∀ y ∈ l, y.1 ≠ v) → putP v n l true = l
  | [], _ => rfl
  | x :: xs, h => by
    unfold putP
    rw [if_neg (h x (by simp)), if_neg (by simp), putP_true v n xs fun y hy => h y (by simp [hy])]
theorem putP_put (v : List Int) (n : Int) : ∀ l : List Wt, Desc l → putP v n l false = putW l v n
  | [], _ => by unfold putP putW; simp
  | x :: xs, h => by
    have h1 := (List.pairwise_cons.1 h).1
    have h2 := (List.pairwise_cons.1 h).2
    unfold putP putW
    by_cases e : x.1 = v
    · rw [if_pos e, if_pos e]
      have ht := putP_true v n xs fun y hy => by rw [← e]; exact down_ne (h1 y hy)
      rw [ht]
    · rw [if_neg e, if_neg e]
      by_cases g : downCmp v x.1 < 0
      · rw [if_pos ⟨rfl, g⟩, if_pos g]
        have ht := putP_true v n xs fun y hy => down_ne (down_trans g (h1 y hy))
        rw [ht]
      · rw [if_neg (fun q => g q.2), if_neg g, putP_put v n xs h2]
/-- all of a list put, one behind the other -/
def canW (l : List Wt) : List Wt := l.foldl (fun acc x => putW acc x.1 x.2) []
theorem can_fold : ∀ (l m out : List Wt), Can m out → Can (m ++ l) (l.foldl (fun acc x => putW acc x.1 x.2) out)
  | [], m, out, h => by rw [List.append_nil]; exact h
  | x :: l, m, out, h => by
    have := can_fold l (m ++ [x]) (putW out x.1 x.2) (h.put x.1 x.2)
    rw [List.append_assoc] at this
    exact this
theorem can_canW (l : List Wt) : Can l (canW l) := can_fold l [] [] Can.nil
theorem canW_snoc (l : List Wt) (v : List Int) (n : Int) : canW (l ++ [(v, n)]) = putW (canW l) v n := by unfold canW; rw [List.foldl_append]; rfl
theorem canW_desc (l : List Wt) : Desc (canW l) := (can_canW l).desc
/-- lengths of the weights -/
def LenW (n : Nat) (l : List Wt) : Prop := ∀ x ∈ l, x.1.length = n
theorem LenW.put {n : Nat} {l : List Wt} {v : List Int} {m : Int} (h : LenW n l) (hv : v.length = n) : LenW n (putW l v m) := fun x hx => by
  rcases mem_put v m l x hx with e | ⟨y, hy, e⟩
  · rw [e]; exact hv
  · rw [← e]; exact h y hy
theorem lenW_canW {n : Nat} : ∀ {l : List Wt}, LenW n l → LenW n (canW l) := by
  have aux : ∀ (l out : List Wt), LenW n l → LenW n out → LenW n (l.foldl (fun acc x => putW acc x.1 x.2) out) := by
    intro l
    induction l with
    | nil => exact fun out _ h => h
    | cons x l ih => exact fun out h h2 => ih _ (fun y hy => h y (by simp [hy])) (h2.put (h x (by simp)))
  exact fun {l} h => aux l [] h (by intro x hx; simp at hx)
theorem putW_length (v : List Int) (n : Int) : ∀ l : List Wt, (putW l v n).length ≤ l.length + 1
  | [] => by unfold putW; split <;> simp
  | x :: xs => by
    have ih := putW_length v n xs
    unfold putW
    split
    · split
      · simp; omega
      · simp
    · split
      · split <;> simp
      · simp; omega
theorem canW_length (l : List Wt) : (canW l).length ≤ l.length := by
  have aux : ∀ (l out : List Wt), (l.foldl (fun acc x => putW acc x.1 x.2) out).length ≤ out.length + l.length := by
    intro l
    induction l with
    | nil => intro out; simp
    | cons x l ih =>
      intro out
      have h1 := ih (putW out x.1 x.2)
      have h2 := putW_length x.1 x.2 out
      simp only [List.foldl_cons, List.length_cons]
      omega
  have := aux l []
  unfold canW
  simpa using this
/-- counts within a bound -/
def CtW (M : Int) (l : List Wt) : Prop := ∀ x ∈ l, -M ≤ x.2 ∧ x.2 ≤ M
theorem CtW.mono {M M' : Int} {l : List Wt} (h : CtW M l) (hm : M ≤ M') : CtW M' l := fun x hx => by have := h x hx; omega
theorem CtW.put {M K : Int} {v : List Int} {n : Int} (hM : 0 ≤ M) (hK : -K ≤ n ∧ n ≤ K) : ∀ {l : List Wt}, CtW M l → CtW (M + K) (putW l v n)
  | [], _ => by
    unfold putW
    split
    · intro x hx; simp at hx
    · intro x hx; simp at hx; subst hx; show -(M + K) ≤ n ∧ n ≤ M + K; omega
  | y :: ys, h => by
    have hy := h y (by simp)
    have hys : CtW (M + K) ys := CtW.mono (fun x hx => h x (by simp [hx])) (by omega)
    have hall : CtW (M + K) (y :: ys) := CtW.mono h (by omega)
    unfold putW
    split
    · split
      · exact hys
      · intro x hx
        rcases List.mem_cons.1 hx with rfl | hx
        · show -(M + K) ≤ y.2 + n ∧ y.2 + n ≤ M + K; omega
        · exact hys x hx
    · split
      · split
        · exact hall
        · intro x hx
          rcases List.mem_cons.1 hx with rfl | hx
          · show -(M + K) ≤ n ∧ n ≤ M + K; omega
          · exact hall x hx
      · intro x hx
        rcases List.mem_cons.1 hx with rfl | hx
        · omega
        · exact CtW.put hM hK (fun z hz => h z (by simp [hz])) x hx
theorem ctW_canW {K : Int} (hK : 0 ≤ K) {l : List Wt} (h : CtW K l) : CtW (l.length * K) (canW l) := by
  have aux : ∀ (l out : List Wt) (M : Int), 0 ≤ M → CtW K l → CtW M out → CtW (M + l.length * K) (l.foldl (fun acc x => putW acc x.1 x.2) out) := by
    intro l
    induction l with
    | nil => intro out M _ _ h; simpa using h
    | cons x l ih =>
      intro out M hM h h2
      have := ih (putW out x.1 x.2) (M + K) (by omega) (fun y hy => h y (by simp [hy])) (CtW.put hM (h x (by simp)) h2)
      have e : M + K + (l.length : Int) * K = M + ((x :: l).length : Int) * K := by
        rw [List.length_cons]
        have : ((l.length + 1 : Nat) : Int) * K = (l.length : Int) * K + K := by rw [Int.natCast_add, Int.add_mul]; simp
        omega
      rw [e] at this
      exact this
  have := aux l [] 0 (Int.le_refl _) h (by intro x hx; simp at hx)
  unfold canW
  simpa using this
theorem run_length (acc : List Wt) (x : Wt) : (runW acc x).length ≤ acc.length + 1 := by
  unfold runW
  split
  · simp
  · split
    · simp
    · simp
theorem CtW.run {M K : Int} {acc : List Wt} {x : Wt} (hM : 0 ≤ M) (hx : -K ≤ x.2 ∧ x.2 ≤ K) (h : CtW M acc) : CtW (M + K) (runW acc x) := by
  have hk : 0 ≤ K := by omega
  unfold runW
  split
  · intro y hy; simp at hy; subst hy; omega
  · rename_i u hu
    obtain ⟨ys, rfl⟩ := List.getLast?_eq_some_iff.1 hu
    split
    · intro y hy
      rw [List.dropLast_concat] at hy
      rcases List.mem_append.1 hy with hy | hy
      · have := h y (by simp [hy]); omega
      · simp at hy; subst hy
        have := h u (by simp)
        show -(M + K) ≤ u.2 + x.2 ∧ u.2 + x.2 ≤ M + K
        omega
    · intro y hy
      rcases List.mem_append.1 hy with hy | hy
      · have := h y hy; omega
      · simp at hy; subst hy; omega
theorem runW_same {A : List Wt} {u x : Wt} (h : u.1 = x.1) : runW (A ++ [u]) x = A ++ [(u.1, u.2 + x.2)] := by unfold runW; simp [h]
theorem runW_new {A : List Wt} {u x : Wt} (h : u.1 ≠ x.1) : runW (A ++ [u]) x = A ++ [u] ++ [x] := by unfold runW; simp [h]
theorem runW_nil (x : Wt) : runW [] x = [x] := rfl
end Go.Proofs.Ytihfbbpkgmkbcaa

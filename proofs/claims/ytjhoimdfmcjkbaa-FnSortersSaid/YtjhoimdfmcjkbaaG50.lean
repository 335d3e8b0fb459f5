/- Plain laws of networks of neighbours: lists of 0 and 1 tell, the star product tells; words of swaps. -/
import Derived.Test.YtjhoimdfmcjkbaaG37
import Derived.Test.YtjhoimdfmcjkbaaG40
import Derived.Test.YtjhoimdfmcjkbaaSwap2
import Derived.Test.YtjhoimdfmcjkbaaPerm
import Derived.Test.YtjhoimdfmcjkbaaG49
namespace Go.Proofs.Ytjhoimdfmcjkbaa
set_option maxRecDepth 100000

theorem findBad_all {M : Nat} {ws : List Int} : ∀ (d k : Nat), findBad M ws k d = none → ∀ j, k ≤ j → j < k + d → sortedB (sortBy (bitsOf M j) ws) = true
  | 0, k, _, j, h1, h2 => by omega
  | d + 1, k, h, j, h1, h2 => by
    unfold findBad at h
    split at h
    · rename_i hs
      by_cases e : j = k
      · subst e; exact hs
      · exact findBad_all d (k + 1) h j (by omega) (by omega)
    · cases h
theorem findBad_none {M : Nat} {ws : List Int} : ∀ (d k : Nat), (∀ j, k ≤ j → j < k + d → sortedB (sortBy (bitsOf M j) ws) = true) → findBad M ws k d = none
  | 0, _, _ => rfl
  | d + 1, k, h => by
    unfold findBad
    rw [if_pos (h k (Nat.le_refl _) (by omega))]
    exact findBad_none d (k + 1) fun j h1 h2 => h j (by omega) (by omega)
/-- whether a network sorts -/
def sorterB (N : Int) (ws : List Int) : Bool := net N ws && !(firstBad N ws).isSome
theorem sorter_iff {N : Nat} {ws : List Int} (hn : net N ws = true) : sorterB N ws = true ↔ ∀ k, k < 2 ^ N → sortedB (sortBy (bitsOf N k) ws) = true := by
  unfold sorterB firstBad
  rw [hn, if_pos rfl, Bool.true_and, Int.toNat_natCast]
  constructor
  · intro h k hk
    refine findBad_all (2 ^ N) 0 ?_ k (Nat.zero_le _) (by omega)
    cases hf : findBad N ws 0 (2 ^ N) with
    | none => rfl
    | some x => rw [hf] at h; cases h
  · intro h
    rw [findBad_none (2 ^ N) 0 fun j _ h2 => h j (by omega)]
    rfl

/-! ### maps that keep the order go through steps -/
theorem getD_map {f : Int → Int} {l : List Int} {k : Nat} (h : k < l.length) : (l.map f).getD k 0 = f (l.getD k 0) := by simp [List.getD, h]
theorem swapAt_map {f : Int → Int} {l : List Int} {k : Nat} (h : k + 1 < l.length) : swapAt (l.map f) k = (swapAt l k).map f := by
  unfold swapAt
  rw [getD_map h, getD_map (show k < l.length by omega), List.map_set, List.map_set]
theorem swapAt_same {l : List Int} {k : Nat} (h : k + 1 < l.length) (he : l.getD (k + 1) 0 = l.getD k 0) : swapAt l k = l := by
  have h0 : k < l.length := by omega
  unfold swapAt
  have e1 : l.getD k 0 = l[k] := by simp [List.getD, h0]
  have e2 : l.getD (k + 1) 0 = l[k + 1] := by simp [List.getD, h]
  rw [e1, e2] at he ⊢
  apply List.ext_getElem (by simp)
  intro t t1 t2
  rw [List.getElem_set, List.getElem_set]
  split
  · rename_i e; subst e; exact he.symm
  · split
    · rename_i e; subst e; exact he
    · rfl
theorem sortStep_map {f : Int → Int} (hf : ∀ x y, x ≤ y → f x ≤ f y) (l : List Int) (i : Int) : sortStep (l.map f) i = (sortStep l i).map f := by
  unfold sortStep
  rw [List.length_map]
  by_cases h : 0 ≤ i ∧ i + 1 < (l.length : Int)
  · have h1 : i.toNat + 1 < l.length := by omega
    rw [getD_map h1, getD_map (show i.toNat < l.length by omega)]
    by_cases hd : l.getD (i.toNat + 1) 0 < l.getD i.toNat 0
    · rw [if_pos (show 0 ≤ i ∧ i + 1 < (l.length : Int) ∧ l.getD (i.toNat + 1) 0 < l.getD i.toNat 0 from ⟨h.1, h.2, hd⟩)]
      have hle := hf _ _ (Int.le_of_lt hd)
      by_cases hd2 : f (l.getD (i.toNat + 1) 0) < f (l.getD i.toNat 0)
      · rw [if_pos ⟨h.1, h.2, hd2⟩, swapAt_map h1]
      · rw [if_neg (fun q => hd2 q.2.2), ← swapAt_map h1, swapAt_same (by simpa using h1) (by rw [getD_map h1, getD_map (show i.toNat < l.length by omega)]; omega)]
    · have hle := hf _ _ (show l.getD i.toNat 0 ≤ l.getD (i.toNat + 1) 0 by omega)
      rw [if_neg (fun q => by have := q.2.2; omega), if_neg (fun q => hd q.2.2)]
  · rw [if_neg (fun q => h ⟨q.1, q.2.1⟩), if_neg (fun q => h ⟨q.1, q.2.1⟩)]
theorem sortBy_map {f : Int → Int} (hf : ∀ x y, x ≤ y → f x ≤ f y) (ws : List Int) : ∀ l : List Int, sortBy (l.map f) ws = (sortBy l ws).map f := by
  induction ws with
  | nil => intro l; rfl
  | cons i ws ih =>
    intro l
    show sortBy (sortStep (l.map f) i) ws = (sortBy (sortStep l i) ws).map f
    rw [sortStep_map hf, ih]

/-! ### lists of 0 and 1 -/
def lists01 : Nat → List (List Int)
  | 0 => [[]]
  | n + 1 => (lists01 n).flatMap fun l => [0 :: l, 1 :: l]
theorem mem_lists01 : ∀ l : List Int, (∀ x ∈ l, x = 0 ∨ x = 1) → l ∈ lists01 l.length
  | [], _ => by simp [lists01]
  | x :: l, h => by
    have h1 := mem_lists01 l fun y hy => h y (List.mem_cons_of_mem _ hy)
    rw [List.length_cons, lists01, List.mem_flatMap]
    refine ⟨l, h1, ?_⟩
    rcases h x (by simp) with rfl | rfl <;> simp
theorem lists01_ok : ((List.range 6).all fun M => (lists01 M).all fun l => (List.range (2 ^ M)).any fun k => decide (l = bitsOf M k)) = true := by kernel_rfl
theorem bits_of {l : List Int} (h5 : l.length ≤ 5) (h : ∀ x ∈ l, x = 0 ∨ x = 1) : ∃ k, k < 2 ^ l.length ∧ l = bitsOf l.length k := by
  have h1 := List.all_eq_true.1 lists01_ok l.length (List.mem_range.2 (by omega))
  have h2 := List.all_eq_true.1 h1 l (mem_lists01 l h)
  obtain ⟨k, hk, e⟩ := List.any_eq_true.1 h2
  exact ⟨k, List.mem_range.1 hk, of_decide_eq_true e⟩
theorem sorter_sorts {N : Nat} {ws l : List Int} (hs : sorterB N ws = true) (hl : l.length = N) : sortedB (sortBy l ws) = true := by
  have hn : net N ws = true := by unfold sorterB at hs; rw [Bool.and_eq_true] at hs; exact hs.1
  have h5 : N ≤ 5 := by have := of_decide_eq_true hn; omega
  have hall := (sorter_iff hn).1 hs
  rw [sortedB_iff]
  intro i hi
  rw [sortBy_length] at hi
  refine Decidable.byContradiction fun hc => ?_
  obtain ⟨t, ht⟩ : ∃ t, (sortBy l ws).getD i 0 = t := ⟨_, rfl⟩
  let f : Int → Int := fun x => if t ≤ x then 1 else 0
  have hf : ∀ x y, x ≤ y → f x ≤ f y := fun x y h => by show (if t ≤ x then (1 : Int) else 0) ≤ if t ≤ y then 1 else 0; split <;> split <;> omega
  obtain ⟨k, hk, e⟩ := bits_of (l := l.map f) (by rw [List.length_map]; omega) (fun x hx => by
    obtain ⟨y, -, rfl⟩ := List.mem_map.1 hx
    show (if t ≤ y then (1 : Int) else 0) = 0 ∨ (if t ≤ y then (1 : Int) else 0) = 1
    split
    · exact .inr rfl
    · exact .inl rfl)
  rw [List.length_map, hl] at hk e
  have hk2 := hall k hk
  rw [← e, sortBy_map hf, sortedB_iff] at hk2
  have h3 := hk2 i (by rw [List.length_map, sortBy_length]; exact hi)
  rw [getD_map (by rw [sortBy_length]; omega), getD_map (by rw [sortBy_length]; omega)] at h3
  have f1 : f ((sortBy l ws).getD i 0) = 1 := if_pos (by omega)
  have f2 : f ((sortBy l ws).getD (i + 1) 0) = 0 := if_neg (by omega)
  rw [f1, f2] at h3
  omega

/-! ### the star product tells -/
theorem sortBy_snoc (l ws : List Int) (i : Int) : sortBy l (ws ++ [i]) = sortStep (sortBy l ws) i := by simp [sortBy]
/-- what the table holds of a word -/
theorem hk_run {N : Nat} {U : List (List Int)} {T J st : List (List Nat)} (hN : 2 ≤ N) (ha : hkAll (chainA (N - 1)) U T J st = true) (hst : hkSt N st = true) (h0 : U.getD 0 [] = []) (hT0 : T.getD 0 [] = List.range (2 ^ N)) (hU : 0 < U.length) {ws : List Int}
    (hw : ∀ x ∈ ws, 0 ≤ x ∧ x < (N : Int) - 1) : ∀ k, k ≤ ws.length → ∃ t, t < U.length ∧ U.getD t [] = starTo (chainA (N - 1)) ws k ∧ (∀ j ∈ T.getD t [], j < 2 ^ N) ∧ (T.getD t []).map (bitsOf N) = (List.range (2 ^ N)).map fun j => sortBy (bitsOf N j) (ws.take k)
  | 0, _ => ⟨0, hU, h0, fun j hj => by rw [hT0] at hj; exact List.mem_range.1 hj, by rw [hT0]; rfl⟩
  | k + 1, hk => by
    obtain ⟨t, t1, t2, t3, t4⟩ := hk_run hN ha hst h0 hT0 hU hw k (by omega)
    have hlt : k < ws.length := by omega
    have hx := hw (ws.getD k 0) (by simp [List.getD, hlt])
    obtain ⟨s, hs⟩ : ∃ s : Nat, ws.getD k 0 = s := ⟨(ws.getD k 0).toNat, by omega⟩
    have hsm : s < N - 1 := by omega
    have hcl : (chainA (N - 1)).length = N - 1 := by simp [chainA]
    have h1 := List.all_eq_true.1 (List.all_eq_true.1 ha t (List.mem_range.2 t1)) s (List.mem_range.2 (by rw [hcl]; exact hsm))
    unfold hkAt at h1
    simp only [Bool.and_eq_true, decide_eq_true_eq] at h1
    obtain ⟨⟨q1, q2⟩, q3⟩ := h1
    have hss := List.all_eq_true.1 hst s (List.mem_range.2 hsm)
    have hsk : ∀ j, j < 2 ^ N → (st.getD s []).getD j 0 < 2 ^ N ∧ bitsOf N ((st.getD s []).getD j 0) = sortStep (bitsOf N j) (s : Int) := fun j hj => by
      have := List.all_eq_true.1 hss j (List.mem_range.2 hj)
      simp only [Bool.and_eq_true, decide_eq_true_eq] at this
      exact this
    refine ⟨_, q1, ?_, ?_, ?_⟩
    · rw [q2, t2, ← hs]; rfl
    · intro j hj
      rw [q3] at hj
      obtain ⟨i, hi, rfl⟩ := List.mem_map.1 hj
      exact (hsk i (t3 i hi)).1
    · rw [q3, List.map_map]
      have e1 : (T.getD t []).map ((bitsOf N) ∘ fun k => (st.getD s []).getD k 0) = ((T.getD t []).map (bitsOf N)).map fun l => sortStep l (s : Int) := by
        rw [List.map_map]
        exact List.map_congr_left fun j hj => (hsk j (t3 j hj)).2
      rw [e1, t4, List.map_map]
      refine List.map_congr_left fun j _ => ?_
      show sortStep (sortBy (bitsOf N j) (ws.take k)) (s : Int) = _
      have e2 : ws.take (k + 1) = ws.take k ++ [ws.getD k 0] := by rw [List.take_succ_eq_append_getElem hlt]; simp [List.getD, hlt]
      rw [e2, sortBy_snoc, hs]
theorem hk_tell {N : Nat} {U : List (List Int)} {T J st : List (List Nat)} (hN : 2 ≤ N) (h5 : N ≤ 5) (ha : hkAll (chainA (N - 1)) U T J st = true) (he : hkEnd N (chainA (N - 1)) U T = true) (hst : hkSt N st = true) (h0 : U.getD 0 [] = []) (hT0 : T.getD 0 [] = List.range (2 ^ N)) (hU : 0 < U.length) (hf : finB (chainA (N - 1)) = true) {ws : List Int}
    (hl : ws.length ≤ 15) (hw : ∀ x ∈ ws, 0 ≤ x ∧ x < (N : Int) - 1) : sorterB N ws = coversB (chainA (N - 1)) ws := by
  have hn : net N ws = true := decide_eq_true ⟨by omega, by omega, hl, fun i hi => by have := hw i hi; omega⟩
  obtain ⟨t, t1, t2, t3, t4⟩ := hk_run hN ha hst h0 hT0 hU hw ws.length (Nat.le_refl _)
  rw [List.take_length] at t4
  have h1 := List.all_eq_true.1 he t (List.mem_range.2 t1)
  rw [beq_iff_eq, t2] at h1
  have e : coversB (chainA (N - 1)) ws = decide (starTo (chainA (N - 1)) ws ws.length = longN (chainA (N - 1))) := by unfold coversB; rw [hf, Bool.true_and]; rfl
  rw [e, ← h1, Bool.eq_iff_iff, sorter_iff hn, List.all_eq_true]
  have hk : ∀ j, j < 2 ^ N → (T.getD t []).map (bitsOf N) = (List.range (2 ^ N)).map fun j => sortBy (bitsOf N j) ws := fun _ _ => t4
  constructor
  · intro h j hj
    have : bitsOf N j ∈ (T.getD t []).map (bitsOf N) := List.mem_map_of_mem hj
    rw [t4] at this
    obtain ⟨i, hi, e2⟩ := List.mem_map.1 this
    rw [← e2]
    exact h i (List.mem_range.1 hi)
  · intro h k hk2
    have : sortBy (bitsOf N k) ws ∈ (T.getD t []).map (bitsOf N) := by rw [t4]; exact List.mem_map.2 ⟨k, List.mem_range.2 hk2, rfl⟩
    obtain ⟨j, hj, e2⟩ := List.mem_map.1 this
    rw [← e2]
    exact h j hj
theorem fin2 : finB (chainA 1) = true := by kernel_rfl
theorem fin3 : finB (chainA 2) = true := by kernel_rfl
theorem fin4 : finB (chainA 3) = true := by kernel_rfl
theorem fin5 : finB (chainA 4) = true := by kernel_rfl
theorem sorter_covers {N : Nat} {ws : List Int} (h2 : 2 ≤ N) (h5 : N ≤ 5) (hl : ws.length ≤ 15) (hw : ∀ x ∈ ws, 0 ≤ x ∧ x < (N : Int) - 1) : sorterB N ws = coversB (chainA (N - 1)) ws := by
  have : N = 2 ∨ N = 3 ∨ N = 4 ∨ N = 5 := by omega
  rcases this with rfl | rfl | rfl | rfl
  · exact hk_tell h2 h5 hk2 he2 hs2 rfl rfl (by decide) fin2 hl hw
  · exact hk_tell h2 h5 hk3 he3 hs3 rfl rfl (by decide) fin3 hl hw
  · exact hk_tell h2 h5 hk4 he4 hs4 rfl rfl (by decide) fin4 hl hw
  · exact hk_tell h2 h5 hk5 he5 hs5 rfl rfl (by decide) fin5 hl hw

/-! ### words of swaps -/
def listsN (n : Nat) : Nat → List (List Int)
  | 0 => [[]]
  | k + 1 => (listsN n k).flatMap fun l => (List.range n).map fun x : Nat => (x : Int) :: l
theorem mem_listsN {n : Nat} : ∀ l : List Int, (∀ x ∈ l, 0 ≤ x ∧ x < (n : Int)) → l ∈ listsN n l.length
  | [], _ => by simp [listsN]
  | x :: l, h => by
    have h1 := mem_listsN l fun y hy => h y (List.mem_cons_of_mem _ hy)
    have h2 := h x (by simp)
    rw [List.length_cons, listsN, List.mem_flatMap]
    refine ⟨l, h1, List.mem_map.2 ⟨x.toNat, List.mem_range.2 (by omega), ?_⟩⟩
    rw [Int.toNat_of_nonneg h2.1]
def swB (p : List Int) : Bool := !permB p || (net p.length (swapWord p) && decide (permOf p.length (swapWord p) = p) && decide ((swapWord p).length = invA p p.length) && (decide (p.length ≤ 1) || redW (chainA (p.length - 1)) (swapWord p)))
theorem sw_all : ((List.range 6).all fun n => (listsN n n).all swB) = true := by kernel_rfl
theorem permUpto_inT {p : List Int} {k : Nat} (h : permUpto p k = true) : ∀ j, j < k → 0 ≤ p.getD j 0 ∧ p.getD j 0 < (p.length : Int) := by
  induction k with
  | zero => intro j hj; omega
  | succ k ih =>
    intro j hj
    simp only [permUpto, Bool.and_eq_true, decide_eq_true_eq] at h
    by_cases e : j = k
    · subst e; exact h.2.1
    · exact ih h.1 j (by omega)
theorem swap_back {p : List Int} (hp : permB p = true) : net p.length (swapWord p) = true ∧ permOf p.length (swapWord p) = p ∧ (swapWord p).length = invA p p.length ∧ (1 < p.length → redW (chainA (p.length - 1)) (swapWord p) = true) := by
  have hp' := hp
  unfold permB at hp'
  rw [Bool.and_eq_true, decide_eq_true_eq] at hp'
  have hin := permUpto_inT hp'.2
  have hm : p ∈ listsN p.length p.length := mem_listsN p fun x hx => by
    obtain ⟨k, hk, rfl⟩ := List.mem_iff_getElem.1 hx
    have := hin k hk
    simpa [List.getD, hk] using this
  have h1 := List.all_eq_true.1 (List.all_eq_true.1 sw_all p.length (List.mem_range.2 (by omega))) p hm
  unfold swB at h1
  rw [hp] at h1
  simp only [Bool.not_true, Bool.false_or, Bool.and_eq_true, decide_eq_true_eq, Bool.or_eq_true] at h1
  obtain ⟨⟨⟨a1, a2⟩, a3⟩, a4⟩ := h1
  exact ⟨a1, a2, a3, fun h => by rcases a4 with g | g; · omega
                                 · exact g⟩
end Go.Proofs.Ytjhoimdfmcjkbaa

/- Orders of points in which one matrix is another one: plain law. Types with a name: their matrices, names of parts, sizes. Plain law. slices.Index, slices.Contains, slices.Clone at lists of integers that may be nil; append of one integer: contracts. -/
import Derived.Test.YtdedkfbiookofaaGreatDoorM02
import Derived.Test.YtdedkfbiookofaaGreatDoorM11
import Derived.Test.YtdedkfbiookofaaGreatDoorM08
import Derived.Test.YtdedkfbiookofaaGreatDoorM06
import Derived.WalkSpells
namespace Go.Proofs.YtdedkfbiookofaaGreatDoor
set_option maxRecDepth 100000
def ordStep (n : Nat) (o : List Nat) : List (List Nat) := ((List.range n).filter fun x => !(o.contains x)).map fun x => o ++ [x]
/-- all orders of k of n points -/
def ordsN (n : Nat) : Nat → List (List Nat)
  | 0 => [[]]
  | k + 1 => (ordsN n k).flatMap (ordStep n)
/-- the next point fits -/
def fit (a b : List (List Int)) (o : List Nat) (i : Nat) : Bool := (List.range o.length).all fun j => (ent a i (o.getD j 0) == ent b o.length j) && (ent a (o.getD j 0) i == ent b j o.length)
/-- all orders that begin so and make one matrix the other one -/
def mtF (a b : List (List Int)) : Nat → List Nat → List (List Nat)
  | 0, o => [o]
  | f + 1, o => (List.range a.length).flatMap fun i => if o.contains i || !(fit a b o i) then [] else mtF a b f (o ++ [i])
/-- as far as it goes, one matrix is the other one -/
def agr (a b : List (List Int)) (o : List Nat) : Bool := (List.range o.length).all fun k => (List.range o.length).all fun j => ent a (o.getD k 0) (o.getD j 0) == ent b k j
theorem ordsN_mem {n : Nat} : ∀ {k : Nat} {o : List Nat}, o ∈ ordsN n k → o.length = k ∧ o.Nodup ∧ ∀ x ∈ o, x < n
  | 0, o, h => by
    simp [ordsN] at h
    subst h
    exact ⟨rfl, List.Pairwise.nil, by simp⟩
  | k + 1, o, h => by
    simp only [ordsN, List.mem_flatMap, ordStep, List.mem_map, List.mem_filter, List.mem_range] at h
    obtain ⟨p, hp, x, ⟨hx, hx2⟩, rfl⟩ := h
    obtain ⟨h1, h2, h3⟩ := ordsN_mem hp
    refine ⟨by simp [h1], ?_, fun y hy => ?_⟩
    · rw [List.nodup_append]
      refine ⟨h2, by simp, fun a ha b hb => ?_⟩
      simp at hb hx2
      subst hb
      intro e
      subst e
      exact hx2 ha
    · rcases List.mem_append.1 hy with hy | hy
      · exact h3 y hy
      · simp at hy; subst hy; exact hx
theorem getD_app_lt (o : List Nat) (x : Nat) {j : Nat} (h : j < o.length) : (o ++ [x]).getD j 0 = o.getD j 0 := by
  simp [List.getD, List.getElem?_append_left h]
theorem getD_app_eq (o : List Nat) (x : Nat) : (o ++ [x]).getD o.length 0 = x := by simp [List.getD]
theorem agr_push (a b : List (List Int)) (o : List Nat) (x : Nat) (hd : ent a x x = ent b o.length o.length) : agr a b (o ++ [x]) = (agr a b o && fit a b o x) := by
  rw [Bool.eq_iff_iff]
  unfold agr fit
  simp only [List.all_eq_true, List.mem_range, Bool.and_eq_true, beq_iff_eq, List.length_append, List.length_cons, List.length_nil]
  constructor
  · intro h
    refine ⟨fun k hk j hj => ?_, fun j hj => ⟨?_, ?_⟩⟩
    · have := h k (by omega) j (by omega)
      rwa [getD_app_lt o x hk, getD_app_lt o x hj] at this
    · have := h o.length (by omega) j (by omega)
      rwa [getD_app_eq, getD_app_lt o x hj] at this
    · have := h j (by omega) o.length (by omega)
      rwa [getD_app_eq, getD_app_lt o x hj] at this
  · rintro ⟨h1, h2⟩ k hk j hj
    by_cases ek : k = o.length
    · by_cases ej : j = o.length
      · rw [ek, ej, getD_app_eq]; exact hd
      · rw [ek, getD_app_eq, getD_app_lt o x (by omega)]; exact (h2 j (by omega)).1
    · by_cases ej : j = o.length
      · rw [ej, getD_app_eq, getD_app_lt o x (by omega)]; exact (h2 k (by omega)).2
      · rw [getD_app_lt o x (by omega), getD_app_lt o x (by omega)]; exact h1 k (by omega) j (by omega)
theorem flat_filter {α β : Type} (l : List α) (p : α → Bool) (f : α → List β) : (l.filter p).flatMap f = l.flatMap fun x => if p x then f x else [] := by
  induction l with
  | nil => rfl
  | cons x l ih =>
    rw [List.filter_cons, List.flatMap_cons]
    split
    · rw [List.flatMap_cons, ih]
    · rw [ih]; rfl
theorem mtF_step (a b : List (List Int)) (f : Nat) (o : List Nat) : mtF a b (f + 1) o = ((ordStep a.length o).filter fun q => fit a b o (q.getD o.length 0)).flatMap (mtF a b f) := by
  have e : mtF a b (f + 1) o = (List.range a.length).flatMap fun i => if o.contains i || !(fit a b o i) then [] else mtF a b f (o ++ [i]) := rfl
  rw [e, flat_filter]
  unfold ordStep
  rw [List.flatMap_map, flat_filter]
  congr 1
  funext i
  rw [getD_app_eq]
  cases h1 : o.contains i <;> cases h2 : fit a b o i <;> simp
/-- the orders so far that agree, level by level -/
theorem mtF_all (a b : List (List Int)) (hd : ∀ i j, i < a.length → j < b.length → ent a i i = ent b j j) : ∀ (f k : Nat), k + f ≤ b.length → ((ordsN a.length k).filter (agr a b)).flatMap (mtF a b f) = (ordsN a.length (k + f)).filter (agr a b)
  | 0, k, _ => by
    have : ∀ l : List (List Nat), l.flatMap (mtF a b 0) = l := by
      intro l
      induction l with
      | nil => rfl
      | cons x l ih => rw [List.flatMap_cons, ih]; rfl
    rw [this, Nat.add_zero]
  | f + 1, k, hk => by
    have ih := mtF_all a b hd f (k + 1) (by omega)
    rw [show k + (f + 1) = k + 1 + f by omega, ← ih]
    have e : ∀ l : List (List Nat), (∀ o ∈ l, o.length = k ∧ ∀ x ∈ o, x < a.length) → (l.filter (agr a b)).flatMap (mtF a b (f + 1)) = ((l.flatMap (ordStep a.length)).filter (agr a b)).flatMap (mtF a b f) := by
      intro l
      induction l with
      | nil => intro _; rfl
      | cons o l ihl =>
        intro hl
        have h1 := ihl fun p hp => hl p (by simp [hp])
        obtain ⟨ho, -⟩ := hl o (by simp)
        have hst : (ordStep a.length o).filter (agr a b) = if agr a b o = true then (ordStep a.length o).filter fun q => fit a b o (q.getD o.length 0) else [] := by
          have hq : ∀ q ∈ ordStep a.length o, agr a b q = (agr a b o && fit a b o (q.getD o.length 0)) := by
            intro q hq
            simp only [ordStep, List.mem_map, List.mem_filter, List.mem_range] at hq
            obtain ⟨x, ⟨hx, -⟩, rfl⟩ := hq
            rw [getD_app_eq]
            exact agr_push a b o x (hd x o.length hx (by omega))
          by_cases hg : agr a b o = true
          · rw [if_pos hg]
            refine List.filter_congr fun q hq2 => ?_
            rw [hq q hq2, hg, Bool.true_and]
          · rw [if_neg hg]
            refine List.filter_eq_nil_iff.2 fun q hq2 => ?_
            rw [hq q hq2]
            simp [hg]
        rw [List.flatMap_cons, List.filter_append, List.flatMap_append, hst, ← h1, List.filter_cons]
        by_cases hg : agr a b o = true
        · rw [if_pos hg, if_pos hg, List.flatMap_cons, mtF_step]
        · rw [if_neg hg, if_neg hg]; rfl
    exact e _ fun o ho => ⟨(ordsN_mem ho).1, (ordsN_mem ho).2.2⟩
theorem mtF_orders (a b : List (List Int)) (hl : a.length = b.length) (hd : ∀ i j, i < a.length → j < b.length → ent a i i = ent b j j) : mtF a b b.length [] = (ordsN a.length a.length).filter (agr a b) := by
  have h := mtF_all a b hd b.length 0 (by omega)
  have e : (ordsN a.length 0).filter (agr a b) = [[]] := rfl
  rw [e, Nat.zero_add] at h
  have e2 : ([[]] : List (List Nat)).flatMap (mtF a b b.length) = mtF a b b.length [] := by simp
  rw [e2] at h
  rw [h, hl]
end Go.Proofs.YtdedkfbiookofaaGreatDoor
namespace Go.Proofs.YtdedkfbiookofaaGreatDoor
set_option maxRecDepth 100000
abbrev Bs := List UInt8
/-- all types, in their order -/
def types17 : List (Bs × List (List Int)) := [
  ([65, 49], [[2]]),
  ([65, 50], [[2, -1], [-1, 2]]),
  ([65, 51], [[2, -1, 0], [-1, 2, -1], [0, -1, 2]]),
  ([65, 52], [[2, -1, 0, 0], [-1, 2, -1, 0], [0, -1, 2, -1], [0, 0, -1, 2]]),
  ([66, 50], [[2, -1], [-2, 2]]),
  ([66, 51], [[2, -1, 0], [-1, 2, -1], [0, -2, 2]]),
  ([66, 52], [[2, -1, 0, 0], [-1, 2, -1, 0], [0, -1, 2, -1], [0, 0, -2, 2]]),
  ([67, 51], [[2, -1, 0], [-1, 2, -2], [0, -1, 2]]),
  ([67, 52], [[2, -1, 0, 0], [-1, 2, -1, 0], [0, -1, 2, -2], [0, 0, -1, 2]]),
  ([68, 52], [[2, -1, 0, 0], [-1, 2, -1, -1], [0, -1, 2, 0], [0, -1, 0, 2]]),
  ([70, 52], [[2, -1, 0, 0], [-1, 2, -1, 0], [0, -2, 2, -1], [0, 0, -1, 2]]),
  ([71, 50], [[2, -1], [-3, 2]]),
  ([65, 49, 126], [[2, -2], [-2, 2]]),
  ([65, 50, 126], [[2, -1, -1], [-1, 2, -1], [-1, -1, 2]]),
  ([65, 51, 126], [[2, -1, 0, -1], [-1, 2, -1, 0], [0, -1, 2, -1], [-1, 0, -1, 2]]),
  ([67, 50, 126], [[2, -1, 0], [-2, 2, -2], [0, -1, 2]]),
  ([71, 50, 126], [[2, -1, 0], [-1, 2, -1], [0, -3, 2]])]
def tyD : Bs × List (List Int) := ([], [])
theorem types_isC : ∀ t ∈ types17, IsC t.2 := by decide
theorem types_isC' {k : Nat} (h : k < 17) : IsC (types17.getD k tyD).2 := types_isC _ (by have hl : types17.length = 17 := rfl; simp [List.getD, hl, h])
theorem pick_getD (a : List (List Int)) (o : List Nat) (k : Nat) (hk : k < o.length) : (pickL a (intsOf o)).getD k [] = o.map fun j => ent a (o.getD k 0) j := by
  simp [pickL, intsOf, pickRow, List.getD, hk, ent]
theorem pick_agr {a b : List (List Int)} {o : List Nat} (hl : o.length = b.length) (hb : ∀ i, i < b.length → (b.getD i []).length = b.length) : (pickL a (intsOf o) = b) ↔ agr a b o = true := by
  have hpl : (pickL a (intsOf o)).length = o.length := by simp [pickL, intsOf]
  unfold agr
  simp only [List.all_eq_true, List.mem_range, beq_iff_eq]
  constructor
  · intro h k hk j hj
    have h1 := pick_getD a o k hk
    rw [h] at h1
    unfold ent
    rw [h1]
    simp [List.getD, hj, ent]
  · intro h
    apply List.ext_getElem (by omega)
    intro k h1 h2
    have hk : k < o.length := by omega
    have e1 := pick_getD a o k hk
    have e2 : (pickL a (intsOf o))[k] = (pickL a (intsOf o)).getD k [] := by simp [List.getD, h1]
    have e3 : b[k] = b.getD k [] := by simp [List.getD, h2]
    rw [e2, e1, e3]
    have hbl := hb k h2
    apply List.ext_getElem (by rw [List.length_map]; exact hl.trans hbl.symm)
    intro j g1 g2
    have hj : j < o.length := by simpa using g1
    have h3 := h k hk j hj
    unfold ent at h3
    have e4 : (b.getD k [])[j] = (b.getD k []).getD j 0 := by
      generalize b.getD k [] = r at *
      simp [List.getD, g2]
    rw [e4, ← h3]
    simp [List.getD, hj, ent]
/-- the first order in which one matrix is another one -/
def isoO (a b : List (List Int)) : Option (List Nat) := if a.length = b.length then (ordsN a.length a.length).find? (agr a b) else none
def isoB (a b : List (List Int)) : Bool := (isoO a b).isSome
theorem take_filter {α : Type} (p : α → Bool) : ∀ l : List α, (l.filter p).take 1 = (l.find? p).toList
  | [] => rfl
  | x :: l => by
    rw [List.filter_cons, List.find?_cons]
    cases h : p x with
    | true => simp
    | false => simpa using take_filter p l
theorem iso_mt {a b : List (List Int)} (ha : IsC a) (hb : IsC b) (hl : a.length = b.length) : (mtF a b b.length []).take 1 = (isoO a b).toList := by
  unfold isoO
  rw [if_pos hl, mtF_orders a b hl (fun i j hi hj => by rw [dg ha hi, dg hb hj]), take_filter]
theorem iso_mem {a b : List (List Int)} {o : List Nat} (h : isoO a b = some o) : o.length = a.length := by
  unfold isoO at h
  split at h
  · exact (ordsN_mem (List.mem_of_find?_eq_some h)).1
  · cases h
theorem iso_to {a b : List (List Int)} (hl : a.length = b.length) {i : Nat} (hi : i < (ordsN a.length a.length).length) (h : ((ordsN a.length a.length).take i).find? (agr a b) = none) (hy : agr a b ((ordsN a.length a.length).getD i []) = true) : isoO a b = some ((ordsN a.length a.length).getD i []) := by
  unfold isoO
  rw [if_pos hl]
  generalize ordsN a.length a.length = L at *
  have e : L.find? (agr a b) = (L.take i ++ L.drop i).find? (agr a b) := by rw [List.take_append_drop]
  have e2 : L.getD i [] = L[i] := by simp [List.getD, hi]
  rw [e, List.find?_append, h, List.drop_eq_getElem_cons hi, e2]
  rw [e2] at hy
  rw [Option.none_or, List.find?_cons_of_pos hy]
theorem find_step {α : Type} {p : α → Bool} {l : List α} {i : Nat} {d : α} (hi : i < l.length) (h : (l.take i).find? p = none) (hn : p (l.getD i d) = false) : (l.take (i + 1)).find? p = none := by
  have e : l.take (i + 1) = l.take i ++ [l[i]] := List.take_succ_eq_append_getElem hi
  have e2 : l.getD i d = l[i] := by simp [List.getD, hi]
  rw [e2] at hn
  rw [e, List.find?_append, h, Option.none_or, List.find?_cons_of_neg (by rw [hn]; simp)]
  rfl
/-- the name of a connected matrix -/
def nameP (c : List (List Int)) : Bs := match types17.find? fun t => isoB c t.2 with
  | some t => t.1
  | none => [63]
def nameTo (c : List (List Int)) (k : Nat) : Option Bs := ((types17.take k).find? fun t => isoB c t.2).map (·.1)
theorem nameTo_step {c : List (List Int)} {k : Nat} (hk : k < 17) (h : nameTo c k = none) : nameTo c (k + 1) = if isoB c (types17.getD k tyD).2 = true then some (types17.getD k tyD).1 else none := by
  have hl : types17.length = 17 := rfl
  have hk' : k < types17.length := by rw [hl]; exact hk
  unfold nameTo at *
  rw [Option.map_eq_none_iff] at h
  have e : types17.take (k + 1) = types17.take k ++ [types17[k]] := List.take_succ_eq_append_getElem hk'
  have e2 : types17.getD k tyD = types17[k] := by simp [List.getD, hk']
  rw [e, e2, List.find?_append, h]
  cases hb : isoB c types17[k].2 <;> simp [List.find?, hb]
theorem nameP_found {c : List (List Int)} {k : Nat} (hk : k < 17) (h : nameTo c k = none) (hi : isoB c (types17.getD k tyD).2 = true) : nameP c = (types17.getD k tyD).1 := by
  have h1 := nameTo_step hk h
  rw [if_pos hi] at h1
  unfold nameTo at h1
  unfold nameP
  have e : types17.find? (fun t => isoB c t.2) = (types17.take (k + 1) ++ types17.drop (k + 1)).find? fun t => isoB c t.2 := by rw [List.take_append_drop]
  rw [e, List.find?_append]
  cases hf : (types17.take (k + 1)).find? fun t => isoB c t.2 with
  | none => rw [hf] at h1; simp at h1
  | some t =>
    rw [hf] at h1
    simp only [Option.map_some, Option.some.injEq] at h1
    exact h1
theorem nameP_none {c : List (List Int)} (h : nameTo c 17 = none) : nameP c = [63] := by
  have e : types17.take 17 = types17 := rfl
  unfold nameTo at h
  rw [e, Option.map_eq_none_iff] at h
  unfold nameP
  rw [h]
def sizeT (s : Bs) : Int :=
  if s = [65, 49] then 2 else if s = [65, 50] then 6 else if s = [65, 51] then 24 else if s = [65, 52] then 120 else if s = [66, 50] then 8
  else if s = [66, 51] ∨ s = [67, 51] then 48 else if s = [66, 52] ∨ s = [67, 52] then 384 else if s = [68, 52] then 192 else if s = [70, 52] then 1152 else if s = [71, 50] then 12 else 0
def names17 : List Bs := types17.map (·.1) ++ [[63]]
theorem nameP_mem (c : List (List Int)) : nameP c ∈ names17 := by
  unfold nameP
  split
  · rename_i t h
    exact List.mem_append_left _ (List.mem_map_of_mem (List.mem_of_find?_eq_some h))
  · exact List.mem_append_right _ (by simp)
theorem names_noX : ∀ s ∈ names17, (120 : UInt8) ∉ s ∧ s.length ≤ 3 ∧ 1 ≤ s.length ∧ 0 ≤ sizeT s ∧ sizeT s ≤ 1152 := by decide
end Go.Proofs.YtdedkfbiookofaaGreatDoor
namespace Go.Proofs.YtdedkfbiookofaaGreatDoor
set_option maxRecDepth 100000
open Go.RowKit
/-- a list of integers of the call's own that may be nil -/
def OrdV (w : World) (B : Nat) (v : Value) (xs : List Int) : Prop := (v = .slice none 0 0 ∧ xs = []) ∨ ∃ g c, v = (Value.slice (some ⟨g, 0, none⟩) xs.length c) ∧ Own w B g c xs
theorem OrdV.below {w w' : World} {B : Nat} {v : Value} {xs : List Int} (h : OrdV w B v xs) (hb : Below w.heap.size w w') : OrdV w' B v xs := by
  rcases h with h | ⟨g, c, h1, h2⟩
  · exact .inl h
  · exact .inr ⟨g, c, h1, h2.below hb h2.lt⟩
set_option maxHeartbeats 400000 in
theorem slices_Index_none (x : Int) (w : World) : Calls Tryz.prog 259 #[.slice none 0 0, .int .i64 x] w (Reads w (.int .i64 (-1))) := by
  go_enter Tryz.func259, Tryz.ntmps259
  go_wp2
  go_loopw [5, 8] (fun _ i wr => i = .int .i64 0 ∧ ∃ n, wr = w.drewN n) (fun _ _ _ => 0)
  case atStart => exact ⟨rfl, 0, rfl⟩
  case round =>
    obtain ⟨rfl, n, rfl⟩ := hrel
    go_wp2
    go_ret
    exact ⟨rfl, n, rfl⟩
set_option maxHeartbeats 400000 in
theorem slices_Index_at (g o n c : Nat) (x : Int) (xs : List Int) (w : World) (hn : xs.length = n) (hx : n ≤ 1099511627776) (hc : Cells w g o xs) :
    Calls Tryz.prog 259 #[(Value.slice (some ⟨g, o, none⟩) n c), .int .i64 x] w fun e w' => ∃ r : Int, e = .returned (.int .i64 r) ∧ (decide (0 ≤ r) = decide (x ∈ xs)) ∧ ∃ q, w' = w.drewN q := by
  subst hn
  go_enter Tryz.func259, Tryz.ntmps259
  go_wp2
  go_loopw [5, 8] (fun _ i wr => ∃ k : Nat, k ≤ xs.length ∧ i = .int .i64 k ∧ Hid (x ∉ xs.take k) ∧ ∃ n, wr = w.drewN n) (fun _ i _ => xs.length - (intOf i).toNat)
  case atStart => exact ⟨0, Nat.zero_le _, rfl, Lib.hid (by simp), 0, rfl⟩
  case round =>
    obtain ⟨k, hk, rfl, hno, n, rfl⟩ := hrel
    by_cases hlt : k < xs.length
    · have q1 := hc k hlt
      have hm : Hid (xs.getD k 0 = x → x ∈ xs) := fun e => by rw [← e]; simp [List.getD, hlt]
      have hno2 : Hid (¬ x = xs.getD k 0 → x ∉ xs.take (k + 1)) := fun e hmem => by
        rw [List.take_succ_eq_append_getElem hlt] at hmem
        rcases List.mem_append.1 hmem with h | h
        · exact hno.out h
        · have e3 : xs.getD k 0 = xs[k] := by simp [List.getD, hlt]
          rw [List.mem_singleton, ← e3] at h
          exact e h
      generalize xs.getD k 0 = y at *
      by_cases hxy : x = y
      · have Hm := Lib.hid (hm.out hxy.symm)
        subst hxy
        go_wp2
        go_ret
        exact ⟨k, rfl, (by first | exact ⟨fun _ => Hm.out, fun _ => by omega⟩ | (rw [decide_eq_true Hm.out]; simp)), n, rfl⟩
      · have Hn := Lib.hid (hno2.out hxy)
        have hb : (x == y) = false := by rw [beq_eq_false_iff_ne]; exact hxy
        clear hno2 hm
        go_wp2
        go_roundw
        case rel => exact ⟨k + 1, by omega, by go_num, Hn, n, rfl⟩
        case measure => simp [intOf]; omega
    · obtain rfl : k = xs.length := by omega
      have h := hno.out
      rw [List.take_length] at h
      have H := Lib.hid h
      clear hno h
      go_wp2
      go_ret
      exact ⟨-1, rfl, by rw [decide_eq_false H.out]; rfl, n, rfl⟩
set_option maxHeartbeats 400000 in
theorem slices_Contains_ord (v : Value) (B : Nat) (x : Int) (xs : List Int) (w : World) (hx : xs.length ≤ 1048576) (h : OrdV w B v xs) :
    Calls Tryz.prog 249 #[v, .int .i64 x] w (Reads w (.bool (decide (x ∈ xs)))) := by
  rcases h with ⟨rfl, rfl⟩ | ⟨g, c, rfl, ho⟩
  · have h1 := Lib.hid (slices_Index_none x w)
    go_enter Tryz.func249, Tryz.ntmps249
    go_wp2_with fail
    refine h1.out.mono ?_
    rintro e w1 ⟨rfl, hs⟩
    go_wp2_with fail
    go_ret
    exact ⟨ret_bool (by simp), hs⟩
  · have h1 := Lib.hid (slices_Index_at g 0 _ c x xs w rfl (by omega) ho.cells)
    go_enter Tryz.func249, Tryz.ntmps249
    go_wp2_with fail
    refine h1.out.mono ?_
    rintro e w1 ⟨r, rfl, hr, hs⟩
    have Hr := Lib.hid hr
    clear hr
    go_wp2_with fail
    go_ret
    exact ⟨ret_bool Hr.out, hs⟩
set_option maxHeartbeats 400000 in
theorem slices_Clone_ord (v : Value) (B : Nat) (xs : List Int) (w : World) (hx : xs.length ≤ 1048576) (h : OrdV w B v xs) :
    Calls Tryz.prog 46 #[v] w fun e w' => ∃ v', e = .returned v' ∧ OrdV w' w.heap.size v' xs ∧ (xs ≠ [] → ∃ g c, v' = (Value.slice (some ⟨g, 0, none⟩) xs.length c) ∧ Own w' w.heap.size g c xs) ∧ Below w.heap.size w w' := by
  rcases h with ⟨rfl, rfl⟩ | ⟨g, c, rfl, ho⟩
  · have hnil : ∀ W, (binOp .eql 25 (.slice none 0 0) (.slice none 0 0)).run Tryz.prog W = .ok (.bool true) W := fun W => by kernel_rfl
    go_enter Tryz.func46, Tryz.ntmps46
    go_wp2_with fail
    go_ret
    exact ⟨_, rfl, .inl ⟨rfl, rfl⟩, fun h => absurd rfl h, Below.refl _ _⟩
  · have hnil : ∀ W, (binOp .eql 25 (Value.slice (some ⟨g, 0, none⟩) xs.length c) (.slice none 0 0)).run Tryz.prog W = .ok (.bool false) W := fun W => Lib.run_eql_slice_nil W 25 3 _ _ _ _ _ Tryz.underlying25
    have hc := ho.cells
    have hg := ho.lt
    clear ho
    go_enter Tryz.func46, Tryz.ntmps46
    go_wp2_with (at_builtin; refine wpList_clone rfl _ _ rfl g 0 _ c xs rfl hg hc rfl rfl (by omega) ?_)
    intro g1 c1 w1 ho1 hb1
    go_wp2_with fail
    go_ret
    exact ⟨_, rfl, .inr ⟨g1, c1, rfl, ho1⟩, fun _ => ⟨g1, c1, rfl, ho1⟩, hb1⟩
theorem run_append_ord {w : World} {B : Nat} {v : Value} {xs : List Int} (h : OrdV w B v xs) (hB : B ≤ w.heap.size) (z : Int) (hx : xs.length + 1 ≤ 1048576) (ty : TypeId) :
    ∃ g c w', (Builtin.append_ #[25, 25] ty #[v, (Value.slice (some ⟨w.heap.size, 0, none⟩) 1 1)]).run Tryz.prog (w.alloc (.cells #[.int .i64 z] 3)) = .ok (Value.slice (some ⟨g, 0, none⟩) (xs.length + 1) c) w' ∧ Own w' B g c (xs ++ [z]) ∧ (v = .slice none 0 0 → Below w.heap.size w w') ∧ (∀ g0 n0 c0, v = (Value.slice (some ⟨g0, 0, none⟩) n0 c0) → w.grownBy w' (some g0)) := by
  rcases h with ⟨rfl, rfl⟩ | ⟨g, c, rfl, ho⟩
  · obtain ⟨i0, hi, hz0, hz1, hz2⟩ := info_parts info3
    have hnew := Own.new (w := w) (B := w.heap.size) z (Nat.le_refl _)
    have hown0 : (w.alloc (.cells #[.int .i64 z] 3)).ownsRow B 3 1 (.slice none 0 0) 0 [] := ⟨rfl, .inl ⟨rfl, rfl⟩⟩
    obtain ⟨v', w', hr, ho, hg, hiff⟩ := run_append_own (P := Tryz.prog) (w.alloc (.cells #[.int .i64 z] 3)) B 25 ty 3 i0 (.int .i64 0) 1 8 Tryz.underlying25 hi hz0 hz1 hz2 rfl (by decide) _ 0 _ hown0 ⟨w.heap.size, 0, none⟩ 1 1 [.int .i64 z] rfl
      (fun j u hu => by
        have hj : j = 0 := by have := (List.getElem?_eq_some_iff.1 hu).1; simp at this; exact this
        subst hj
        have := hnew.cell 0 (by simp)
        simp at hu
        rw [Addr.add_lit, Nat.add_zero, this, ← hu]
        rfl) (fun u hu => by simp at hu; subst hu; rfl) (by unfold maxLen; omega) (by omega) (by simp; omega)
    rcases ho.2 with ⟨h1, h2⟩ | ⟨g', cap', cur, hv, hb, hh, hn, hm, hs, htk⟩
    · exact absurd (hiff.1 h1).2 (by omega)
    · refine ⟨g', cap', w', ?_, ?_, fun _ => ?_, fun g0 n0 c0 e => by cases e⟩
      · rw [hr, hv]; rfl
      · show w'.ownsRow B 3 1 (Value.slice (some ⟨g', 0, none⟩) (([] ++ [z] : List Int).length) cap') _ _
        rw [hv] at ho
        exact ho
      · exact ((Below.refl _ _).alloc (Nat.le_refl _) _).grown hg (by simp) (by intro k hk; simp [Value.ownBlock] at hk)
  · obtain ⟨g', cap', w', hr, h1, h2, h3⟩ := run_append_ints (ho.alloc (.cells #[.int .i64 z] 3)) (Own.new (B := w.heap.size) z (Nat.le_refl _)).cells (c2 := 1) (by simp; omega) ty
    refine ⟨g', cap', w', hr, h1, (fun e => by cases e), fun g0 n0 c0 e => ?_⟩
    cases e
    exact ⟨h2.os, h2.tape, h2.output, Nat.le_trans (by simp) h2.size, fun k hk hne => (h2.block k (by simp; omega) hne).trans (Below.heap_alloc _ _ _ hk)⟩
end Go.Proofs.YtdedkfbiookofaaGreatDoor

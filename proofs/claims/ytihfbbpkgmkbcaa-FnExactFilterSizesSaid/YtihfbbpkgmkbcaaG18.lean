/- Lists of weights with counts: the canonical form, and putting into it. Plain law. -/
import Derived.Test.YtihfbbpkgmkbcaaG17
namespace Go.Proofs.Ytihfbbpkgmkbcaa
set_option maxRecDepth 100000
open Game

def cntW (l : List Wt) (v : List Int) : Int := (l.map fun x => if x.1 = v then x.2 else 0).sum
theorem cntW_cons (x : Wt) (l : List Wt) (v : List Int) : cntW (x :: l) v = (if x.1 = v then x.2 else 0) + cntW l v := by simp [cntW]
theorem cntW_app (l m : List Wt) (v : List Int) : cntW (l ++ m) v = cntW l v + cntW m v := by simp [cntW]
theorem cntW_none {l : List Wt} {v : List Int} (h : ∀ y ∈ l, y.1 ≠ v) : cntW l v = 0 := by
  induction l with
  | nil => rfl
  | cons x l ih =>
    rw [cntW_cons, if_neg (h x (by simp)), ih fun y hy => h y (by simp [hy])]
    rfl
theorem cntW_perm {l m : List Wt} (h : l.Perm m) (v : List Int) : cntW l v = cntW m v := by
  induction h with
  | nil => rfl
  | cons x _ ih => rw [cntW_cons, cntW_cons, ih]
  | swap x y l => rw [cntW_cons, cntW_cons, cntW_cons, cntW_cons]; omega
  | trans _ _ h1 h2 => exact h1.trans h2
def Desc (l : List Wt) : Prop := l.Pairwise fun x y => downCmp x.1 y.1 < 0
structure Can (l out : List Wt) : Prop where
  desc : Desc out
  nz : ∀ x ∈ out, x.2 ≠ 0
  cnt : ∀ v, cntW out v = cntW l v
theorem down_ne {u v : List Int} (h : downCmp u v < 0) : v ≠ u := by
  rintro rfl
  unfold downCmp at h
  rw [sliceCmp_self] at h
  omega
theorem down_tri (u v : List Int) : downCmp u v < 0 ∨ u = v ∨ downCmp v u < 0 := by
  unfold downCmp
  have := sliceCmp_anti u v
  rcases Int.lt_trichotomy (sliceCmp v u) 0 with h | h | h
  · exact .inl h
  · exact .inr (.inl (sliceCmp_zero h).symm)
  · exact .inr (.inr (by omega))
theorem down_trans {u v x : List Int} (h1 : downCmp u v < 0) (h2 : downCmp v x < 0) : downCmp u x < 0 := by
  unfold downCmp at *
  exact sliceCmp_trans _ _ _ h2 h1
theorem can_uniq : ∀ {a b : List Wt}, Desc a → Desc b → (∀ x ∈ a, x.2 ≠ 0) → (∀ x ∈ b, x.2 ≠ 0) → (∀ v, cntW a v = cntW b v) → a = b
  | [], [], _, _, _, _, _ => rfl
  | [], y :: ys, _, hb, _, nb, hc => by
    have h := hc y.1
    rw [cntW_cons, if_pos rfl, cntW_none fun z hz => down_ne ((List.pairwise_cons.1 hb).1 z hz)] at h
    exact absurd (show y.2 = 0 by simp [cntW] at h; omega) (nb y (by simp))
  | x :: xs, [], ha, _, na, _, hc => by
    have h := hc x.1
    rw [cntW_cons, if_pos rfl, cntW_none fun z hz => down_ne ((List.pairwise_cons.1 ha).1 z hz)] at h
    exact absurd (show x.2 = 0 by simp [cntW] at h; omega) (na x (by simp))
  | x :: xs, y :: ys, ha, hb, na, nb, hc => by
    have ha1 := (List.pairwise_cons.1 ha).1
    have hb1 := (List.pairwise_cons.1 hb).1
    rcases down_tri x.1 y.1 with h | h | h
    · have e := hc x.1
      rw [cntW_cons, if_pos rfl, cntW_none fun z hz => down_ne (ha1 z hz), cntW_none (l := y :: ys) fun z hz => by
        rcases List.mem_cons.1 hz with rfl | hz
        · exact down_ne h
        · exact down_ne (down_trans h (hb1 z hz))] at e
      exact absurd (by omega) (na x (by simp))
    · have e := hc x.1
      rw [cntW_cons, if_pos rfl, cntW_none fun z hz => down_ne (ha1 z hz), cntW_cons, if_pos h.symm, h, cntW_none fun z hz => down_ne (hb1 z hz)] at e
      have exy : x = y := Prod.ext h (by omega)
      subst exy
      have ht := can_uniq (List.pairwise_cons.1 ha).2 (List.pairwise_cons.1 hb).2 (fun z hz => na z (by simp [hz])) (fun z hz => nb z (by simp [hz])) fun v => by
        have := hc v
        rw [cntW_cons, cntW_cons] at this
        omega
      rw [ht]
    · have e := hc y.1
      rw [cntW_cons (x := y), if_pos rfl, cntW_none (l := ys) fun z hz => down_ne (hb1 z hz), cntW_none (l := x :: xs) fun z hz => by
        rcases List.mem_cons.1 hz with rfl | hz
        · exact down_ne h
        · exact down_ne (down_trans h (ha1 z hz))] at e
      exact absurd (by omega) (nb y (by simp))
/-- put a number to the count of a weight -/
def putW : List Wt → List Int → Int → List Wt
  | [], v, n => if n = 0 then [] else [(v, n)]
  | x :: xs, v, n => if x.1 = v then (if x.2 + n = 0 then xs else (x.1, x.2 + n) :: xs) else if downCmp v x.1 < 0 then (if n = 0 then x :: xs else (v, n) :: x :: xs) else x :: putW xs v n
theorem cnt_put (v : List Int) (n : Int) (u : List Int) : ∀ l : List Wt, cntW (putW l v n) u = cntW l u + if v = u then n else 0
  | [] => by
    unfold putW
    split
    · rename_i h; simp [cntW, h]
    · simp [cntW]
  | x :: xs => by
    unfold putW
    split
    · rename_i h
      split
      · rename_i h2
        rw [cntW_cons, h]
        split <;> omega
      · rw [cntW_cons, cntW_cons, h]
        split <;> omega
    · split
      · split
        · rename_i h; simp [h]
        · rw [cntW_cons]; show (if v = u then n else 0) + _ = _; omega
      · rw [cntW_cons, cntW_cons, cnt_put v n u xs]; omega
theorem mem_put (v : List Int) (n : Int) : ∀ (l : List Wt) (x : Wt), x ∈ putW l v n → x.1 = v ∨ ∃ y ∈ l, y.1 = x.1
  | [], x, h => by
    unfold putW at h
    split at h
    · simp at h
    · simp at h; exact .inl (by rw [h])
  | y :: ys, x, h => by
    unfold putW at h
    split at h
    · rename_i e
      split at h
      · exact .inr ⟨x, by simp [h], rfl⟩
      · rcases List.mem_cons.1 h with rfl | h
        · exact .inl e
        · exact .inr ⟨x, by simp [h], rfl⟩
    · split at h
      · split at h
        · exact .inr ⟨x, h, rfl⟩
        · rcases List.mem_cons.1 h with rfl | h
          · exact .inl rfl
          · exact .inr ⟨x, h, rfl⟩
      · rcases List.mem_cons.1 h with rfl | h
        · exact .inr ⟨x, by simp, rfl⟩
        · rcases mem_put v n ys x h with h | ⟨z, hz, e⟩
          · exact .inl h
          · exact .inr ⟨z, by simp [hz], e⟩
theorem desc_put (v : List Int) (n : Int) : ∀ l : List Wt, Desc l → Desc (putW l v n)
  | [], _ => by
    unfold putW
    split
    · exact List.Pairwise.nil
    · exact List.pairwise_singleton _ _
  | x :: xs, h => by
    have h1 := (List.pairwise_cons.1 h).1
    have h2 := (List.pairwise_cons.1 h).2
    unfold putW
    split
    · split
      · exact h2
      · exact List.pairwise_cons.2 ⟨h1, h2⟩
    · rename_i hne
      split
      · rename_i hlt
        split
        · exact h
        · refine List.pairwise_cons.2 ⟨fun y hy => ?_, h⟩
          rcases List.mem_cons.1 hy with rfl | hy
          · exact hlt
          · exact down_trans hlt (h1 y hy)
      · rename_i hnl
        refine List.pairwise_cons.2 ⟨fun y hy => ?_, desc_put v n xs h2⟩
        rcases mem_put v n xs y hy with e | ⟨z, hz, e⟩
        · rw [e]
          rcases down_tri x.1 v with g | g | g
          · exact g
          · exact absurd g hne
          · exact absurd g hnl
        · rw [← e]; exact h1 z hz
theorem nz_put (v : List Int) (n : Int) : ∀ l : List Wt, (∀ x ∈ l, x.2 ≠ 0) → ∀ x ∈ putW l v n, x.2 ≠ 0
  | [], _, x, hx => by
    unfold putW at hx
    split at hx
    · simp at hx
    · rename_i h; simp at hx; rw [hx]; exact h
  | y :: ys, h, x, hx => by
    unfold putW at hx
    split at hx
    · split at hx
      · exact h x (by simp [hx])
      · rename_i h2
        rcases List.mem_cons.1 hx with rfl | hx
        · exact h2
        · exact h x (by simp [hx])
    · split at hx
      · split at hx
        · exact h x hx
        · rename_i h2
          rcases List.mem_cons.1 hx with rfl | hx
          · exact h2
          · exact h x hx
      · rcases List.mem_cons.1 hx with rfl | hx
        · exact h x (by simp)
        · exact nz_put v n ys (fun z hz => h z (by simp [hz])) x hx
theorem Can.nil : Can [] [] := ⟨List.Pairwise.nil, by simp, fun _ => rfl⟩
theorem Can.put {l out : List Wt} (h : Can l out) (v : List Int) (n : Int) : Can (l ++ [(v, n)]) (putW out v n) :=
  ⟨desc_put v n out h.desc, nz_put v n out h.nz, fun u => by rw [cnt_put, h.cnt u, cntW_app, cntW_cons]; show _ = _ + ((if v = u then n else 0) + cntW [] u); simp [cntW]⟩
theorem Can.uniq {l a b : List Wt} (h : Can l a) (h' : Can l b) : a = b := can_uniq h.desc h'.desc h.nz h'.nz fun v => (h.cnt v).trans (h'.cnt v).symm
theorem Can.perm {l m out : List Wt} (h : Can l out) (hp : l.Perm m) : Can m out := ⟨h.desc, h.nz, fun v => (h.cnt v).trans (cntW_perm hp v)⟩
/-- the runs of a sorted list: one more at the end -/
def runW (acc : List Wt) (x : Wt) : List Wt := match acc.getLast? with
  | none => [x]
  | some u => if u.1 = x.1 then acc.dropLast ++ [(u.1, u.2 + x.2)] else acc ++ [x]
theorem cnt_run (acc : List Wt) (x : Wt) (v : List Int) : cntW (runW acc x) v = cntW acc v + cntW [x] v := by
  unfold runW
  split
  · rename_i h
    rw [List.getLast?_eq_none_iff] at h
    subst h
    simp [cntW]
  · rename_i u h
    obtain ⟨ys, rfl⟩ := List.getLast?_eq_some_iff.1 h
    split
    · rename_i e
      rw [List.dropLast_concat, cntW_app, cntW_app, cntW_cons, cntW_cons, cntW_cons, e]
      show _ + ((if x.1 = v then u.2 + x.2 else 0) + cntW [] v) = _
      simp only [cntW, List.map_nil, List.sum_nil]
      split <;> omega
    · rw [cntW_app]
theorem desc_run {acc : List Wt} {x : Wt} (h : Desc acc) (hl : ∀ u, acc.getLast? = some u → downCmp u.1 x.1 < 0 ∨ u.1 = x.1) : Desc (runW acc x) := by
  unfold runW
  split
  · exact List.pairwise_singleton _ _
  · rename_i u hu
    obtain ⟨ys, rfl⟩ := List.getLast?_eq_some_iff.1 hu
    have h1 := List.pairwise_append.1 h
    split
    · rw [List.dropLast_concat]
      exact List.pairwise_append.2 ⟨h1.1, List.pairwise_singleton _ _, fun a ha b hb => by
        rw [List.mem_singleton.1 hb]; exact h1.2.2 a ha u (by simp)⟩
    · rename_i hne
      have hux : downCmp u.1 x.1 < 0 := by rcases hl u hu with g | g; exact g; exact absurd g hne
      refine List.pairwise_append.2 ⟨h, List.pairwise_singleton _ _, fun a ha b hb => ?_⟩
      rw [List.mem_singleton.1 hb]
      rcases List.mem_append.1 ha with ha | ha
      · exact down_trans (h1.2.2 a ha u (by simp)) hux
      · rw [List.mem_singleton.1 ha]; exact hux
theorem last_run {acc : List Wt} {x u : Wt} (h : (runW acc x).getLast? = some u) : u.1 = x.1 := by
  unfold runW at h
  split at h
  · simp at h; rw [h]
  · rename_i t ht
    split at h
    · rename_i e
      simp at h
      rw [← h]
      exact e
    · simp at h; rw [h]
theorem runs_ok : ∀ (l acc : List Wt), Desc acc → (∀ u, acc.getLast? = some u → ∀ y ∈ l, ¬ downCmp y.1 u.1 < 0) → l.Pairwise (fun x y => ¬ downCmp y.1 x.1 < 0) →
    Desc (l.foldl runW acc) ∧ ∀ v, cntW (l.foldl runW acc) v = cntW acc v + cntW l v
  | [], acc, h, _, _ => ⟨h, fun v => by simp [cntW]⟩
  | x :: l, acc, h, hl, hp => by
    have hp1 := List.pairwise_cons.1 hp
    have h1 := runs_ok l (runW acc x) (desc_run h fun u hu => by
      have := hl u hu x (by simp)
      rcases down_tri u.1 x.1 with g | g | g
      · exact .inl g
      · exact .inr g
      · exact absurd g this) (fun u hu y hy => by rw [last_run hu]; exact hp1.1 y hy) hp1.2
    refine ⟨h1.1, fun v => ?_⟩
    show cntW (l.foldl runW (runW acc x)) v = _
    rw [h1.2 v, cnt_run, cntW_cons, cntW_cons]
    simp only [cntW, List.map_nil, List.sum_nil]
    omega
theorem cnt_filter (v : List Int) : ∀ l : List Wt, cntW (l.filter fun x => !(x.2 == 0)) v = cntW l v
  | [] => rfl
  | x :: l => by
    rw [List.filter_cons, cntW_cons]
    split
    · rw [cntW_cons, cnt_filter v l]
    · rename_i h
      have h0 : x.2 = 0 := by simpa using h
      rw [cnt_filter v l, h0]
      split <;> omega
/-- what summed leaves -/
theorem can_runs {l s : List Wt} (hp : s.Perm l) (hs : s.Pairwise fun x y => ¬ downCmp y.1 x.1 < 0) : Can l ((s.foldl runW []).filter fun x => !(x.2 == 0)) := by
  obtain ⟨h1, h2⟩ := runs_ok s [] List.Pairwise.nil (by simp) hs
  refine ⟨List.Pairwise.filter _ h1, fun x hx => ?_, fun v => ?_⟩
  · have := (List.mem_filter.1 hx).2
    simpa using this
  · rw [cnt_filter, h2 v, cntW_perm hp v]
    simp [cntW]
end Go.Proofs.Ytihfbbpkgmkbcaa

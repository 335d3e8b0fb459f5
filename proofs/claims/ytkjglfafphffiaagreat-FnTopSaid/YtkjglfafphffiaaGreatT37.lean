/- A path of braid moves is found where there are few reduced words. Plain law. Letters left out in pairs: what the deletions lead to, and back. Plain law. MakeClaim of the reference; what is made is small. Claims that are made are fit to be checked: plain. -/
import Derived.Test.YtkjglfafphffiaaGreatT36
import Derived.Test.YtkjglfafphffiaaGreatT32
import Derived.Test.YtkjglfafphffiaaGreatT27
import Derived.Deep.RegionWith
import Derived.Deep.Cut
import Derived.Deep.CutRange
import Derived.Test.YtkjglfafphffiaaGreatT08
namespace Go.Proofs.YtkjglfafphffiaaGreat
set_option maxRecDepth 100000
open Go.RowKit Game
/-- what the search for a path holds -/
structure BfOk (c : List (List Int)) (U a : List Int) (Q : List BNode) : Prop where
  nodup : (wordsB Q).Nodup
  red : ∀ y ∈ wordsB Q, RedOf c U y
  start : a ∈ wordsB Q
theorem wordsB_getD (Q : List BNode) (k : Nat) : (wordsB Q).getD k [] = (Q.getD k ([], [])).1 := by
  unfold wordsB
  simp only [List.getD, List.getElem?_map]
  cases Q[k]? <;> rfl
theorem BfOk.all {c : List (List Int)} {U a : List Int} {Q : List BNode} (h : BfOk c U a Q) (hd : RwDone c (wordsB Q) (wordsB Q).length) {y : List Int} (hy : RedOf c U y) : y ∈ wordsB Q := by
  have h0 := h.red a h.start
  refine h0.joined hy (· ∈ wordsB Q) h.start fun a b k ha hk hb => ?_
  obtain ⟨j, hj, rfl⟩ := List.mem_iff_getElem.1 ha
  have e : (wordsB Q).getD j [] = (wordsB Q)[j] := by simp [List.getD, hj]
  have := hd j hj (k : Int) (by rw [e]; exact placesL_yes hk (by rw [hb]; rfl))
  rw [e, hb] at this
  exact this
theorem BfOk.new {c : List (List Int)} {U a y p : List Int} {Q : List BNode} (h : BfOk c U a Q) (hy : RedOf c U y) (hn : y ∉ wordsB Q) : BfOk c U a (Q ++ [(y, p)]) := by
  have e : wordsB (Q ++ [(y, p)]) = wordsB Q ++ [y] := by simp [wordsB]
  refine ⟨?_, ?_, ?_⟩
  · rw [e]
    exact List.nodup_append.2 ⟨h.nodup, by simp, fun a ha b hb => by rw [List.mem_singleton] at hb; subst hb; intro e; exact hn (e ▸ ha)⟩
  · rw [e]
    intro z hz
    rcases List.mem_append.1 hz with g | g
    · exact h.red z g
    · rw [List.mem_singleton] at g; subst g; exact hy
  · rw [e]; exact List.mem_append_left _ h.start
theorem BfOk.len {c : List (List Int)} {U a : List Int} {Q : List BNode} (h : BfOk c U a Q) (hU : Nw c U) : Q.length ≤ (wordsL c U).length := by
  have := nodup_len h.nodup fun z hz => (mem_wordsL hU z).2 (h.red z hz)
  simpa [wordsB] using this
theorem BfOk.step {c : List (List Int)} {U a : List Int} {Q : List BNode} (h : BfOk c U a Q) (hU : Nw c U) (hc : (wordsL c U).length ≤ 120) {N : BNode} (hN : RedOf c U N.1) {p : Int} (hp : p ∈ placesL c N.1) :
    BfOk c U a (bpStep c N Q p) ∧ (braidA c N.1 p).getD N.1 ∈ wordsB (bpStep c N Q p) := by
  obtain ⟨y, hy⟩ := Option.isSome_iff_exists.1 (placesL_mem hp).2
  have hr := hN.braid hy
  rcases bpStep_cases c N Q p with ⟨e, g⟩ | ⟨e, g, -⟩
  · rw [e]
    refine ⟨h, ?_⟩
    rcases g with g | g
    · exact g
    · rw [hy]
      refine Classical.byContradiction fun hn => ?_
      have := (h.new (p := []) hr hn).len hU
      rw [List.length_append, List.length_singleton] at this
      omega
  · rw [hy] at g
    rw [e, hy]
    exact ⟨h.new hr g, by simp [wordsB]⟩
theorem bpRow_pre (c : List (List Int)) (N : BNode) (Q : List BNode) : ∀ t, t ≤ (placesL c N.1).length → ∃ L, bpRow c N Q t = Q ++ L
  | 0, _ => ⟨[], by simp [bpRow_zero]⟩
  | t + 1, ht => by
    obtain ⟨L, hL⟩ := bpRow_pre c N Q t (by omega)
    rw [bpRow_succ (by omega)]
    obtain ⟨M, hM⟩ := bpStep_pre c N (bpRow c N Q t) ((placesL c N.1).getD t 0)
    exact ⟨L ++ M, by rw [hM, hL, List.append_assoc]⟩
theorem BfOk.row {c : List (List Int)} {U a : List Int} {Q : List BNode} (h : BfOk c U a Q) (hU : Nw c U) (hc : (wordsL c U).length ≤ 120) {N : BNode} (hN : RedOf c U N.1) :
    ∀ t, t ≤ (placesL c N.1).length → BfOk c U a (bpRow c N Q t) ∧ RwRow c (wordsB (bpRow c N Q t)) N.1 t
  | 0, _ => ⟨h, fun t ht => absurd ht (by omega)⟩
  | t + 1, ht => by
    obtain ⟨h1, h2⟩ := h.row hU hc hN t (by omega)
    rw [bpRow_succ (by omega)]
    obtain ⟨h3, h4⟩ := h1.step hU hc hN (p := (placesL c N.1).getD t 0) (getD_memI (by omega))
    refine ⟨h3, RwRow.next (fun s hs => ?_) h4⟩
    obtain ⟨M, hM⟩ := bpStep_pre c N (bpRow c N Q t) ((placesL c N.1).getD t 0)
    rw [hM]
    have := h2 s hs
    unfold wordsB at this ⊢
    rw [List.map_append]
    exact List.mem_append_left _ this
theorem bpGo_some {c : List (List Int)} {U a b : List Int} (hU : Nw c U) (hc : (wordsL c U).length ≤ 120) (hb : RedOf c U b) : ∀ (f k : Nat) (Q : List BNode), f + k = 121 → k ≤ Q.length → BfOk c U a Q → RwDone c (wordsB Q) k →
    (∀ j, j < k → (Q.getD j ([], [])).1 ≠ b) → (bpGo c b f k Q).isSome = true
  | 0, k, Q, hf, hk, h, _, _ => by
    have := h.len hU
    omega
  | f + 1, k, Q, hf, hk, h, hd, hn => by
    by_cases hlt : k < Q.length
    · by_cases e : (Q.getD k ([], [])).1 = b
      · rw [bpGo_found hlt e]; rfl
      · rw [bpGo_next hlt e]
        have hN : RedOf c U (Q.getD k ([], [])).1 := h.red _ (List.mem_map.2 ⟨_, getD_mem hlt, rfl⟩)
        obtain ⟨h1, h2⟩ := h.row hU hc hN _ (Nat.le_refl _)
        obtain ⟨L, hL⟩ := bpRow_pre c (Q.getD k ([], [])) Q _ (Nat.le_refl _)
        have hpre : ∀ j, j ≤ k → ((Q ++ L).getD j ([], [])).1 = (Q.getD j ([], [])).1 := fun j hj => by rw [getD_pre (show j < Q.length by omega)]
        rw [hL] at h1 h2 ⊢
        refine bpGo_some hU hc hb f (k + 1) _ (by omega) (by rw [List.length_append]; omega) h1 ?_ fun j hj => ?_
        · refine RwDone.next (fun j hj x hx => ?_) ?_
          · rw [wordsB_getD, hpre j (by omega)] at hx ⊢
            have := hd j hj x (by rw [wordsB_getD]; exact hx)
            rw [wordsB_getD] at this
            unfold wordsB at this ⊢
            rw [List.map_append]
            exact List.mem_append_left _ this
          · rw [wordsB_getD, hpre k (Nat.le_refl _)]
            exact h2
        · rw [hpre j (by omega)]
          by_cases ej : j = k
          · rw [ej]; exact e
          · exact hn j (by omega)
    · have hk' : k = (wordsB Q).length := by simp [wordsB]; omega
      rw [hk'] at hd
      obtain ⟨j, hj, e⟩ := List.mem_iff_getElem.1 (h.all hd hb)
      exfalso
      refine hn j (by omega) ?_
      rw [← wordsB_getD, ← e]
      simp [List.getD, hj]
/-- with few reduced words there is a path from each to each -/
theorem bpR_some {c : List (List Int)} {U a b : List Int} (hU : Nw c U) (hc : (wordsL c U).length ≤ 120) (ha : RedOf c U a) (hb : RedOf c U b) : (bpR c a b).isSome = true :=
  bpGo_some hU hc hb 121 0 [(a, [])] rfl (by simp) (⟨by simp [wordsB], fun y hy => by simp [wordsB] at hy; subst hy; exact ha, by simp [wordsB]⟩ : BfOk c U a [(a, [])]) (fun j hj => absurd hj (by omega)) (fun j hj => absurd hj (by omega))
end Go.Proofs.YtkjglfafphffiaaGreat
namespace Go.Proofs.YtkjglfafphffiaaGreat
set_option maxRecDepth 100000
open Go.RowKit Game
/-- pairs of places left out, one pair after the other -/
def repG : List Int → List Int → Option (List Int)
  | w, [] => some w
  | _, [_] => none
  | w, i :: j :: l => if 0 ≤ i ∧ i < j ∧ j < (w.length : Int) then repG ((w.eraseIdx j.toNat).eraseIdx i.toNat) l else none
theorem repG_snoc : ∀ (l w : List Int) (i j : Int), repG w (l ++ [i, j]) = match repG w l with | none => none | some x => (if 0 ≤ i ∧ i < j ∧ j < (x.length : Int) then some ((x.eraseIdx j.toNat).eraseIdx i.toNat) else none)
  | [], w, i, j => by simp [repG]
  | [a], w, i, j => by
    show repG w (a :: i :: [j]) = _
    unfold repG
    split <;> rfl
  | a :: b :: l, w, i, j => by
    show repG w (a :: b :: (l ++ [i, j])) = match repG w (a :: b :: l) with | none => none | some x => _
    unfold repG
    split
    · exact repG_snoc l _ i j
    · rfl
theorem repG_even : ∀ (l w x : List Int), repG w l = some x → l.length % 2 = 0
  | [], _, _, _ => rfl
  | [_], _, _, h => by cases h
  | a :: b :: l, w, x, h => by
    unfold repG at h
    split at h
    · have := repG_even l _ x h
      simp only [List.length_cons]; omega
    · cases h
/-- what deletions have led to -/
structure DelTo (c : List (List Int)) (a x p : List Int) : Prop where
  word : WordOk c x
  img : imI c x = imI c a
  rep : repG a p = some x
theorem DelTo.start {c : List (List Int)} {a : List Int} (h : WordOk c a) : DelTo c a a [] := ⟨h, rfl, rfl⟩
theorem wordOk_erase {c : List (List Int)} {v : List Int} (h : WordOk c v) (k : Nat) : WordOk c (v.eraseIdx k) :=
  (lets_of h.isC (by have := h.few; have := List.length_eraseIdx_le v k; omega) fun x hx => h.lets.mem x (List.mem_of_mem_eraseIdx hx) : Lets c 15 _).word
theorem DelTo.step {c : List (List Int)} {a x p : List Int} (h : DelTo c a x p) {i j : Nat} (hij : i < j) (hj : j < x.length) (he : imI c ((x.eraseIdx j).eraseIdx i) = imI c x) :
    DelTo c a ((x.eraseIdx j).eraseIdx i) (p ++ [(i : Int), (j : Int)]) ∧ ((x.eraseIdx j).eraseIdx i).length + 2 = x.length := by
  refine ⟨⟨wordOk_erase (wordOk_erase h.word j) i, he.trans h.img, ?_⟩, ?_⟩
  · rw [repG_snoc, h.rep]
    show (if 0 ≤ (i : Int) ∧ (i : Int) < (j : Int) ∧ (j : Int) < (x.length : Int) then _ else none) = _
    rw [if_pos ⟨by omega, by omega, by omega⟩]
    rfl
  · have h1 : (x.eraseIdx j).length = x.length - 1 := by rw [List.length_eraseIdx]; simp [hj]
    have h2 : ((x.eraseIdx j).eraseIdx i).length = (x.eraseIdx j).length - 1 := by rw [List.length_eraseIdx]; rw [if_pos (by omega)]
    omega
/-- no pair of letters can be left out -/
def NoPair (c : List (List Int)) (x : List Int) : Prop := ∀ i j : Nat, i < j → j < x.length → imI c ((x.eraseIdx j).eraseIdx i) ≠ imI c x
theorem NoPair.red {c : List (List Int)} {x : List Int} (hW : WordOk c x) (h : NoPair c x) : redW c x = true := by
  cases hr : redW c x with
  | true => rfl
  | false =>
    obtain ⟨i, j, hij, hj, he⟩ := del_word hW hr
    exact absurd he (h i j hij hj)
/-- reduced words of one element: what the law looks at -/
theorem path_same {c : List (List Int)} {a b x y : List Int} {p q : List Int} (hx : DelTo c a x p) (hy : DelTo c b y q) (h : (pathA c x y).isSome = true) : imI c a = imI c b ∧ applyB c x ((pathA c x y).getD []) = some y := by
  have h1 := bpR_led (path_red h).2.2
  refine ⟨?_, by rw [applyB_true hx.word.isWord, h1]⟩
  rw [← hx.img, ← hy.img]
  exact (applyA_img hx.word h1).2.symm
theorem redOf_del {c : List (List Int)} {a b x : List Int} {p : List Int} (hx : DelTo c a x p) (hr : redW c x = true) (hs : imI c a = imI c b) : RedOf c (nfI c b) x := by
  refine ⟨hx.word, nfI_img (hx.img.trans hs), ?_⟩
  rw [redW_word hx.word.isWord] at hr
  have := of_decide_eq_true hr
  rw [← nfI_img (hx.img.trans hs)]
  exact this.symm
theorem path_found {c : List (List Int)} {a b x y : List Int} {p q : List Int} (hA : WordOk c a) (hx : DelTo c a x p) (hy : DelTo c b y q) (hrx : redW c x = true) (hry : redW c y = true) (hs : imI c a = imI c b) (hk : (wordsL c (nfI c a)).length ≤ 120) :
    (pathA c x y).isSome = true ∧ x ∈ wordsL c (nfI c a) ∧ y ∈ wordsL c (nfI c a) := by
  have h1 := redOf_del hx hrx (b := a) rfl
  have h2 := redOf_del hy hry (b := a) hs.symm
  have hU := nw_nf hA
  refine ⟨?_, (mem_wordsL hU x).2 h1, (mem_wordsL hU y).2 h2⟩
  unfold pathA
  rw [if_pos hrx, if_pos hry]
  exact bpR_some hU hk h1 h2
end Go.Proofs.YtkjglfafphffiaaGreat
namespace Go.Proofs.YtkjglfafphffiaaGreat
set_option maxRecDepth 100000
open Go.RowKit Game
theorem okM_true {kd : Int} {c : List (List Int)} {a b : List Int} (h : okM kd c a b = true) : (isWordB c a && isWordB c b) = true ∧ 1 ≤ kd ∧ kd ≤ 6 := by
  unfold okM at h
  rw [Bool.and_eq_true] at h
  refine ⟨h.1, ?_⟩
  have h2 := h.2
  unfold okC at h2
  repeat' split at h2
  all_goals first | omega | cases h2
theorem HeldC.shape {w : World} {B E : Nat} {v : Value} {x : ClaimD} (h : HeldC w B E v x) : ∃ p1 c1 p2 c2 p3 c3 p4 c4 p5 c5, v = .agg #[.int .i64 x.kind, .slice p1 x.cartan.length c1, .slice p2 x.a.length c2, .slice p3 x.b.length c3, .slice p4 x.proof.length c4, .slice p5 x.roots.length c5] := by
  obtain ⟨v1, v2, v3, v4, v5, E1, E2, E3, E4, rfl, hI, a1, a2, a3, a4, a5⟩ := h
  obtain ⟨p1, c1', rfl⟩ := a1.shape
  obtain ⟨p2, c2', rfl⟩ := a2.shape
  obtain ⟨p3, c3', rfl⟩ := a3.shape
  obtain ⟨p4, c4', rfl⟩ := a4.shape
  obtain ⟨p5, c5', rfl⟩ := a5.shape
  exact ⟨_, _, _, _, _, _, _, _, _, _, rfl⟩
theorem rowsFew_ofC {rows : List (List Int)} (h1 : rows.length ≤ 200) (h2 : ∀ x ∈ rows, x.length ≤ 15) : rowsFew rows := by
  have h3 : ∀ j, j < rows.length → (rows.getD j []).length ≤ 15 := fun j hj => h2 _ (by simp [List.getD, hj])
  refine ⟨by omega, fun j hj => by have := h3 j hj; omega, ?_⟩
  have : ∀ k, k ≤ rows.length → sumLen rows k ≤ 15 * k := by
    intro k
    induction k with
    | zero => intro _; simp [sumLen]
    | succ k ih =>
      intro hk
      rw [sumLen_succ _ _ (by omega)]
      have := h3 k (by omega)
      have := ih (by omega)
      omega
  have := this rows.length (Nat.le_refl _)
  omega
theorem make_small {kd : Int} {c : List (List Int)} {a b : List Int} (hc : rowsFew c) (ha : a.length ≤ 1048576) (hb : b.length ≤ 1048576) : ClSmall (makeC kd c a b) := by
  have hz : rowsFew ([] : List (List Int)) := rowsFew_ofC (by simp) (by simp)
  unfold makeC
  split
  · rename_i hok
    have hw := (okM_true hok).1
    rw [Bool.and_eq_true] at hw
    have hA := wordOk_of hw.1
    have hB := wordOk_of hw.2
    have hn4 := hA.isC.2.1
    refine ⟨hc, ha, hb, ?_, ?_⟩
    · show (proofC kd c a b).length ≤ 1048576
      unfold proofC
      split
      · cases hp : pathA c a b with
        | none => simp
        | some p => have := (pathA_len hA hp).1; simp; omega
      · split
        · split
          · have h1 := subP_len (c := c) (nfI c b) 0 (nfI c a)
            have h2 := (nw_nf hB).lets.few
            show (subP c (nfI c b) 0 (nfI c a)).length ≤ _
            omega
          · simp
        · split
          · have h1 := dropL_len (c := c) (nfI c b) (nfI c a)
            have h2 := (nw_nf hB).lets.few
            omega
          · split
            · have := witness_len c; omega
            · simp
    · show rowsFew (rootsC kd c a)
      unfold rootsC
      split
      · rw [show seqA c a = seqL c a from if_pos hA.isWord]
        have hl := hA.few
        refine rowsFew_ofC (by simp [seqL]; omega) fun x hx => ?_
        unfold seqL at hx
        obtain ⟨k, -, rfl⟩ := List.mem_map.1 hx
        rw [actR_length, simpL_length]; omega
      · exact hz
  · exact ⟨hz, by simp [zeroC], by simp [zeroC], by simp [zeroC], hz⟩
end Go.Proofs.YtkjglfafphffiaaGreat
namespace Go.Proofs.YtkjglfafphffiaaGreat
set_option maxRecDepth 100000
open Go.RowKit Game
theorem MayI.ints {w : World} {B E g n c : Nat} {v : Value} {xs : List Int} (h : MayI w B E v xs) (hv : v = (Value.slice (some ⟨g, 0, none⟩) n c)) : IntsV w v xs := by
  rcases h with ⟨rfl, -⟩ | ⟨g', cap, rfl, ho, -⟩
  · cases hv
  · exact ⟨g', 0, xs.length, cap, rfl, rfl, ho.capLe, ho.lt, ho.cells⟩
theorem MayR.rows {w : World} {B E g n c : Nat} {v : Value} {rows : List (List Int)} (h : MayR w B E v rows) (hv : v = (Value.slice (some ⟨g, 0, none⟩) n c)) : RowsV w v rows := by
  rcases h with ⟨rfl, -⟩ | ⟨g', cap, rfl, rs, hc, ho, -, -⟩
  · cases hv
  · refine ⟨g', 0, rows.length, cap, rfl, rfl, by rw [← hc, contents_length]; exact ho.capLe, ho.lt, ?_⟩
    rw [← hc]; exact ho.rows2
theorem HeldC.toN {w : World} {B E : Nat} {v : Value} {x : ClaimD} (h : HeldC w B E v x) (hn : NN x.kind v) (h1 : 1 ≤ x.kind) : ClaimN w v x := by
  obtain ⟨v1, v2, v3, v4, v5, E1, E2, E3, E4, rfl, -, a1, a2, a3, a4, a5⟩ := h
  obtain ⟨u0, u1, u2, u3, u4, u5, e, q1, q4, q5⟩ := hn
  obtain ⟨p4, c4, e4⟩ := a4.shape
  obtain ⟨p5, c5, e5⟩ := a5.shape
  simp only [Value.agg.injEq, Array.mk.injEq, List.cons.injEq, and_true] at e
  obtain ⟨rfl, rfl, rfl, rfl, rfl, rfl⟩ := e
  obtain ⟨⟨_, _, _, f1⟩, ⟨_, _, _, f2⟩, ⟨_, _, _, f3⟩⟩ := q1 h1
  refine ⟨v1, v2, v3, p4, x.proof.length, c4, p5, x.roots.length, c5, by rw [e4, e5], a1.rows f1, a2.ints f2, a3.ints f3, fun h2 h5 => ?_, fun h6 => ?_⟩
  · obtain ⟨_, _, _, f4⟩ := q4 h2 h5
    rw [← e4]; exact a4.ints f4
  · obtain ⟨_, _, _, f5⟩ := q5 h6
    rw [← e5]; exact a5.rows f5
theorem ClSmall.toFew {x : ClaimD} (h : ClSmall x) : claimFew x := ⟨⟨h.c.1, h.c.2.1⟩, h.a, h.b, h.p, ⟨h.r.1, h.r.2.1⟩⟩
theorem dropL_mem {c : List (List Int)} : ∀ (V U : List Int), ∀ x ∈ dropL c V U, x ∈ V
  | [], U => by simp [dropL]
  | s :: V, U => fun x hx => by
    unfold dropL at hx
    split at hx
    · rcases List.mem_cons.1 hx with h | h
      · rw [h]; exact List.mem_cons_self ..
      · exact List.mem_cons_of_mem _ (dropL_mem V _ x h)
    · cases hx
theorem setL16 : ∀ q, q < 16 → ∀ x ∈ setL q, (0 : Int) ≤ x ∧ x < 4 := by decide +kernel
theorem witness_in (c : List (List Int)) : ∀ x ∈ witness c, (0 : Int) ≤ x ∧ x < 4 := by
  intro x hx
  unfold witness at hx
  split at hx
  · rename_i hC
    have h4 : 2 ^ c.length ≤ 16 := Nat.le_trans (Nat.pow_le_pow_right (by decide) hC.2.1) (by decide)
    rcases witFrom_get (c := c) (2 ^ c.length - 1) 1 with h | ⟨q, h1, h2, -, h⟩
    · rw [h] at hx; cases hx
    · rw [h] at hx
      exact setL16 q (by omega) x hx
  · cases hx
theorem make_in {kd : Int} {c : List (List Int)} {a b : List Int} : ∀ x ∈ (makeC kd c a b).proof, (0 : Int) ≤ x ∧ x < 1000 := by
  unfold makeC
  split
  · rename_i hok
    have hw := (okM_true hok).1
    rw [Bool.and_eq_true] at hw
    have hA := wordOk_of hw.1
    have hB := wordOk_of hw.2
    show ∀ x ∈ proofC kd c a b, _
    intro x hx
    unfold proofC at hx
    split at hx
    · cases hp : pathA c a b with
      | none => rw [hp] at hx; cases hx
      | some p =>
        rw [hp] at hx
        have := (pathA_len hA hp).2 x hx
        omega
    · split at hx
      · split at hx
        · have h1 := (subP_asc (c := c) (nfI c b) 0 (nfI c a)).1 x hx
          have h2 := (nw_nf hB).lets.few
          omega
        · cases hx
      · split at hx
        · have h1 := (nw_nf hB).lets.mem x (dropL_mem _ _ x hx)
          have h2 := hB.isC.2.1
          omega
        · split at hx
          · have := witness_in c x hx
            omega
          · cases hx
  · intro x hx
    cases hx
theorem make_wf {kd : Int} {c : List (List Int)} {a b : List Int} : proofWf (makeC kd c a b) := fun k hk => by
  have hm : (makeC kd c a b).proof.getD k 0 ∈ (makeC kd c a b).proof := by simp [List.getD, hk]
  have := make_in (kd := kd) (c := c) (a := a) (b := b) _ hm
  omega
theorem make_kind {kd : Int} {c : List (List Int)} {a b : List Int} (h : okM kd c a b = true) : (makeC kd c a b).kind = kd ∧ 1 ≤ kd := by
  unfold makeC
  rw [if_pos h]
  exact ⟨rfl, (okM_true h).2.1⟩
theorem path_wf {c : List (List Int)} {a b : List Int} (hA : WordOk c a) : ((pathA c a b).getD []).length ≤ 120 ∧ ∀ k, k < ((pathA c a b).getD []).length → -9223372036854775808 ≤ ((pathA c a b).getD []).getD k 0 ∧ ((pathA c a b).getD []).getD k 0 ≤ 9223372036854775807 := by
  cases hp : pathA c a b with
  | none => exact ⟨by simp, fun k hk => absurd hk (by simp)⟩
  | some p =>
    obtain ⟨h1, h2⟩ := pathA_len hA hp
    refine ⟨h1, fun k hk => ?_⟩
    have hm : p.getD k 0 ∈ p := by simp at hk; simp [List.getD, hk]
    have := h2 _ hm
    simp only [Option.getD_some]
    omega
theorem rwL_few {c : List (List Int)} {u : List Int} (hU : WordOk c u) : (rwL c u).length ≤ 120 ∧ ∀ x ∈ rwL c u, x.length ≤ 15 := by
  unfold rwL
  split
  · split
    · rename_i h
      refine ⟨h, fun x hx => ?_⟩
      exact ((mem_wordsL (nw_nf hU) x).1 hx).1.few
    · exact ⟨by simp, fun x hx => by cases hx⟩
  · exact ⟨by simp, fun x hx => by cases hx⟩
end Go.Proofs.YtkjglfafphffiaaGreat

/- The laws' own helpers for slices of slices: toIntSS, eqIntSS, szIntS, szIntSS. -/
import Derived.Test.YtihfbbpkgmkbcaaRw
namespace Go.Proofs.Ytihfbbpkgmkbcaa
set_option maxRecDepth 100000
open Go.RowKit

/-- what is left of a size, or -1 -/
def szL (n : Nat) (left : Int) : Int := if left - n < 0 then -1 else left - n

set_option maxHeartbeats 400000 in
theorem szIntS_any (a : Option Addr) (n c : Nat) (left : Int) (w : World) (hl : 0 ≤ left ∧ left ≤ 1048576) (hn : n ≤ 9223372036854775807) :
    Calls Try.prog 25 #[.slice a n c, .int .i64 left] w (Reads w (.int .i64 (szL n left))) := by
  have e0 : IntKind.i64.wrap (left - (n : Int)) = left - n := IntWalk.i64_in _ (by omega)
  by_cases h : left - (n : Int) < 0
  · have e : szL n left = -1 := by unfold szL; rw [if_pos h]
    rw [e]
    go_enter Try.func25, Try.ntmps25
    go_wp2
    go_ret
    exact ⟨rfl, 0, rfl⟩
  · have e : szL n left = left - n := by unfold szL; rw [if_neg h]
    rw [e]
    go_enter Try.func25, Try.ntmps25
    go_wp2
    go_ret
    exact ⟨rfl, 0, rfl⟩

/-- the sum of the rows' lengths, of the first k -/
def sumLen (rows : List (List Int)) (k : Nat) : Nat := (rows.take k).foldl (fun s r => s + r.length) 0
theorem sumLen_succ (rows : List (List Int)) (k : Nat) (hk : k < rows.length) : sumLen rows (k + 1) = sumLen rows k + (rows.getD k []).length := by
  unfold sumLen
  rw [List.take_succ_eq_append_getElem hk, List.foldl_append]
  simp [List.getD, hk]
theorem sumLen_mono (rows : List (List Int)) {k n : Nat} (h : k ≤ n) : sumLen rows k ≤ sumLen rows n := by
  induction n with
  | zero => obtain rfl : k = 0 := by omega
            exact Nat.le_refl _
  | succ n ih =>
    by_cases e : k = n + 1
    · subst e; exact Nat.le_refl _
    · have h1 := ih (by omega)
      by_cases hn : n < rows.length
      · rw [sumLen_succ _ _ hn]; omega
      · have e2 : sumLen rows (n + 1) = sumLen rows n := by
          unfold sumLen; rw [List.take_of_length_le (by omega), List.take_of_length_le (by omega)]
        omega
/-- what is left of a size behind a slice of slices, or -1 -/
def szLL (rows : List (List Int)) (left : Int) : Int := if left - rows.length - sumLen rows rows.length < 0 then -1 else left - rows.length - sumLen rows rows.length

set_option maxHeartbeats 400000 in
theorem szIntSS_any (a : Option Addr) (n c : Nat) (rows : List (List Int)) (left : Int) (w : World) (hlen : rows.length = n) (hl : 0 ≤ left ∧ left ≤ 1048576) (hn : n ≤ 9223372036854775807)
    (hrl : ∀ j, j < rows.length → (rows.getD j []).length ≤ 9223372036854775807) (ha : ArgRows w a rows) :
    Calls Try.prog 6 #[.slice a n c, .int .i64 left] w (Reads w (.int .i64 (szLL rows left))) := by
  subst hlen
  have e0 : IntKind.i64.wrap (left - (rows.length : Int)) = left - rows.length := IntWalk.i64_in _ (by omega)
  by_cases h : left - (rows.length : Int) < 0
  · have e : szLL rows left = -1 := by unfold szLL; rw [if_pos (by omega)]
    rw [e]
    go_enter Try.func6, Try.ntmps6
    go_wp2
    go_ret
    exact ⟨rfl, 0, rfl⟩
  · go_enter Try.func6, Try.ntmps6
    go_wp2
    go_loopw [1, 5] (fun l i wr => ∃ k : Nat, k ≤ rows.length ∧ i = .int .i64 k ∧ l = .int .i64 (left - rows.length - sumLen rows k) ∧ 0 ≤ left - rows.length - sumLen rows k ∧ ∃ m, wr = w.drewN m) (fun _ i _ => rows.length - (intOf i).toNat)
    case atStart => exact ⟨0, Nat.zero_le _, rfl, by simp [sumLen], by simp [sumLen]; omega, 0, rfl⟩
    case round =>
      obtain ⟨k, hk, rfl, rfl, h0, m, rfl⟩ := hrel
      by_cases hlt : k < rows.length
      · rcases ha with rfl | ⟨g, o, rfl, hg, hc⟩
        · simp at hlt
        obtain ⟨aj, cj, hcell, hai⟩ := hc k hlt
        have hrk := hrl k hlt
        have hsum := sumLen_succ rows k hlt
        obtain ⟨R, hR⟩ : ∃ R, rows.getD k [] = R := ⟨_, rfl⟩
        rw [hR] at hcell hai hrk hsum
        have Hsum := Lib.hid hsum; have HR := Lib.hid hR
        clear hsum hR hai
        obtain ⟨S, hS⟩ : ∃ S : Nat, sumLen rows k = S := ⟨_, rfl⟩
        rw [hS] at h0 Hsum ⊢
        have HS := Lib.hid hS; clear hS
        have hm := sumLen_mono rows (k := k + 1) (n := rows.length) hlt
        have Hm := Lib.hid hm; clear hm
        by_cases hneg : left - rows.length - S - (R.length : Int) < 0
        · have hcall := szIntS_any aj R.length cj (left - rows.length - S) (w.drewN m) (by omega) hrk
          rw [show szL R.length (left - rows.length - S) = -1 from by unfold szL; rw [if_pos hneg]] at hcall
          have Hcall := Lib.hid hcall; clear hcall
          go_wp2_with fail
          refine Hcall.out.mono ?_
          rintro e w' ⟨rfl, m', rfl⟩
          go_wp2
          go_ret
          refine ⟨ret_int ?_, (by first | exact ⟨_, rfl⟩ | exact ⟨0, rfl⟩ | exact still2 _ _ _ | exact still3 _ _ _ _)⟩
          unfold szLL
          have h1 := Hsum.out; have h2 := Hm.out
          rw [if_pos (by omega)]
        · have hcall := szIntS_any aj R.length cj (left - rows.length - S) (w.drewN m) (by omega) hrk
          rw [show szL R.length (left - rows.length - S) = left - rows.length - S - R.length from by unfold szL; rw [if_neg hneg]] at hcall
          have Hcall := Lib.hid hcall; clear hcall
          go_wp2_with fail
          refine Hcall.out.mono ?_
          rintro e w' ⟨rfl, m', rfl⟩
          go_wp2
          go_roundw
          case rel => exact ⟨k + 1, by omega, by go_num, by rw [Hsum.out]; go_num, by rw [Hsum.out]; omega, (by first | exact ⟨_, rfl⟩ | exact ⟨0, rfl⟩ | exact still2 _ _ _ | exact still3 _ _ _ _)⟩
          case measure => simp [intOf]; omega
      · obtain rfl : k = rows.length := by omega
        go_wp2
        go_ret
        exact ⟨ret_int (by unfold szLL; rw [if_neg (by omega)]), (by first | exact ⟨_, rfl⟩ | exact ⟨0, rfl⟩ | exact still2 _ _ _ | exact still3 _ _ _ _)⟩

theorem contents_append (rs : List RowRef) (r : RowRef) : contents (rs ++ [r]) = contents rs ++ [r.2.2] := by simp [contents]
theorem contents_length (rs : List RowRef) : (contents rs).length = rs.length := by simp [contents]

theorem fill_rows (rs : List RowRef) (r : RowRef) {k n : Nat} (hlt : rs.length < n) (hk : rs.length = k) :
    (rs.map rowVal ++ List.replicate (n - k) (Value.slice none 0 0)).set k (Value.slice (some ⟨r.1, 0, none⟩) r.2.2.length r.2.1) = (rs ++ [r]).map rowVal ++ List.replicate (n - (k + 1)) (Value.slice none 0 0) := by
  subst hk
  have e : n - rs.length = (n - (rs.length + 1)) + 1 := by omega
  rw [List.set_append_right _ _ (by simp), e, List.replicate_succ]
  simp [rowVal]

set_option maxHeartbeats 1000000 in
theorem toIntSS_any (a : Option Addr) (n c : Nat) (rows : List (List Int)) (w : World) (hlen : rows.length = n) (hn : n ≤ 1048576) (hrl : ∀ j, j < rows.length → (rows.getD j []).length ≤ 1099511627776) (ha : ArgRows w a rows) :
    Calls Try.prog 9 #[.slice a n c] w (GotRows w rows) := by
  subst hlen
  go_enter Try.func9, Try.ntmps9
  go_wp2_with (at_make; refine wpList_make_rows rfl _ _ rfl w.heap.size rows.length _ rfl rfl rfl (by omega) (Nat.le_refl _) ?_)
  intro w1 hown0 hgr
  have hb0 := below_of_grown hgr
  clear hgr
  go_wp2
  go_loopw [4] (fun i wr => ∃ (k : Nat) (rs : List RowRef), k ≤ rows.length ∧ i = .int .i64 k ∧ Hid (contents rs = rows.take k) ∧ OwnV wr w.heap.size 35 w.heap.size rows.length (rs.map rowVal ++ List.replicate (rows.length - k) (.slice none 0 0)) ∧ Inner wr w.heap.size rs ∧ Below w.heap.size w wr) (fun i _ => rows.length - (intOf i).toNat)
  case atStart => exact ⟨0, [], Nat.zero_le _, rfl, rfl, by simpa using hown0, ⟨by simp, by simp⟩, hb0⟩
  case round =>
    obtain ⟨k, rs, hk, rfl, hcon, ho, hin, hb⟩ := hrel
    have hrs : rs.length = k := by have := congrArg List.length hcon.out; rw [contents_length, List.length_take] at this; omega
    have Hrs := Lib.hid hrs; clear hrs
    by_cases hlt : k < rows.length
    · have ha' := ha.below hb
      rcases ha' with h | ⟨g, o, rfl, hg, hc⟩
      · rw [h] at hlt; simp at hlt
      obtain ⟨aj, cj, hcell, hai⟩ := hc k hlt
      have hrk := hrl k hlt
      obtain ⟨R, hR⟩ : ∃ R, rows.getD k [] = R := ⟨_, rfl⟩
      rw [hR] at hcell hai hrk
      have HR := Lib.hid hR; clear hR
      have hl : (rs.map rowVal ++ List.replicate (rows.length - k) (Value.slice none 0 0)).length = rows.length := by simp [Hrs.out]; omega
      have h1 := ho.cell k (by rw [hl]; exact hlt)
      have h2 := ho.frozen k
      have hv : (rs.map rowVal ++ List.replicate (rows.length - k) (Value.slice none 0 0))[k]'(by rw [hl]; exact hlt) = .slice none 0 0 := by
        rw [List.getElem_append_right (by simp [Hrs.out])]
        simp
      rw [hv] at h1
      clear hv hl
      go_wp2_with fail
      refine (toIntS_any aj cj R wr hrk hai).mono ?_
      rintro e w2 ⟨g1, c1, rfl, ho1, hb1⟩
      have ho2 := ho.below hb1 ho.lt
      have h1' := (hb1.cell (p := ⟨w.heap.size, k, none⟩) ho.lt).trans h1
      have h2' := ho2.frozen k
      have hset := ho2.set k (Value.slice (some ⟨g1, 0, none⟩) R.length c1)
      have Hset := Lib.hid hset
      clear hset h1 h2
      go_wp2
      go_roundw
      case rel =>
        have hs := Hset.out
        rw [fill_rows rs (g1, c1, R) (by rw [Hrs.out]; exact hlt) Hrs.out] at hs
        have hb2 := hb.trans (hb1.mono hb.size)
        have hne : w.heap.size ≠ g1 := by have h3 := ho.lt; have h4 := ho1.base; omega
        refine ⟨k + 1, rs ++ [(g1, c1, R)], by omega, by go_num, ?_, hs.1, ?_, hb2.grown hs.2 hb2.size (by intro j hj; cases hj; exact Nat.le_refl _)⟩
        · show contents _ = _
          rw [contents_append, hcon.out, List.take_succ_eq_append_getElem hlt, ← HR.out]
          simp [List.getD, hlt]
        · have hin2 := (hin.below hb1).append (r := (g1, c1, R)) (ho1.mono hb.size) (fun s hs' => by have h3 := (hin.1 s hs').lt; have h4 := ho1.base; show s.1 ≠ g1; omega)
          refine ⟨fun r hr => (hin2.1 r hr).grown hs.2 ?_, hin2.2⟩
          intro e
          exact ho2.ne (hin2.1 r hr).toV (by decide) (Option.some.inj e).symm
      case measure => simp [intOf]; omega
    · obtain rfl : k = rows.length := by omega
      go_wp2
      go_ret
      have hcon' := hcon.out
      rw [List.take_length] at hcon'
      rw [Nat.sub_self, List.replicate_zero, List.append_nil] at ho
      exact ⟨w.heap.size, rows.length, rs, rfl, hcon', ⟨ho, hin⟩, hb⟩

theorem Reads.quiet3 {f : FuncId} {args : Array Value} {w : World} {m n : Nat} {v : Value} (h : Calls Try.prog f args (w.drewN (m + n)) (Reads (w.drewN (m + n)) v)) :
    Calls Try.prog f args (w.drewN (m + n)) fun e w'' => e = .returned v ∧ ∃ k, w'' = w.drewN (m + k) :=
  h.mono fun _ _ ⟨he, k, hk⟩ => ⟨he, n + k, by rw [hk, World.drewN_drewN, Nat.add_assoc]⟩

set_option maxHeartbeats 1000000 in
theorem eqIntSS_same (g1 o1 n1 c1 g2 o2 n2 c2 : Nat) (rows : List (List Int)) (w : World) (h1 : rows.length = n1) (h2 : rows.length = n2) (hx : rows.length ≤ 1048576) (hrl : ∀ j, j < rows.length → (rows.getD j []).length ≤ 1099511627776)
    (hr1 : Rows2 w g1 o1 rows) (hr2 : Rows2 w g2 o2 rows) : Calls Try.prog 13 #[(Value.slice (some ⟨g1, o1, none⟩) n1 c1), (Value.slice (some ⟨g2, o2, none⟩) n2 c2)] w (Reads w (.bool true)) := by
  subst h1; subst h2
  go_enter Try.func13, Try.ntmps13
  go_wp2
  go_loopw [5] (fun i wr => ∃ k : Nat, k ≤ rows.length ∧ i = .int .i64 k ∧ ∃ m, wr = w.drewN m) (fun i _ => rows.length - (intOf i).toNat)
  case atStart => exact ⟨0, Nat.zero_le _, rfl, 0, rfl⟩
  case round =>
    obtain ⟨k, hk, rfl, m, rfl⟩ := hrel
    by_cases hlt : k < rows.length
    · obtain ⟨ga, oa, ca, q1, q2, q3, q4⟩ := hr1 k hlt
      obtain ⟨gb, ob, cb, p1, p2, p3, p4⟩ := hr2 k hlt
      have hrk := hrl k hlt
      obtain ⟨R, hR⟩ : ∃ R, rows.getD k [] = R := ⟨_, rfl⟩
      rw [hR] at q1 q2 q4 p1 p2 p4 hrk
      clear hR hr1 hr2 hrl
      go_wp2
      go_quiet ((go_at_call 20; exact Reads.quiet3 (eqIntS_same ga oa _ ca gb ob _ cb R _ rfl rfl hrk q4 p4)))
      go_wp2
      go_roundw
      case rel => exact ⟨k + 1, by omega, by go_num, (by first | exact ⟨_, rfl⟩ | exact ⟨0, rfl⟩ | exact still2 _ _ _ | exact still3 _ _ _ _)⟩
      case measure => simp [intOf]; omega
    · obtain rfl : k = rows.length := by omega
      go_wp2
      go_ret
      exact ⟨rfl, m, rfl⟩
end Go.Proofs.Ytihfbbpkgmkbcaa

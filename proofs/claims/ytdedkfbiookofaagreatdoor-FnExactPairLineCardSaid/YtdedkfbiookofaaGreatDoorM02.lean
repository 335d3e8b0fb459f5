/- Cartan matrices: IsCartan. slices.Equal, CompareWords, EqualWords: contracts (parts of XPal and XEq, for seats that lack the rest). Lists of weights with counts ([]impl.Weighted): what they read as. A slice of elements of k cells, of the call's own; append to it. Lists of weights with counts of the call's own; what came in as one; toWeighted, szWeighted, eqWeighted. append of one integer inside a region that draws its order (for go_region_held3). -/
import Derived.Test.YtdedkfbiookofaaGreatDoorM01
import Derived.Laws.ResultCell
import Derived.Test.YtdedkfbiookofaaGreatDoorM00
import Derived.Deep.RegionHeld3
import Derived.Deep.DrawnRows
namespace Go.Proofs.YtdedkfbiookofaaGreatDoor
set_option maxRecDepth 100000
open Go.RowKit
def ent (c : List (List Int)) (i j : Nat) : Int := (c.getD i []).getD j 0
def EntOk (c : List (List Int)) (i j : Nat) : Prop := if i = j then ent c i j = 2 else (-3 ≤ ent c i j ∧ ent c i j ≤ 0 ∧ (decide (ent c i j = 0) = decide (ent c j i = 0)))
instance (c : List (List Int)) (i j : Nat) : Decidable (EntOk c i j) := by unfold EntOk; infer_instance
def IsC (c : List (List Int)) : Prop := 1 ≤ c.length ∧ c.length ≤ 4 ∧ (∀ i, i < c.length → (c.getD i []).length = c.length) ∧ ∀ i, i < c.length → ∀ j, j < c.length → EntOk c i j
instance (c : List (List Int)) : Decidable (IsC c) := by unfold IsC; infer_instance
theorem neqz (x y : Int) : (!(x == 0) == (y == 0)) = (decide (x = 0) != decide (y = 0)) := by
  have e1 : (x == 0) = decide (x = 0) := by
    by_cases e : x = 0
    · simp [e]
    · rw [decide_eq_false e]; simpa using e
  have e2 : (y == 0) = decide (y = 0) := by
    by_cases e : y = 0
    · simp [e]
    · rw [decide_eq_false e]; simpa using e
  rw [e1, e2]
  cases decide (x = 0) <;> cases decide (y = 0) <;> rfl
theorem spec_l1In (x low high : Int) (w : World) : Calls Tryz.prog 92 #[.int .i64 x, .int .i64 low, .int .i64 high] w (Reads w (.bool (decide (low ≤ x) && decide (x ≤ high)))) := by
  by_cases h : low ≤ x
  · have h' : low ≤ x := h
    go_enter Tryz.func92, Tryz.ntmps92
    go_wp2
    go_ret
    exact ⟨by simp [h], 0, rfl⟩
  · have hf : decide (low ≤ x) = false := by simp [h]
    rw [hf]
    go_enter Tryz.func92, Tryz.ntmps92
    go_wp2
    go_ret
    exact ⟨by simp, 0, rfl⟩
set_option maxHeartbeats 2000000 in
theorem impl_IsCartan (g o n cp : Nat) (c : List (List Int)) (w : World) (hn : c.length = n) (hx : c.length ≤ 1099511627776) (hrl : ∀ j, j < c.length → (c.getD j []).length ≤ 1099511627776) (hr : Rows2 w g o c) :
    Calls Tryz.prog 89 #[(Value.slice (some ⟨g, o, none⟩) n cp)] w (Reads w (.bool (decide (IsC c)))) := by
  subst hn
  by_cases h1 : c.length < 1
  · have hf : decide (IsC c) = false := by simp [IsC]; omega
    rw [hf]
    go_enter Tryz.func89, Tryz.ntmps89
    go_wp2
    go_ret
    exact ⟨rfl, 0, rfl⟩
  by_cases h4 : 4 < c.length
  · have hf : decide (IsC c) = false := by simp [IsC]; omega
    rw [hf]
    go_enter Tryz.func89, Tryz.ntmps89
    go_wp2
    go_ret
    exact ⟨rfl, 0, rfl⟩
  go_enter Tryz.func89, Tryz.ntmps89
  go_wp2
  go_loopw [19] (fun i wr => ∃ k : Nat, k ≤ c.length ∧ i = .int .i64 k ∧ (∀ j, j < k → (c.getD j []).length = c.length) ∧ ∃ m, wr = w.drewN m) (fun i _ => c.length - (intOf i).toNat)
  case atStart => exact ⟨0, Nat.zero_le _, rfl, by omega, 0, rfl⟩
  case round =>
    obtain ⟨k, hk, rfl, hall, m, rfl⟩ := hrel
    by_cases hlt : k < c.length
    · obtain ⟨ga, oa, ca, q1, q2, q3, q4⟩ := hr k hlt
      have hrk := hrl k hlt
      by_cases hlen : (c.getD k []).length = c.length
      · rw [hlen] at q1
        go_wp2
        go_roundw
        case rel =>
          refine ⟨k + 1, by omega, by go_num, fun j hj => ?_, (by first | exact ⟨_, rfl⟩ | exact ⟨0, rfl⟩ | exact still2 _ _ _ | exact still3 _ _ _ _)⟩
          by_cases e : j = k
          · subst e; exact hlen
          · exact hall j (by omega)
        case measure => simp [intOf]; omega
      · have hf : decide (IsC c) = false := by
          simp only [decide_eq_false_iff_not]
          exact fun h => hlen (h.2.2.1 k hlt)
        rw [hf]
        generalize (c.getD k []).length = L at *
        have hlen' : (L : Int) ≠ c.length := by omega
        go_wp2
        go_ret
        exact ⟨rfl, m, rfl⟩
    · obtain rfl : k = c.length := by omega
      go_wp2
      go_loopw [29] (fun i wr => ∃ k : Nat, k ≤ c.length ∧ i = .int .i64 k ∧ (∀ i, i < k → ∀ j, j < c.length → EntOk c i j) ∧ ∃ m, wr = w.drewN m) (fun i _ => c.length - (intOf i).toNat)
      case atStart => exact ⟨0, Nat.zero_le _, rfl, by omega, (by first | exact ⟨_, rfl⟩ | exact ⟨0, rfl⟩ | exact still2 _ _ _ | exact still3 _ _ _ _)⟩
      case round =>
        obtain ⟨a, ha, rfl, hent, m, rfl⟩ := hrel
        by_cases hlt : a < c.length
        · go_wp2
          obtain ⟨ga, oa, ca, q1, q2, q3, q4⟩ := hr a hlt
          have hla := hall a hlt
          rw [hla] at q1
          go_loopw [33] (fun i wr => ∃ k : Nat, k ≤ c.length ∧ i = .int .i64 k ∧ (∀ j, j < k → EntOk c a j) ∧ ∃ m, wr = w.drewN m) (fun i _ => c.length - (intOf i).toNat)
          case atStart => exact ⟨0, Nat.zero_le _, rfl, by omega, (by first | exact ⟨_, rfl⟩ | exact ⟨0, rfl⟩ | exact still2 _ _ _ | exact still3 _ _ _ _)⟩
          case round =>
            obtain ⟨b, hb, rfl, hrow, m', rfl⟩ := hrel
            by_cases hltb : b < c.length
            · obtain ⟨gb, ob, cb, p1, p2, p3, p4⟩ := hr b hltb
              have hlb := hall b hltb
              rw [hlb] at p1
              have ex := q4 b (by rw [hla]; exact hltb)
              have ey := p4 a (by rw [hlb]; exact hlt)
              have hok : EntOk c a b ↔ if a = b then (c.getD a []).getD b 0 = 2 else (-3 ≤ (c.getD a []).getD b 0 ∧ (c.getD a []).getD b 0 ≤ 0 ∧ (decide ((c.getD a []).getD b 0 = 0) = decide ((c.getD b []).getD a 0 = 0))) := Iff.rfl
              generalize (c.getD a []).getD b 0 = x at ex hok
              generalize (c.getD b []).getD a 0 = y at ey hok
              have hbad : ¬ EntOk c a b → decide (IsC c) = false := fun h => by
                simp only [decide_eq_false_iff_not]
                exact fun h' => h (h'.2.2.2 a hlt b hltb)
              by_cases hab : a = b
              · obtain rfl := hab
                rw [if_pos rfl] at hok
                by_cases hx2 : x = 2
                · have hgood := hok.2 hx2
                  subst hx2
                  go_wp2
                  go_roundw
                  case rel =>
                    refine ⟨a + 1, by omega, by go_num, fun j hj => ?_, (by first | exact ⟨_, rfl⟩ | exact ⟨0, rfl⟩ | exact still2 _ _ _ | exact still3 _ _ _ _)⟩
                    by_cases e : j = a
                    · subst e; exact hgood
                    · exact hrow j (by omega)
                  case measure => simp [intOf]; omega
                · have hno : ¬ EntOk c a a := fun h => hx2 (hok.1 h)
                  have hf := hbad hno
                  go_wp2
                  go_ret
                  refine ⟨?_, (by first | exact ⟨_, rfl⟩ | exact ⟨0, rfl⟩ | exact still2 _ _ _ | exact still3 _ _ _ _)⟩
                  first | (rw [hf]; rfl) | rfl | simp
              · rw [if_neg hab] at hok
                have habI : ¬ (a : Int) = b := by omega
                have habn : ((a : Int) == b) = false := by simpa using habI
                by_cases hx3 : x < -3
                · have hno : ¬ EntOk c a b := fun h => by have := (hok.1 h).1; omega
                  have hf := hbad hno
                  go_wp2
                  go_ret
                  refine ⟨?_, (by first | exact ⟨_, rfl⟩ | exact ⟨0, rfl⟩ | exact still2 _ _ _ | exact still3 _ _ _ _)⟩
                  first | (rw [hf]; rfl) | rfl | simp
                by_cases hx0 : 0 < x
                · have hno : ¬ EntOk c a b := fun h => by have := (hok.1 h).2.1; omega
                  have hf := hbad hno
                  go_wp2
                  go_ret
                  refine ⟨?_, (by first | exact ⟨_, rfl⟩ | exact ⟨0, rfl⟩ | exact still2 _ _ _ | exact still3 _ _ _ _)⟩
                  first | (rw [hf]; rfl) | rfl | simp
                have hne : ((a : Int) != (b : Int)) = true := by simpa using habI
                have hxy := neqz x y
                by_cases hq : (decide (x = 0) != decide (y = 0)) = true
                · have hno : ¬ EntOk c a b := fun h => by have := (hok.1 h).2.2; rw [this] at hq; simp at hq
                  clear hok
                  have hf := hbad hno
                  rw [hq] at hxy
                  go_wp2
                  all_goals
                    go_ret
                    refine ⟨?_, (by first | exact ⟨_, rfl⟩ | exact ⟨0, rfl⟩ | exact still2 _ _ _ | exact still3 _ _ _ _)⟩
                    first | (rw [hf]; rfl) | rfl | simp
                · have hq' : (decide (x = 0) != decide (y = 0)) = false := by simpa using hq
                  have hgood := hok.2 ⟨by omega, by omega, by simpa using hq'⟩
                  clear hok hbad hq
                  rw [hq'] at hxy
                  go_wp2
                  go_roundw
                  case rel =>
                    refine ⟨b + 1, by omega, by go_num, fun j hj => ?_, (by first | exact ⟨_, rfl⟩ | exact ⟨0, rfl⟩ | exact still2 _ _ _ | exact still3 _ _ _ _)⟩
                    by_cases e : j = b
                    · subst e; exact hgood
                    · exact hrow j (by omega)
                  case measure => simp [intOf]; omega
            · obtain rfl : b = c.length := by omega
              go_wp2
              go_roundw
              case rel => 
                refine ⟨a + 1, by omega, by go_num, fun i hi => ?_, (by first | exact ⟨_, rfl⟩ | exact ⟨0, rfl⟩ | exact still2 _ _ _ | exact still3 _ _ _ _)⟩
                by_cases e : i = a
                · subst e; exact hrow
                · exact hent i (by omega)
              case measure => simp [intOf]; omega
        · obtain rfl : a = c.length := by omega
          have hf : decide (IsC c) = true := by
            simp only [decide_eq_true_eq]
            exact ⟨by omega, by omega, hall, hent⟩
          go_wp2
          go_ret
          refine ⟨?_, m, rfl⟩
          first | (rw [hf]; rfl) | rfl | simp
theorem cart_l1In (x low high : Int) (b : Bool) (h : (decide (low ≤ x) && decide (x ≤ high)) = b) (w : World) (m : Nat) :
    Hid (∀ j, Calls Tryz.prog 92 #[.int .i64 x, .int .i64 low, .int .i64 high] (w.drewN (m + j)) (Reads (w.drewN (m + j)) (.bool b))) := by
  intro j; subst h; exact spec_l1In x low high _
theorem Reads.quiet4 {f : FuncId} {args : Array Value} {w : World} {m n : Nat} {v : Value} (h : Calls Tryz.prog f args (w.drewN (m + n)) (Reads (w.drewN (m + n)) v)) :
    Calls Tryz.prog f args (w.drewN (m + n)) fun e w'' => e = .returned v ∧ ∃ k, w'' = w.drewN (m + k) :=
  h.mono fun _ _ ⟨he, k, hk⟩ => ⟨he, n + k, by rw [hk, World.drewN_drewN, Nat.add_assoc]⟩
set_option maxHeartbeats 2000000 in
theorem spec_IsCartan (g o n cp : Nat) (c : List (List Int)) (w : World) (hn : c.length = n) (hx : c.length ≤ 1099511627776) (hrl : ∀ j, j < c.length → (c.getD j []).length ≤ 1099511627776) (hr : Rows2 w g o c) :
    Calls Tryz.prog 93 #[(Value.slice (some ⟨g, o, none⟩) n cp)] w (Reads w (.bool (decide (IsC c)))) := by
  subst hn
  go_enter Tryz.func93, Tryz.ntmps93
  go_wp2
  go_loopw [3] (fun i wr => ∃ k : Nat, k ≤ c.length ∧ i = .int .i64 k ∧ (∀ j, j < k → (c.getD j []).length = c.length) ∧ ∃ m, wr = w.drewN m) (fun i _ => c.length - (intOf i).toNat)
  case atStart => exact ⟨0, Nat.zero_le _, rfl, by omega, (by first | exact ⟨_, rfl⟩ | exact ⟨0, rfl⟩ | exact still2 _ _ _ | exact still3 _ _ _ _)⟩
  case round =>
    obtain ⟨k, hk, rfl, hall, m, rfl⟩ := hrel
    by_cases hlt : k < c.length
    · obtain ⟨ga, oa, ca, q1, q2, q3, q4⟩ := hr k hlt
      have hrk := hrl k hlt
      by_cases hlen : (c.getD k []).length = c.length
      · rw [hlen] at q1
        go_wp2
        go_roundw
        case rel =>
          refine ⟨k + 1, by omega, by go_num, fun j hj => ?_, (by first | exact ⟨_, rfl⟩ | exact ⟨0, rfl⟩ | exact still2 _ _ _ | exact still3 _ _ _ _)⟩
          by_cases e : j = k
          · subst e; exact hlen
          · exact hall j (by omega)
        case measure => simp [intOf]; omega
      · have hf : decide (IsC c) = false := by
          simp only [decide_eq_false_iff_not]
          exact fun h => hlen (h.2.2.1 k hlt)
        rw [hf]
        generalize (c.getD k []).length = L at *
        have hlen' : (L : Int) ≠ c.length := by omega
        go_wp2
        go_ret
        exact ⟨rfl, m, rfl⟩
    · obtain rfl : k = c.length := by omega
      go_wp2
      go_loopw [4, 5] (fun i _ wr => ∃ k : Nat, k ≤ c.length ∧ i = .int .i64 k ∧ (∀ i, i < k → ∀ j, j < c.length → EntOk c i j) ∧ ∃ m, wr = w.drewN m) (fun i _ _ => c.length - (intOf i).toNat)
      case atStart => exact ⟨0, Nat.zero_le _, rfl, by omega, (by first | exact ⟨_, rfl⟩ | exact ⟨0, rfl⟩ | exact still2 _ _ _ | exact still3 _ _ _ _)⟩
      case round =>
        obtain ⟨a, ha, rfl, hent, m, rfl⟩ := hrel
        by_cases hlt : a < c.length
        · go_wp2
          obtain ⟨ga, oa, ca, q1, q2, q3, q4⟩ := hr a hlt
          have hla := hall a hlt
          rw [hla] at q1
          go_loopw [5] (fun i wr => ∃ k : Nat, k ≤ c.length ∧ i = .int .i64 k ∧ (∀ j, j < k → EntOk c a j) ∧ ∃ m, wr = w.drewN m) (fun i _ => c.length - (intOf i).toNat)
          case atStart => exact ⟨0, Nat.zero_le _, rfl, by omega, (by first | exact ⟨_, rfl⟩ | exact ⟨0, rfl⟩ | exact still2 _ _ _ | exact still3 _ _ _ _)⟩
          case round =>
            obtain ⟨b, hb, rfl, hrow, m', rfl⟩ := hrel
            by_cases hltb : b < c.length
            · obtain ⟨gb, ob, cb, p1, p2, p3, p4⟩ := hr b hltb
              have hlb := hall b hltb
              rw [hlb] at p1
              have ex := q4 b (by rw [hla]; exact hltb)
              have ey := p4 a (by rw [hlb]; exact hlt)
              have hok : EntOk c a b ↔ if a = b then (c.getD a []).getD b 0 = 2 else (-3 ≤ (c.getD a []).getD b 0 ∧ (c.getD a []).getD b 0 ≤ 0 ∧ (decide ((c.getD a []).getD b 0 = 0) = decide ((c.getD b []).getD a 0 = 0))) := Iff.rfl
              generalize (c.getD a []).getD b 0 = x at ex hok
              generalize (c.getD b []).getD a 0 = y at ey hok
              have hbad : ¬ EntOk c a b → decide (IsC c) = false := fun h => by
                simp only [decide_eq_false_iff_not]
                exact fun h' => h (h'.2.2.2 a hlt b hltb)
              by_cases hab : a = b
              · obtain rfl := hab
                rw [if_pos rfl] at hok
                by_cases hx2 : x = 2
                · have hgood := hok.2 hx2
                  clear hok hbad
                  subst hx2
                  go_wp2
                  go_quiet (fail)
                  go_wp2
                  go_roundw
                  case rel =>
                    refine ⟨a + 1, by omega, by go_num, fun j hj => ?_, (by first | exact ⟨_, rfl⟩ | exact ⟨0, rfl⟩ | exact still2 _ _ _ | exact still3 _ _ _ _)⟩
                    by_cases e : j = a
                    · subst e; exact hgood
                    · exact hrow j (by omega)
                  case measure => simp [intOf]; omega
                · have hno : ¬ EntOk c a a := fun h => hx2 (hok.1 h)
                  have hf := hbad hno
                  have hx2' : (x != 2) = true := by simpa using hx2
                  clear hok hbad hno hx2
                  go_wp2
                  go_quiet (fail)
                  go_wp2
                  go_ret
                  refine ⟨?_, (by first | exact ⟨_, rfl⟩ | exact ⟨0, rfl⟩ | exact still2 _ _ _ | exact still3 _ _ _ _)⟩
                  first | (rw [hf]; rfl) | rfl | simp
              · rw [if_neg hab] at hok
                have habI : ¬ (a : Int) = b := by omega
                have habn : ((a : Int) == b) = false := by simpa using habI
                have hne : ((a : Int) != (b : Int)) = true := by simpa using habI
                have hxy := neqz x y
                by_cases hin : (decide (-3 ≤ x) && decide (x ≤ 0)) = true
                · have hq1 := cart_l1In x (-3) 0 true hin w m'
                  by_cases hq : (decide (x = 0) != decide (y = 0)) = true
                  · have hno : ¬ EntOk c a b := fun h => by have := (hok.1 h).2.2; rw [this] at hq; simp at hq
                    clear hok
                    have hf := hbad hno
                    rw [hq] at hxy
                    clear hbad hno hab hin hq
                    go_wp2
                    go_quiet ((go_at_call 92; exact Reads.quiet4 (hq1.out _)))
                    go_wp2
                    go_ret
                    refine ⟨?_, (by first | exact ⟨_, rfl⟩ | exact ⟨0, rfl⟩ | exact still2 _ _ _ | exact still3 _ _ _ _)⟩
                    first | (rw [hf]; rfl) | rfl | simp
                  · have hq' : (decide (x = 0) != decide (y = 0)) = false := by simpa using hq
                    have hgood := hok.2 ⟨by simp at hin; omega, by simp at hin; omega, by simpa using hq'⟩
                    rw [hq'] at hxy
                    clear hok hbad hq hin hq'
                    go_wp2
                    go_quiet ((go_at_call 92; exact Reads.quiet4 (hq1.out _)))
                    go_wp2
                    go_roundw
                    case rel =>
                      refine ⟨b + 1, by omega, by go_num, fun j hj => ?_, (by first | exact ⟨_, rfl⟩ | exact ⟨0, rfl⟩ | exact still2 _ _ _ | exact still3 _ _ _ _)⟩
                      by_cases e : j = b
                      · subst e; exact hgood
                      · exact hrow j (by omega)
                    case measure => simp [intOf]; omega
                · have hin' : (decide (-3 ≤ x) && decide (x ≤ 0)) = false := by simpa using hin
                  have hq1 := cart_l1In x (-3) 0 false hin' w m'
                  have hno : ¬ EntOk c a b := fun h => by have := hok.1 h; simp at hin; omega
                  have hf := hbad hno
                  clear hok hbad hno hin hin' hab hxy
                  go_wp2
                  go_quiet ((go_at_call 92; exact Reads.quiet4 (hq1.out _)))
                  go_wp2
                  go_ret
                  refine ⟨?_, (by first | exact ⟨_, rfl⟩ | exact ⟨0, rfl⟩ | exact still2 _ _ _ | exact still3 _ _ _ _)⟩
                  first | (rw [hf]; rfl) | rfl | simp
            · obtain rfl : b = c.length := by omega
              go_wp2
              go_roundw
              case rel => 
                refine ⟨a + 1, by omega, by go_num, fun i hi => ?_, (by first | exact ⟨_, rfl⟩ | exact ⟨0, rfl⟩ | exact still2 _ _ _ | exact still3 _ _ _ _)⟩
                by_cases e : i = a
                · subst e; exact hrow
                · exact hent i (by omega)
              case measure => simp [intOf]; omega
        · obtain rfl : a = c.length := by omega
          have hf : decide (IsC c) = (decide ((1 : Int) ≤ c.length) && decide ((c.length : Int) ≤ 4)) := by
            rw [← Bool.decide_and]
            refine decide_eq_decide.2 ⟨fun h => by have := h.1; have := h.2.1; omega, fun h => ⟨by omega, by omega, hall, hent⟩⟩
          go_wp2_with fail
          refine (spec_l1In _ _ _ _).mono ?_
          rintro e w' ⟨rfl, m', rfl⟩
          go_wp2_with fail
          go_ret
          refine ⟨?_, (by first | exact ⟨_, rfl⟩ | exact ⟨0, rfl⟩ | exact still2 _ _ _ | exact still3 _ _ _ _)⟩
          first | (rw [hf]; rfl) | rfl | simp
end Go.Proofs.YtdedkfbiookofaaGreatDoor
namespace Go.Proofs.YtdedkfbiookofaaGreatDoor
set_option maxRecDepth 100000
open Go.RowKit
set_option maxHeartbeats 400000 in
theorem slices_Equal_any (g1 o1 n1 c1 g2 o2 n2 c2 : Nat) (xs ys : List Int) (w : World) (hn1 : xs.length = n1) (hn2 : ys.length = n2) (hx : xs.length ≤ 1099511627776) (hy : ys.length ≤ 1099511627776)
    (hcx : Cells w g1 o1 xs) (hcy : Cells w g2 o2 ys) :
    Calls Tryz.prog 67 #[(Value.slice (some ⟨g1, o1, none⟩) n1 c1), (Value.slice (some ⟨g2, o2, none⟩) n2 c2)] w (Reads w (.bool (decide (xs = ys)))) := by
  subst hn1; subst hn2
  by_cases hl : ys.length = xs.length
  · go_enter Tryz.func67, Tryz.ntmps67
    go_wp2
    go_loopw [13] (fun i wr => ∃ k : Nat, k ≤ xs.length ∧ i = .int .i64 k ∧ xs.take k = ys.take k ∧ ∃ n, wr = w.drewN n) (fun i _ => xs.length - (intOf i).toNat)
    case atStart => exact ⟨0, Nat.zero_le _, rfl, rfl, 0, rfl⟩
    case round =>
      obtain ⟨k, hk, rfl, he, n, rfl⟩ := hrel
      have He := Lib.hid he; clear he
      have Hl := Lib.hid hl; clear hl
      by_cases hlt : k < xs.length
      · have h1 := hcx k hlt
        have h2 := hcy k (by rw [Hl.out]; omega)
        have hl2 : k < ys.length := by rw [Hl.out]; omega
        go_wp2
        go_quiet (fail)
        go_wp2
        · have ht : (xs[k] != ys[k]) = true := by assumption
          go_ret
          have hne : xs ≠ ys := fun e => by subst e; simp at ht
          exact ⟨ret_bool (by simp [hne]), (by first | exact ⟨_, rfl⟩ | exact ⟨0, rfl⟩ | exact still2 _ _ _ | exact still3 _ _ _ _)⟩
        · have ht : (xs[k] != ys[k]) = false := by assumption
          go_roundw
          case rel => exact ⟨k + 1, by omega, by go_num, take_succ_eq Hl.out.symm hlt He.out (by simpa [List.getD, hlt, hl2] using ht), (by first | exact ⟨_, rfl⟩ | exact ⟨0, rfl⟩ | exact still2 _ _ _ | exact still3 _ _ _ _)⟩
          case measure => simp [intOf]; omega
      · go_wp2
        go_ret
        refine ⟨ret_bool ?_, n, rfl⟩
        have h3 := He.out
        rw [List.take_of_length_le (by omega), List.take_of_length_le (by have := Hl.out; omega)] at h3
        simp [h3]
  · have hb : ((xs.length : Int) != (ys.length : Int)) = true := by rw [bne_iff_ne]; omega
    go_enter Tryz.func67, Tryz.ntmps67
    go_wp2
    go_ret
    exact ⟨ret_bool (by simp; intro e; exact hl (by rw [e])), 0, rfl⟩
def lexCmp : List Int → List Int → Int
  | x :: a, y :: b => if x < y then -1 else if y < x then 1 else lexCmp a b
  | _, _ => 0
def wordCmp (a b : List Int) : Int := if a.length < b.length then -1 else if b.length < a.length then 1 else lexCmp a b
theorem lexCmp_eq {a b : List Int} (h : a.length = b.length) : lexCmp a b = 0 ↔ a = b := by
  induction a generalizing b with
  | nil => cases b with
    | nil => simp [lexCmp]
    | cons y b => simp at h
  | cons x a ih => cases b with
    | nil => simp at h
    | cons y b =>
      simp only [lexCmp]
      by_cases h1 : x < y
      · rw [if_pos h1]; simp; intro e; omega
      · rw [if_neg h1]
        by_cases h2 : y < x
        · rw [if_pos h2]; simp; intro e; omega
        · rw [if_neg h2, ih (by simpa using h)]
          have : x = y := by omega
          subst this; simp
theorem wordCmp_eq (a b : List Int) : (wordCmp a b == 0) = decide (a = b) := by
  unfold wordCmp
  by_cases h1 : a.length < b.length
  · rw [if_pos h1]; simp; intro e; subst e; omega
  · rw [if_neg h1]
    by_cases h2 : b.length < a.length
    · rw [if_pos h2]; simp; intro e; subst e; omega
    · rw [if_neg h2]
      have := lexCmp_eq (a := a) (b := b) (by omega)
      by_cases e : a = b
      · rw [this.2 e]; simp [e]
      · have h3 : lexCmp a b ≠ 0 := fun h => e (this.1 h)
        simp [e, h3]
theorem lexCmp_drop {a b : List Int} {k : Nat} (h1 : k < a.length) (h2 : k < b.length) : lexCmp (a.drop k) (b.drop k) = if a[k] < b[k] then -1 else if b[k] < a[k] then 1 else lexCmp (a.drop (k + 1)) (b.drop (k + 1)) := by
  have e1 : a.drop k = a[k] :: a.drop (k + 1) := List.drop_eq_getElem_cons h1
  have e2 : b.drop k = b[k] :: b.drop (k + 1) := List.drop_eq_getElem_cons h2
  rw [e1, e2]; rfl
set_option maxHeartbeats 1000000 in
theorem spec_CompareWords_any (g1 o1 n1 c1 g2 o2 n2 c2 : Nat) (xs ys : List Int) (w : World) (hn1 : xs.length = n1) (hn2 : ys.length = n2) (hx : xs.length ≤ 1099511627776)
    (hcx : Cells w g1 o1 xs) (hcy : Cells w g2 o2 ys) :
    Calls Tryz.prog 106 #[(Value.slice (some ⟨g1, o1, none⟩) n1 c1), (Value.slice (some ⟨g2, o2, none⟩) n2 c2)] w (Reads w (.int .i64 (wordCmp xs ys))) := by
  subst hn1; subst hn2
  by_cases hl : ys.length = xs.length
  · have e : wordCmp xs ys = lexCmp xs ys := by unfold wordCmp; rw [if_neg (by omega), if_neg (by omega)]
    rw [e]
    clear e
    have hl' : ys.length = xs.length := hl
    have Hl := Lib.hid hl'; clear hl'
    have hb : ((xs.length : Int) != (ys.length : Int)) = false := by rw [hl]; simp
    clear hl
    go_enter Tryz.func106, Tryz.ntmps106
    go_wp2
    go_loopw [5] (fun i wr => ∃ k : Nat, k ≤ xs.length ∧ i = .int .i64 k ∧ Hid (lexCmp xs ys = lexCmp (xs.drop k) (ys.drop k)) ∧ ∃ n, wr = w.drewN n) (fun i _ => xs.length - (intOf i).toNat)
    case atStart => exact ⟨0, Nat.zero_le _, rfl, rfl, 0, rfl⟩
    case round =>
      obtain ⟨k, hk, rfl, he, n, rfl⟩ := hrel
      by_cases hlt : k < xs.length
      · have hl2 : k < ys.length := by rw [Hl.out]; exact hlt
        have h1 := hcx k hlt
        have h2 := hcy k hl2
        have hd := lexCmp_drop hlt hl2
        have Hd := Lib.hid hd; clear hd
        go_wp2
        go_quiet (fail)
        go_wp2
        · have ht : xs[k] < ys[k] := by assumption
          go_ret
          exact ⟨ret_int (by rw [he.out, Hd.out, if_pos ht]), (by first | exact ⟨_, rfl⟩ | exact ⟨0, rfl⟩ | exact still2 _ _ _ | exact still3 _ _ _ _)⟩
        · have ht : ys[k] ≤ xs[k] := by assumption
          go_quiet (fail)
          go_wp2
          · have ht2 : ys[k] < xs[k] := by assumption
            go_ret
            exact ⟨ret_int (by rw [he.out, Hd.out, if_neg (by omega), if_pos ht2]), (by first | exact ⟨_, rfl⟩ | exact ⟨0, rfl⟩ | exact still2 _ _ _ | exact still3 _ _ _ _)⟩
          · have ht2 : xs[k] ≤ ys[k] := by assumption
            go_roundw
            case rel => exact ⟨k + 1, by omega, by go_num, by show _ = _; rw [he.out, Hd.out, if_neg (by omega), if_neg (by omega)], (by first | exact ⟨_, rfl⟩ | exact ⟨0, rfl⟩ | exact still2 _ _ _ | exact still3 _ _ _ _)⟩
            case measure => simp [intOf]; omega
      · obtain rfl : k = xs.length := by omega
        go_wp2
        go_ret
        refine ⟨ret_int ?_, n, rfl⟩
        rw [he.out, List.drop_length]; rfl
  · have hb : ((xs.length : Int) != (ys.length : Int)) = true := by rw [bne_iff_ne]; omega
    by_cases h1 : xs.length < ys.length
    · have e : wordCmp xs ys = -1 := by unfold wordCmp; rw [if_pos h1]
      rw [e]
      go_enter Tryz.func106, Tryz.ntmps106
      go_wp2
      go_ret
      exact ⟨rfl, 0, rfl⟩
    · have e : wordCmp xs ys = 1 := by unfold wordCmp; rw [if_neg h1, if_pos (by omega)]
      rw [e]
      go_enter Tryz.func106, Tryz.ntmps106
      go_wp2
      go_ret
      exact ⟨rfl, 0, rfl⟩
set_option maxHeartbeats 400000 in
theorem spec_EqualWords_any (g1 o1 n1 c1 g2 o2 n2 c2 : Nat) (xs ys : List Int) (w : World) (hn1 : xs.length = n1) (hn2 : ys.length = n2) (hx : xs.length ≤ 1099511627776)
    (hcx : Cells w g1 o1 xs) (hcy : Cells w g2 o2 ys) :
    Calls Tryz.prog 65 #[(Value.slice (some ⟨g1, o1, none⟩) n1 c1), (Value.slice (some ⟨g2, o2, none⟩) n2 c2)] w (Reads w (.bool (decide (xs = ys)))) := by
  have hw := wordCmp_eq xs ys
  rw [← hw]
  clear hw
  go_enter Tryz.func65, Tryz.ntmps65
  go_wp2_with fail
  refine (spec_CompareWords_any g1 o1 n1 c1 g2 o2 n2 c2 xs ys _ hn1 hn2 hx hcx hcy).mono ?_
  rintro e w1 ⟨rfl, m, rfl⟩
  go_wp2_with fail
  go_ret
  exact ⟨rfl, m, rfl⟩
end Go.Proofs.YtdedkfbiookofaaGreatDoor
namespace Go.Proofs.YtdedkfbiookofaaGreatDoor
set_option maxRecDepth 100000
open Go.RowKit
/-- a weight with its count -/
abbrev Wt := List Int × Int
end Go.Proofs.YtdedkfbiookofaaGreatDoor
namespace Go.Proofs.YtdedkfbiookofaaGreatDoor
set_option maxRecDepth 100000
open Go.RowKit
/-- a slice of elements of k cells, at the head of block g, of the call's own -/
def OwnK (w : World) (B : Nat) (E : TypeId) (k g cap n : Nat) (cs : List Value) : Prop := w.ownsRow B E k (Value.slice (some ⟨g, 0, none⟩) n cap) n cs
section
variable {w w' : World} {B g cap n k : Nat} {E : TypeId} {cs : List Value}
theorem OwnK.base (h : OwnK w B E k g cap n cs) : B ≤ g := (World.ownsRow.lt h g rfl).1
theorem OwnK.lt (h : OwnK w B E k g cap n cs) : g < w.heap.size := (World.ownsRow.lt h g rfl).2
theorem OwnK.row (h : OwnK w B E k g cap n cs) : ∃ cur, w.heap[g]? = some (.cells cur E (0, 0)) ∧ n ≤ cap ∧ cap ≤ maxLen := by
  rcases h.2 with ⟨h', _⟩ | ⟨g', cap', cur, h', _, hh, hn, hm, _⟩
  · simp at h'
  · simp only [Value.slice.injEq, Option.some.injEq, Addr.mk.injEq] at h'
    obtain ⟨⟨rfl, _⟩, _, rfl⟩ := h'
    exact ⟨cur, hh, hn, hm⟩
theorem OwnK.len (h : OwnK w B E k g cap n cs) : cs.length = n * k := h.1
theorem OwnK.cell (h : OwnK w B E k g cap n cs) (j : Nat) (hj : j < cs.length) : w.cell? ⟨g, j, none⟩ = some cs[j] := by
  rw [World.ownsRow.cellAt h j (by have := h.len; omega)]; simp [hj]
theorem OwnK.mono {B' : Nat} (h : OwnK w B E k g cap n cs) (hB : B' ≤ B) : OwnK w B' E k g cap n cs := by
  refine ⟨h.1, ?_⟩
  rcases h.2 with ⟨h', _⟩ | ⟨g', cap', cur, h', hb, r⟩
  · simp at h'
  · exact .inr ⟨g', cap', cur, h', by omega, r⟩
theorem OwnK.grown {row : Option Nat} (h : OwnK w B E k g cap n cs) (hg : w.grownBy w' row) (hne : some g ≠ row) : OwnK w' B E k g cap n cs := World.ownsRow.kept h hg (.inr hne)
theorem OwnK.below {B' : Nat} (h : OwnK w B E k g cap n cs) (hb : Below B' w w') (hg : g < B') : OwnK w' B E k g cap n cs := by
  refine ⟨h.1, ?_⟩
  rcases h.2 with ⟨h', _⟩ | ⟨g', cap', cur, h', hbb, hh, r⟩
  · simp at h'
  · refine .inr ⟨g', cap', cur, h', hbb, ?_, r⟩
    simp only [Value.slice.injEq, Option.some.injEq, Addr.mk.injEq] at h'
    obtain ⟨⟨rfl, _⟩, _⟩ := h'
    rw [hb.block _ hg]; exact hh
theorem OwnK.alloc (h : OwnK w B E k g cap n cs) (o : Obj) : OwnK (w.alloc o) B E k g cap n cs := World.ownsRow.alloc h o
end
theorem run_append_K {w : World} {S E : TypeId} {z : Value} {k by' : Nat} (hinfo : (Tryz.prog.info? E).map (fun i => (i.zero, i.size, i.bytes)) = some (some z, k, by')) (hu : Tryz.prog.underlying S = some (.slice E)) (hzs : z.cells.size = k) (hk : 0 < k) (hby : by' ≤ 1024)
    {B g cap n : Nat} {cs : List Value} (hown : OwnK w B E k g cap n cs) (g2 o2 m c2 : Nat) (news : List Value) (hl : news.length = m * k) (hnews : ∀ j u, news[j]? = some u → w.cell? ⟨g2, o2 + j, none⟩ = some u) (h1 : ∀ u ∈ news, u.oneCell' = true)
    (hlen : n + m ≤ 1048576) (ty : TypeId) :
    ∃ g' cap' w', (Builtin.append_ #[S, S] ty #[(Value.slice (some ⟨g, 0, none⟩) n cap), (Value.slice (some ⟨g2, o2, none⟩) m c2)]).run Tryz.prog w = .ok (Value.slice (some ⟨g', 0, none⟩) (n + m) cap') w' ∧ OwnK w' B E k g' cap' (n + m) (cs ++ news) ∧ w.grownBy w' (some g) ∧ (g' = g ∨ g' = w.heap.size) := by
  obtain ⟨i0, hi, hz0, hz1, hz2⟩ := info_parts hinfo
  have hbytes : (n + m) * by' ≤ 140737488355328 := Nat.le_trans (Nat.mul_le_mul hlen hby) (by decide)
  have hnews' : ∀ j u, news[j]? = some u → w.cell? ((⟨g2, o2, none⟩ : Addr).add j) = some u := fun j u hu => by rw [Addr.add_lit]; exact hnews j u hu
  obtain ⟨v', w', hr, ho, hg, -⟩ := run_append_own (P := Tryz.prog) w B S ty E i0 z k by' hu hi hz0 hz1 hz2 hzs hk _ n _ hown ⟨g2, o2, none⟩ m c2 news hl hnews' h1 (by unfold maxLen; omega) hbytes (by have := hown.base; have := hown.lt; omega)
  have fin : ∀ g' cap', v' = (Value.slice (some ⟨g', 0, none⟩) (n + m) cap') → (g' = g ∨ g' = w.heap.size) → ∃ g' cap' w', (Builtin.append_ #[S, S] ty #[(Value.slice (some ⟨g, 0, none⟩) n cap), (Value.slice (some ⟨g2, o2, none⟩) m c2)]).run Tryz.prog w = .ok (Value.slice (some ⟨g', 0, none⟩) (n + m) cap') w' ∧ OwnK w' B E k g' cap' (n + m) (cs ++ news) ∧ w.grownBy w' (some g) ∧ (g' = g ∨ g' = w.heap.size) := by
    intro g' cap' hv hor
    subst hv
    exact ⟨g', cap', w', hr, ho, hg, hor⟩
  have hl' : news.length = m * i0.size := by rw [hz1]; exact hl
  by_cases hroom : n + m ≤ cap
  · rcases hown.2 with ⟨h', _⟩ | ⟨g1, cap1, cur, hv, hb, hh, hn, hm, hs, htk⟩
    · simp at h'
    simp only [Value.slice.injEq, Option.some.injEq, Addr.mk.injEq, and_true, true_and] at hv
    obtain ⟨rfl, rfl⟩ := hv
    have hsz : n * i0.size + news.length ≤ cur.size := by
      rw [hz1, hl, hs, ← Nat.add_mul]
      exact Nat.mul_le_mul_right _ hroom
    have hr2 := run_append_room (P := Tryz.prog) w S ty E i0 hu hi g n cap cur hh ⟨g2, o2, none⟩ m c2 news hl' hnews' h1 hroom hsz
    rw [hr2] at hr
    simp only [Result.ok.injEq] at hr
    exact fin g cap hr.1.symm (.inl rfl)
  · have hbc : (n + m) * i0.bytes ≤ 1073741824 := by rw [hz2]; exact Nat.le_trans (Nat.mul_le_mul hlen hby) (by decide)
    have hr2 := run_append_grow (P := Tryz.prog) w S ty E i0 z hu hi hz0 ⟨g, 0, none⟩ n cap cs (by rw [hz1]; exact hown.1) (World.ownsRow.cells hown rfl) ⟨g2, o2, none⟩ m c2 news hl' hnews' (by omega) (by omega) (growslice_fits (by omega) (by omega))
    rw [hr2] at hr
    simp only [Result.ok.injEq] at hr
    exact fin _ _ hr.1.symm (.inr rfl)
theorem wpList_append_K {w : World} {S E : TypeId} {z : Value} {k by' : Nat} (hinfo : (Tryz.prog.info? E).map (fun i => (i.zero, i.size, i.bytes)) = some (some z, k, by')) (hu : Tryz.prog.underlying S = some (.slice E)) (hzs : z.cells.size = k) (hk : 0 < k) (hby : by' ≤ 1024)
    {ops : Array Oper} {rest : List Oper} {o : Oper} {a : Act} {Q : Exit → Act → World → Prop} (hgd : o.guard = none) (s x : Operand)
    (ho : o.op = .call { callee := .builtin .append, args := #[s, x], argTypes := #[S, S] })
    (B g cap n : Nat) (cs : List Value) (hown : OwnK w B E k g cap n cs) (g2 o2 m c2 : Nat) (news : List Value) (hl : news.length = m * k) (hnews : ∀ j u, news[j]? = some u → w.cell? ⟨g2, o2 + j, none⟩ = some u) (h1 : ∀ u ∈ news, u.oneCell' = true)
    (hs : a.eval s = (Value.slice (some ⟨g, 0, none⟩) n cap)) (hx : a.eval x = (Value.slice (some ⟨g2, o2, none⟩) m c2)) (hlen : n + m ≤ 1048576)
    (h : ∀ g' cap' w', OwnK w' B E k g' cap' (n + m) (cs ++ news) → w.grownBy w' (some g) → (g' = g ∨ g' = w.heap.size) → wpList Tryz.prog ops Q rest (a.put o.dst (Value.slice (some ⟨g', 0, none⟩) (n + m) cap')) w') :
    wpList Tryz.prog ops Q (o :: rest) a w := by
  obtain ⟨g', cap', w', hr, h2, h3, h4⟩ := run_append_K hinfo hu hzs hk hby hown g2 o2 m c2 news hl hnews h1 hlen o.type
  refine wpList_plain hgd fun K hK => ?_
  unfold Oper.wp execOp
  simp only [ho, resolve, invoke, builtin, Sem.run_bind, Sem.run_pure, Result.andThen_ok, List.map_toArray, List.map_cons, List.map_nil, hs, hx, hr]
  exact hK _ _ (h g' cap' w' h2 h3 h4)
end Go.Proofs.YtdedkfbiookofaaGreatDoor
namespace Go.Proofs.YtdedkfbiookofaaGreatDoor
set_option maxRecDepth 100000
open Go.RowKit
/-- a row with its count: its block, its capacity, its numbers; the count -/
abbrev WRef := RowRef × Int
end Go.Proofs.YtdedkfbiookofaaGreatDoor
namespace Go.Proofs.YtdedkfbiookofaaGreatDoor
set_option maxRecDepth 100000
open Go.RowKit
theorem step_append_int {ops : Array Oper} {w : World} {o : Oper} {a : Act} {K : Act → World → Prop} {Q : Exit → Act → World → Prop} {E : Prop} (hgd : o.guard = none) (s x : Operand)
    (ho : o.op = .call { callee := .builtin .append, args := #[s, x], argTypes := #[25, 25] })
    (B g cap n H : Nat) (xs : List Int) (z : Int) (W : World) (hn : xs.length = n) (hW : W = w.alloc (.cells #[.int .i64 z] 3)) (hH : w.heap.size = H) (hown : Own w B g cap xs) (hs : a.eval s = (Value.slice (some ⟨g, 0, none⟩) n cap)) (hx : a.eval x = (Value.slice (some ⟨H, 0, none⟩) 1 1)) (hlen : n + 1 ≤ 1099511627776)
    (h : ∀ g' cap' w', Own w' B g' cap' (xs ++ [z]) → w.grownBy w' (some g) → (g' = g ∨ w.heap.size < g') → K (a.put o.dst (Value.slice (some ⟨g', 0, none⟩) (n + 1) cap')) w') :
    if Region.wanted o (yielded ops a.tmps) = true then Oper.wp Tryz.prog o a W K Q else E := by
  subst hn; subst hH; subst hW
  have hw : Region.wanted o (yielded ops a.tmps) = true := by simp [Region.wanted, hgd]
  rw [if_pos hw]
  obtain ⟨g', cap', w', hr, h1, h2, h3⟩ := run_append_ints (hown.alloc (.cells #[.int .i64 z] 3)) (Own.new (B := w.heap.size) z (Nat.le_refl _)).cells (c2 := 1) hlen o.type
  have hgr : w.grownBy w' (some g) := ⟨h2.os, h2.tape, h2.output, Nat.le_trans (by simp) h2.size, fun k hk hne => (h2.block k (by simp; omega) hne).trans (Below.heap_alloc _ _ _ hk)⟩
  have hx' : a.eval x = (Value.slice (some ⟨w.heap.size, 0, none⟩) ([z].length) 1) := hx
  unfold Oper.wp execOp
  simp only [ho, resolve, invoke, builtin, Sem.run_bind, Sem.run_pure, Result.andThen_ok, List.map_toArray, List.map_cons, List.map_nil, hs, hx', hr]
  exact h g' cap' w' h1 hgr (h3.imp id (by simp; omega))
end Go.Proofs.YtdedkfbiookofaaGreatDoor

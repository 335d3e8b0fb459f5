/- Cart -/
import Derived.Test.YtkjglfafphffiaaGreatDoorC00
namespace Go.Proofs.YtkjglfafphffiaaGreatDoor
set_option maxRecDepth 100000
open Go.RowKit
def ent (c : List (List Int)) (i j : Nat) : Int := (c.getD i []).getD j 0
def EntOk (c : List (List Int)) (i j : Nat) : Prop := if i = j then ent c i j = 2 else (-3 ≤ ent c i j ∧ ent c i j ≤ 0 ∧ (decide (ent c i j = 0) = decide (ent c j i = 0)))
instance (c : List (List Int)) (i j : Nat) : Decidable (EntOk c i j) := by unfold EntOk; infer_instance
def IsC (c : List (List Int)) : Prop := 1 ≤ c.length ∧ c.length ≤ 4 ∧ (∀ i, i < c.length → (c.getD i []).length = c.length) ∧ ∀ i, i < c.length → ∀ j, j < c.length → EntOk c i j
instance (c : List (List Int)) : Decidable (IsC c) := by unfold IsC; infer_instance
theorem neqz (x y : Int) : (!(x == 0) == (y == 0)) = (decide (x = 0) != decide (y = 0)) := by
  have e1 : (x == 0) = decide (x = 0) := by
    by_cases e : x = 0
    · simp [e]
    · rw [decide_eq_false e]; simpa using e
  have e2 : (y == 0) = decide (y = 0) := by
    by_cases e : y = 0
    · simp [e]
    · rw [decide_eq_false e]; simpa using e
  rw [e1, e2]
  cases decide (x = 0) <;> cases decide (y = 0) <;> rfl
theorem spec_l1In (x low high : Int) (w : World) : Calls Tryz.prog 78 #[.int .i64 x, .int .i64 low, .int .i64 high] w (Reads w (.bool (decide (low ≤ x) && decide (x ≤ high)))) := by
  by_cases h : low ≤ x
  · have h' : low ≤ x := h
    go_enter Tryz.func78, Tryz.ntmps78
    go_wp2
    go_ret
    exact ⟨by simp [h], 0, rfl⟩
  · have hf : decide (low ≤ x) = false := by simp [h]
    rw [hf]
    go_enter Tryz.func78, Tryz.ntmps78
    go_wp2
    go_ret
    exact ⟨by simp, 0, rfl⟩
set_option maxHeartbeats 2000000 in
theorem impl_IsCartan (g o n cp : Nat) (c : List (List Int)) (w : World) (hn : c.length = n) (hx : c.length ≤ 1099511627776) (hrl : ∀ j, j < c.length → (c.getD j []).length ≤ 1099511627776) (hr : Rows2 w g o c) :
    Calls Tryz.prog 82 #[(Value.slice (some ⟨g, o, none⟩) n cp)] w (Reads w (.bool (decide (IsC c)))) := by
  subst hn
  by_cases h1 : c.length < 1
  · have hf : decide (IsC c) = false := by simp [IsC]; omega
    rw [hf]
    go_enter Tryz.func82, Tryz.ntmps82
    go_wp2
    go_ret
    exact ⟨rfl, 0, rfl⟩
  by_cases h4 : 4 < c.length
  · have hf : decide (IsC c) = false := by simp [IsC]; omega
    rw [hf]
    go_enter Tryz.func82, Tryz.ntmps82
    go_wp2
    go_ret
    exact ⟨rfl, 0, rfl⟩
  go_enter Tryz.func82, Tryz.ntmps82
  go_wp2
  go_loopw [19] (fun i wr => ∃ k : Nat, k ≤ c.length ∧ i = .int .i64 k ∧ (∀ j, j < k → (c.getD j []).length = c.length) ∧ ∃ m, wr = w.drewN m) (fun i _ => c.length - (intOf i).toNat)
  case atStart => exact ⟨0, Nat.zero_le _, rfl, by omega, 0, rfl⟩
  case round =>
    obtain ⟨k, hk, rfl, hall, m, rfl⟩ := hrel
    by_cases hlt : k < c.length
    · obtain ⟨ga, oa, ca, q1, q2, q3, q4⟩ := hr k hlt
      have hrk := hrl k hlt
      by_cases hlen : (c.getD k []).length = c.length
      · rw [hlen] at q1
        go_wp2
        go_roundw
        case rel =>
          refine ⟨k + 1, by omega, by go_num, fun j hj => ?_, (by first | exact ⟨_, rfl⟩ | exact ⟨0, rfl⟩ | exact still2 _ _ _ | exact still3 _ _ _ _)⟩
          by_cases e : j = k
          · subst e; exact hlen
          · exact hall j (by omega)
        case measure => simp [intOf]; omega
      · have hf : decide (IsC c) = false := by
          simp only [decide_eq_false_iff_not]
          exact fun h => hlen (h.2.2.1 k hlt)
        rw [hf]
        generalize (c.getD k []).length = L at *
        have hlen' : (L : Int) ≠ c.length := by omega
        go_wp2
        go_ret
        exact ⟨rfl, m, rfl⟩
    · obtain rfl : k = c.length := by omega
      go_wp2
      go_loopw [29] (fun i wr => ∃ k : Nat, k ≤ c.length ∧ i = .int .i64 k ∧ (∀ i, i < k → ∀ j, j < c.length → EntOk c i j) ∧ ∃ m, wr = w.drewN m) (fun i _ => c.length - (intOf i).toNat)
      case atStart => exact ⟨0, Nat.zero_le _, rfl, by omega, (by first | exact ⟨_, rfl⟩ | exact ⟨0, rfl⟩ | exact still2 _ _ _ | exact still3 _ _ _ _)⟩
      case round =>
        obtain ⟨a, ha, rfl, hent, m, rfl⟩ := hrel
        by_cases hlt : a < c.length
        · go_wp2
          obtain ⟨ga, oa, ca, q1, q2, q3, q4⟩ := hr a hlt
          have hla := hall a hlt
          rw [hla] at q1
          go_loopw [33] (fun i wr => ∃ k : Nat, k ≤ c.length ∧ i = .int .i64 k ∧ (∀ j, j < k → EntOk c a j) ∧ ∃ m, wr = w.drewN m) (fun i _ => c.length - (intOf i).toNat)
          case atStart => exact ⟨0, Nat.zero_le _, rfl, by omega, (by first | exact ⟨_, rfl⟩ | exact ⟨0, rfl⟩ | exact still2 _ _ _ | exact still3 _ _ _ _)⟩
          case round =>
            obtain ⟨b, hb, rfl, hrow, m', rfl⟩ := hrel
            by_cases hltb : b < c.length
            · obtain ⟨gb, ob, cb, p1, p2, p3, p4⟩ := hr b hltb
              have hlb := hall b hltb
              rw [hlb] at p1
              have ex := q4 b (by rw [hla]; exact hltb)
              have ey := p4 a (by rw [hlb]; exact hlt)
              have hok : EntOk c a b ↔ if a = b then (c.getD a []).getD b 0 = 2 else (-3 ≤ (c.getD a []).getD b 0 ∧ (c.getD a []).getD b 0 ≤ 0 ∧ (decide ((c.getD a []).getD b 0 = 0) = decide ((c.getD b []).getD a 0 = 0))) := Iff.rfl
              generalize (c.getD a []).getD b 0 = x at ex hok
              generalize (c.getD b []).getD a 0 = y at ey hok
              have hbad : ¬ EntOk c a b → decide (IsC c) = false := fun h => by
                simp only [decide_eq_false_iff_not]
                exact fun h' => h (h'.2.2.2 a hlt b hltb)
              by_cases hab : a = b
              · obtain rfl := hab
                rw [if_pos rfl] at hok
                by_cases hx2 : x = 2
                · have hgood := hok.2 hx2
                  subst hx2
                  go_wp2
                  go_roundw
                  case rel =>
                    refine ⟨a + 1, by omega, by go_num, fun j hj => ?_, (by first | exact ⟨_, rfl⟩ | exact ⟨0, rfl⟩ | exact still2 _ _ _ | exact still3 _ _ _ _)⟩
                    by_cases e : j = a
                    · subst e; exact hgood
                    · exact hrow j (by omega)
                  case measure => simp [intOf]; omega
                · have hno : ¬ EntOk c a a := fun h => hx2 (hok.1 h)
                  have hf := hbad hno
                  go_wp2
                  go_ret
                  refine ⟨?_, (by first | exact ⟨_, rfl⟩ | exact ⟨0, rfl⟩ | exact still2 _ _ _ | exact still3 _ _ _ _)⟩
                  first | (rw [hf]; rfl) | rfl | simp
              · rw [if_neg hab] at hok
                have habI : ¬ (a : Int) = b := by omega
                have habn : ((a : Int) == b) = false := by simpa using habI
                by_cases hx3 : x < -3
                · have hno : ¬ EntOk c a b := fun h => by have := (hok.1 h).1; omega
                  have hf := hbad hno
                  go_wp2
                  go_ret
                  refine ⟨?_, (by first | exact ⟨_, rfl⟩ | exact ⟨0, rfl⟩ | exact still2 _ _ _ | exact still3 _ _ _ _)⟩
                  first | (rw [hf]; rfl) | rfl | simp
                by_cases hx0 : 0 < x
                · have hno : ¬ EntOk c a b := fun h => by have := (hok.1 h).2.1; omega
                  have hf := hbad hno
                  go_wp2
                  go_ret
                  refine ⟨?_, (by first | exact ⟨_, rfl⟩ | exact ⟨0, rfl⟩ | exact still2 _ _ _ | exact still3 _ _ _ _)⟩
                  first | (rw [hf]; rfl) | rfl | simp
                have hne : ((a : Int) != (b : Int)) = true := by simpa using habI
                have hxy := neqz x y
                by_cases hq : (decide (x = 0) != decide (y = 0)) = true
                · have hno : ¬ EntOk c a b := fun h => by have := (hok.1 h).2.2; rw [this] at hq; simp at hq
                  clear hok
                  have hf := hbad hno
                  rw [hq] at hxy
                  go_wp2
                  all_goals
                    go_ret
                    refine ⟨?_, (by first | exact ⟨_, rfl⟩ | exact ⟨0, rfl⟩ | exact still2 _ _ _ | exact still3 _ _ _ _)⟩
                    first | (rw [hf]; rfl) | rfl | simp
                · have hq' : (decide (x = 0) != decide (y = 0)) = false := by simpa using hq
                  have hgood := hok.2 ⟨by omega, by omega, by simpa using hq'⟩
                  clear hok hbad hq
                  rw [hq'] at hxy
                  go_wp2
                  go_roundw
                  case rel =>
                    refine ⟨b + 1, by omega, by go_num, fun j hj => ?_, (by first | exact ⟨_, rfl⟩ | exact ⟨0, rfl⟩ | exact still2 _ _ _ | exact still3 _ _ _ _)⟩
                    by_cases e : j = b
                    · subst e; exact hgood
                    · exact hrow j (by omega)
                  case measure => simp [intOf]; omega
            · obtain rfl : b = c.length := by omega
              go_wp2
              go_roundw
              case rel => 
                refine ⟨a + 1, by omega, by go_num, fun i hi => ?_, (by first | exact ⟨_, rfl⟩ | exact ⟨0, rfl⟩ | exact still2 _ _ _ | exact still3 _ _ _ _)⟩
                by_cases e : i = a
                · subst e; exact hrow
                · exact hent i (by omega)
              case measure => simp [intOf]; omega
        · obtain rfl : a = c.length := by omega
          have hf : decide (IsC c) = true := by
            simp only [decide_eq_true_eq]
            exact ⟨by omega, by omega, hall, hent⟩
          go_wp2
          go_ret
          refine ⟨?_, m, rfl⟩
          first | (rw [hf]; rfl) | rfl | simp
theorem cart_l1In (x low high : Int) (b : Bool) (h : (decide (low ≤ x) && decide (x ≤ high)) = b) (w : World) (m : Nat) :
    Hid (∀ j, Calls Tryz.prog 78 #[.int .i64 x, .int .i64 low, .int .i64 high] (w.drewN (m + j)) (Reads (w.drewN (m + j)) (.bool b))) := by
  intro j; subst h; exact spec_l1In x low high _
theorem Reads.quiet4 {f : FuncId} {args : Array Value} {w : World} {m n : Nat} {v : Value} (h : Calls Tryz.prog f args (w.drewN (m + n)) (Reads (w.drewN (m + n)) v)) :
    Calls Tryz.prog f args (w.drewN (m + n)) fun e w'' => e = .returned v ∧ ∃ k, w'' = w.drewN (m + k) :=
  h.mono fun _ _ ⟨he, k, hk⟩ => ⟨he, n + k, by rw [hk, World.drewN_drewN, Nat.add_assoc]⟩
set_option maxHeartbeats 2000000 in
theorem spec_IsCartan (g o n cp : Nat) (c : List (List Int)) (w : World) (hn : c.length = n) (hx : c.length ≤ 1099511627776) (hrl : ∀ j, j < c.length → (c.getD j []).length ≤ 1099511627776) (hr : Rows2 w g o c) :
    Calls Tryz.prog 60 #[(Value.slice (some ⟨g, o, none⟩) n cp)] w (Reads w (.bool (decide (IsC c)))) := by
  subst hn
  go_enter Tryz.func60, Tryz.ntmps60
  go_wp2
  go_loopw [3] (fun i wr => ∃ k : Nat, k ≤ c.length ∧ i = .int .i64 k ∧ (∀ j, j < k → (c.getD j []).length = c.length) ∧ ∃ m, wr = w.drewN m) (fun i _ => c.length - (intOf i).toNat)
  case atStart => exact ⟨0, Nat.zero_le _, rfl, by omega, (by first | exact ⟨_, rfl⟩ | exact ⟨0, rfl⟩ | exact still2 _ _ _ | exact still3 _ _ _ _)⟩
  case round =>
    obtain ⟨k, hk, rfl, hall, m, rfl⟩ := hrel
    by_cases hlt : k < c.length
    · obtain ⟨ga, oa, ca, q1, q2, q3, q4⟩ := hr k hlt
      have hrk := hrl k hlt
      by_cases hlen : (c.getD k []).length = c.length
      · rw [hlen] at q1
        go_wp2
        go_roundw
        case rel =>
          refine ⟨k + 1, by omega, by go_num, fun j hj => ?_, (by first | exact ⟨_, rfl⟩ | exact ⟨0, rfl⟩ | exact still2 _ _ _ | exact still3 _ _ _ _)⟩
          by_cases e : j = k
          · subst e; exact hlen
          · exact hall j (by omega)
        case measure => simp [intOf]; omega
      · have hf : decide (IsC c) = false := by
          simp only [decide_eq_false_iff_not]
          exact fun h => hlen (h.2.2.1 k hlt)
        rw [hf]
        generalize (c.getD k []).length = L at *
        have hlen' : (L : Int) ≠ c.length := by omega
        go_wp2
        go_ret
        exact ⟨rfl, m, rfl⟩
    · obtain rfl : k = c.length := by omega
      go_wp2
      go_loopw [4, 5] (fun i _ wr => ∃ k : Nat, k ≤ c.length ∧ i = .int .i64 k ∧ (∀ i, i < k → ∀ j, j < c.length → EntOk c i j) ∧ ∃ m, wr = w.drewN m) (fun i _ _ => c.length - (intOf i).toNat)
      case atStart => exact ⟨0, Nat.zero_le _, rfl, by omega, (by first | exact ⟨_, rfl⟩ | exact ⟨0, rfl⟩ | exact still2 _ _ _ | exact still3 _ _ _ _)⟩
      case round =>
        obtain ⟨a, ha, rfl, hent, m, rfl⟩ := hrel
        by_cases hlt : a < c.length
        · go_wp2
          obtain ⟨ga, oa, ca, q1, q2, q3, q4⟩ := hr a hlt
          have hla := hall a hlt
          rw [hla] at q1
          go_loopw [5] (fun i wr => ∃ k : Nat, k ≤ c.length ∧ i = .int .i64 k ∧ (∀ j, j < k → EntOk c a j) ∧ ∃ m, wr = w.drewN m) (fun i _ => c.length - (intOf i).toNat)
          case atStart => exact ⟨0, Nat.zero_le _, rfl, by omega, (by first | exact ⟨_, rfl⟩ | exact ⟨0, rfl⟩ | exact still2 _ _ _ | exact still3 _ _ _ _)⟩
          case round =>
            obtain ⟨b, hb, rfl, hrow, m', rfl⟩ := hrel
            by_cases hltb : b < c.length
            · obtain ⟨gb, ob, cb, p1, p2, p3, p4⟩ := hr b hltb
              have hlb := hall b hltb
              rw [hlb] at p1
              have ex := q4 b (by rw [hla]; exact hltb)
              have ey := p4 a (by rw [hlb]; exact hlt)
              have hok : EntOk c a b ↔ if a = b then (c.getD a []).getD b 0 = 2 else (-3 ≤ (c.getD a []).getD b 0 ∧ (c.getD a []).getD b 0 ≤ 0 ∧ (decide ((c.getD a []).getD b 0 = 0) = decide ((c.getD b []).getD a 0 = 0))) := Iff.rfl
              generalize (c.getD a []).getD b 0 = x at ex hok
              generalize (c.getD b []).getD a 0 = y at ey hok
              have hbad : ¬ EntOk c a b → decide (IsC c) = false := fun h => by
                simp only [decide_eq_false_iff_not]
                exact fun h' => h (h'.2.2.2 a hlt b hltb)
              by_cases hab : a = b
              · obtain rfl := hab
                rw [if_pos rfl] at hok
                by_cases hx2 : x = 2
                · have hgood := hok.2 hx2
                  clear hok hbad
                  subst hx2
                  go_wp2
                  go_quiet (fail)
                  go_wp2
                  go_roundw
                  case rel =>
                    refine ⟨a + 1, by omega, by go_num, fun j hj => ?_, (by first | exact ⟨_, rfl⟩ | exact ⟨0, rfl⟩ | exact still2 _ _ _ | exact still3 _ _ _ _)⟩
                    by_cases e : j = a
                    · subst e; exact hgood
                    · exact hrow j (by omega)
                  case measure => simp [intOf]; omega
                · have hno : ¬ EntOk c a a := fun h => hx2 (hok.1 h)
                  have hf := hbad hno
                  have hx2' : (x != 2) = true := by simpa using hx2
                  clear hok hbad hno hx2
                  go_wp2
                  go_quiet (fail)
                  go_wp2
                  go_ret
                  refine ⟨?_, (by first | exact ⟨_, rfl⟩ | exact ⟨0, rfl⟩ | exact still2 _ _ _ | exact still3 _ _ _ _)⟩
                  first | (rw [hf]; rfl) | rfl | simp
              · rw [if_neg hab] at hok
                have habI : ¬ (a : Int) = b := by omega
                have habn : ((a : Int) == b) = false := by simpa using habI
                have hne : ((a : Int) != (b : Int)) = true := by simpa using habI
                have hxy := neqz x y
                by_cases hin : (decide (-3 ≤ x) && decide (x ≤ 0)) = true
                · have hq1 := cart_l1In x (-3) 0 true hin w m'
                  by_cases hq : (decide (x = 0) != decide (y = 0)) = true
                  · have hno : ¬ EntOk c a b := fun h => by have := (hok.1 h).2.2; rw [this] at hq; simp at hq
                    clear hok
                    have hf := hbad hno
                    rw [hq] at hxy
                    clear hbad hno hab hin hq
                    go_wp2
                    go_quiet ((go_at_call 78; exact Reads.quiet4 (hq1.out _)))
                    go_wp2
                    go_ret
                    refine ⟨?_, (by first | exact ⟨_, rfl⟩ | exact ⟨0, rfl⟩ | exact still2 _ _ _ | exact still3 _ _ _ _)⟩
                    first | (rw [hf]; rfl) | rfl | simp
                  · have hq' : (decide (x = 0) != decide (y = 0)) = false := by simpa using hq
                    have hgood := hok.2 ⟨by simp at hin; omega, by simp at hin; omega, by simpa using hq'⟩
                    rw [hq'] at hxy
                    clear hok hbad hq hin hq'
                    go_wp2
                    go_quiet ((go_at_call 78; exact Reads.quiet4 (hq1.out _)))
                    go_wp2
                    go_roundw
                    case rel =>
                      refine ⟨b + 1, by omega, by go_num, fun j hj => ?_, (by first | exact ⟨_, rfl⟩ | exact ⟨0, rfl⟩ | exact still2 _ _ _ | exact still3 _ _ _ _)⟩
                      by_cases e : j = b
                      · subst e; exact hgood
                      · exact hrow j (by omega)
                    case measure => simp [intOf]; omega
                · have hin' : (decide (-3 ≤ x) && decide (x ≤ 0)) = false := by simpa using hin
                  have hq1 := cart_l1In x (-3) 0 false hin' w m'
                  have hno : ¬ EntOk c a b := fun h => by have := hok.1 h; simp at hin; omega
                  have hf := hbad hno
                  clear hok hbad hno hin hin' hab hxy
                  go_wp2
                  go_quiet ((go_at_call 78; exact Reads.quiet4 (hq1.out _)))
                  go_wp2
                  go_ret
                  refine ⟨?_, (by first | exact ⟨_, rfl⟩ | exact ⟨0, rfl⟩ | exact still2 _ _ _ | exact still3 _ _ _ _)⟩
                  first | (rw [hf]; rfl) | rfl | simp
            · obtain rfl : b = c.length := by omega
              go_wp2
              go_roundw
              case rel => 
                refine ⟨a + 1, by omega, by go_num, fun i hi => ?_, (by first | exact ⟨_, rfl⟩ | exact ⟨0, rfl⟩ | exact still2 _ _ _ | exact still3 _ _ _ _)⟩
                by_cases e : i = a
                · subst e; exact hrow
                · exact hent i (by omega)
              case measure => simp [intOf]; omega
        · obtain rfl : a = c.length := by omega
          have hf : decide (IsC c) = (decide ((1 : Int) ≤ c.length) && decide ((c.length : Int) ≤ 4)) := by
            rw [← Bool.decide_and]
            refine decide_eq_decide.2 ⟨fun h => by have := h.1; have := h.2.1; omega, fun h => ⟨by omega, by omega, hall, hent⟩⟩
          go_wp2_with fail
          refine (spec_l1In _ _ _ _).mono ?_
          rintro e w' ⟨rfl, m', rfl⟩
          go_wp2_with fail
          go_ret
          refine ⟨?_, (by first | exact ⟨_, rfl⟩ | exact ⟨0, rfl⟩ | exact still2 _ _ _ | exact still3 _ _ _ _)⟩
          first | (rw [hf]; rfl) | rfl | simp
end Go.Proofs.YtkjglfafphffiaaGreatDoor

/- Vectors of four numbers as keys: vectorOf, list. Sets of vectors that a call keeps in a map: words and laws. New rows and a bool; small laws of sets of vectors. -/
import Derived.Test.YtmjneokgnnbekaaG10
import Derived.Laws.CopyOwn
import Derived.Maps.Own
import Derived.Maps.OwnOps
import Derived.Maps.Views
import Derived.WideKeyArr2
import Derived.DeepKeys4
import Derived.Test.YtmjneokgnnbekaaG09
namespace Go.Proofs.Ytmjneokgnnbekaa
set_option maxRecDepth 100000
open Go.RowKit Game

def vecVal (v : List Int) : Value := .agg #[.int .i64 (v.getD 0 0), .int .i64 (v.getD 1 0), .int .i64 (v.getD 2 0), .int .i64 (v.getD 3 0)]

theorem splice4 (v : List Int) (h : v.length ≤ 4) : splice [Value.int .i64 0, .int .i64 0, .int .i64 0, .int .i64 0] 0 (v.map (Value.int .i64)) = [.int .i64 (v.getD 0 0), .int .i64 (v.getD 1 0), .int .i64 (v.getD 2 0), .int .i64 (v.getD 3 0)] := by
  match v, h with
  | [], _ => rfl
  | [a], _ => rfl
  | [a, b], _ => rfl
  | [a, b, c], _ => rfl
  | [a, b, c, d], _ => rfl
theorem cell4 {w : World} {B : Nat} {a b c d : Value} {t : TypeId} (h : w.heap[B]? = some (.cells #[a, b, c, d] t (0, 0))) :
    (w.cell? ⟨B, 0, none⟩ = some a ∧ w.cell? ⟨B, 1, none⟩ = some b ∧ w.cell? ⟨B, 2, none⟩ = some c ∧ w.cell? ⟨B, 3, none⟩ = some d) ∧ ∀ j, w.frozen? ⟨B, j, none⟩ = false := by
  refine ⟨⟨?_, ?_, ?_, ?_⟩, fun j => ?_⟩ <;> simp [World.cell?, World.frozen?, h]

/-- 'append([]int{}, l...)', the worlds under names -/
theorem wpList_clone_n {w : World} {ops : Array Oper} {rest : List Oper} {o : Oper} {a : Act} {Q : Exit → Act → World → Prop} (hgd : o.guard = none) (s x : Operand)
    (ho : o.op = .call { callee := .builtin .append, args := #[s, x], argTypes := #[23, 23] })
    (w1 W : World) (H g2 o2 n2 c2 : Nat) (ys : List Int) (hn : ys.length = n2) (hW : W = w1.alloc (.cells #[] 3)) (hH : w1.heap.size = H) (hb : Below w.heap.size w w1) (hg : g2 < w1.heap.size) (hc : Cells w1 g2 o2 ys)
    (hs : a.eval s = (Value.slice (some ⟨H, 0, none⟩) 0 0)) (hx : a.eval x = (Value.slice (some ⟨g2, o2, none⟩) n2 c2)) (hlen : ys.length ≤ 1099511627776)
    (h : ∀ g' cap' w', Own w' w.heap.size g' cap' ys → Below w.heap.size w w' → wpList Try.prog ops Q rest (a.put o.dst (Value.slice (some ⟨g', 0, none⟩) n2 cap')) w') :
    wpList Try.prog ops Q (o :: rest) a W := by
  subst hW; subst hH
  exact wpList_clone hgd s x ho g2 o2 n2 c2 ys hn hg hc hs hx hlen fun g' cap' w' h1 h2 => h g' cap' w' (h1.mono hb.size) (hb.trans (h2.mono hb.size))

theorem cells_of4 {w : World} {B : Nat} {v : List Int} {t : TypeId} (h4 : v.length ≤ 4) (h : w.heap[B]? = some (.cells #[.int .i64 (v.getD 0 0), .int .i64 (v.getD 1 0), .int .i64 (v.getD 2 0), .int .i64 (v.getD 3 0)] t (0, 0))) : Cells w B 0 v := by
  obtain ⟨⟨a0, a1, a2, a3⟩, -⟩ := cell4 h
  intro j hj
  have : j = 0 ∨ j = 1 ∨ j = 2 ∨ j = 3 := by omega
  rcases this with rfl | rfl | rfl | rfl
  · exact a0
  · exact a1
  · exact a2
  · exact a3
end Go.Proofs.Ytmjneokgnnbekaa
namespace Go.Proofs.Ytmjneokgnnbekaa
set_option maxRecDepth 100000
open Go.RowKit Game
open Go.Maps (Keyed IsMap)

theorem vecLaidOut : laidOutB Try.prog = true := by kernel_rfl
theorem boolZero (w : World) : (zeroValue 4).run Try.prog w = .ok (.bool false) w := by kernel_rfl
def WfV (v : List Int) : Prop := ∀ j, j < 4 → (Lit.int .i64 (v.getD j 0)).wf = true
def keyL (v : List Int) : Lit := .string (keyBytes [.int .i64 (v.getD 0 0), .int .i64 (v.getD 1 0), .int .i64 (v.getD 2 0), .int .i64 (v.getD 3 0)])
theorem vecVal_inj {v u : List Int} (hl : v.length = u.length) (h4 : v.length ≤ 4) (h : vecVal v = vecVal u) : v = u := by
  unfold vecVal at h
  simp at h
  obtain ⟨h0, h1, h2, h3⟩ := h
  apply List.ext_getElem hl
  intro i hi hi'
  have : i = 0 ∨ i = 1 ∨ i = 2 ∨ i = 3 := by omega
  rcases this with rfl | rfl | rfl | rfl <;> simp_all
section
variable {w w' : World} {b n m : Nat} {ks : List (List Int)}
theorem plainElem_bool_inv {P : Program} {e : TypeId} (he : P.underlying e = some .bool) {v : Value} {z : DataW Unit × List MemPlace} (h : plainElem P e v = some z) : ∃ x, v = .bool x ∧ z = (.lit (.bool x), []) := by
  unfold plainElem at h
  rw [he] at h
  cases v <;> simp at h
  subst h
  exact ⟨_, rfl, rfl⟩
end
end Go.Proofs.Ytmjneokgnnbekaa
namespace Go.Proofs.Ytmjneokgnnbekaa
set_option maxRecDepth 100000
open Go.RowKit Game

theorem wfV_refl (c : List (List Int)) (i : Nat) (v : List Int) : WfV (refl c i v) := by
  intro j _
  by_cases h : j < v.length
  · have e : (refl c i v).getD j 0 = reflAt c i v j := by simp [refl, List.getD, h]
    rw [e]; exact wrap64_wf _
  · have e : (refl c i v).getD j 0 = 0 := by simp [refl, List.getD, h]
    rw [e]; decide
/-- new rows and a bool -/
def GotRowsB (w : World) (rows : List (List Int)) (b : Bool) (e : Ending) (w' : World) : Prop :=
  ∃ g cap rs, e = .returned (.tuple #[(Value.slice (some ⟨g, 0, none⟩) rows.length cap), .bool b]) ∧ contents rs = rows ∧ OwnRows w' w.heap.size g cap rs ∧ Below w.heap.size w w'
theorem GotRowsB.mk' {w w' : World} {rows : List (List Int)} {b : Bool} {n : Nat} (g cap : Nat) (rs : List RowRef) (hl : rs.length = n) (hc : contents rs = rows) (ho : OwnRows w' w.heap.size g cap rs) (hb : Below w.heap.size w w') :
    GotRowsB w rows b (.returned (.tuple #[(Value.slice (some ⟨g, 0, none⟩) n cap), .bool b])) w' := by
  subst hl; subst hc
  exact ⟨g, cap, rs, by rw [contents_length], rfl, ho, hb⟩
theorem start_rows (w : World) : OwnRows ((w.alloc (.cells #[] 3)).alloc (.cells #[(Value.slice (some ⟨w.heap.size, 0, none⟩) 0 0)] 23)) w.heap.size (w.heap.size + 1) 1 [(w.heap.size, 0, [])] := by
  have h1 : Own (w.alloc (.cells #[] 3)) w.heap.size w.heap.size 0 [] := Own.empty (w := w) (Nat.le_refl _)
  have h2 : OwnV ((w.alloc (.cells #[] 3)).alloc (.cells #[(Value.slice (some ⟨w.heap.size, 0, none⟩) 0 0)] 23)) w.heap.size 23 (w.heap.size + 1) 1 [(Value.slice (some ⟨w.heap.size, 0, none⟩) 0 0)] := by
    have := OwnV.new (w := w.alloc (.cells #[] 3)) (B := w.heap.size) (E := 23) (Value.slice (some ⟨w.heap.size, 0, none⟩) 0 0) rfl (by simp)
    simpa using this
  exact ⟨h2, ⟨fun r hr => by rw [List.mem_singleton] at hr; subst hr; exact h1.alloc _, by simp⟩⟩
theorem GotRowsB.held {w w' : World} {rows : List (List Int)} {b : Bool} {e : Ending} (h : GotRowsB w rows b e w') :
    ∃ g cap, e = .returned (.tuple #[(Value.slice (some ⟨g, 0, none⟩) rows.length cap), .bool b]) ∧ HeldR w' w.heap.size w'.heap.size g cap rows ∧ Below w.heap.size w w' := by
  obtain ⟨g, cap, rs, he, hc, ho, hb⟩ := h
  exact ⟨g, cap, he, ⟨rs, hc, ho, ho.lt, fun r hr => (ho.2.1 r hr).lt⟩, hb⟩
theorem rowsFew_of {rows : List (List Int)} (h1 : rows.length ≤ 200) (h2 : ∀ x ∈ rows, x.length ≤ 15) : rowsFew rows := by
  have h3 : ∀ j, j < rows.length → (rows.getD j []).length ≤ 15 := fun j hj => h2 _ (by simp [List.getD, hj])
  refine ⟨by omega, fun j hj => by have := h3 j hj; omega, ?_⟩
  have : ∀ k, k ≤ rows.length → sumLen rows k ≤ 15 * k := by
    intro k
    induction k with
    | zero => intro _; simp [sumLen]
    | succ k ih =>
      intro hk
      rw [sumLen_succ _ _ (by omega)]
      have := h3 k (by omega)
      have := ih (by omega)
      omega
  have := this rows.length (Nat.le_refl _)
  omega
end Go.Proofs.Ytmjneokgnnbekaa

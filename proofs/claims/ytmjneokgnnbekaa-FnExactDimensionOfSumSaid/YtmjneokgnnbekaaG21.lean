/- Sets of vectors that a call keeps in a map: words and laws. Determinants of small matrices, sets of points, finite types: plain law. -/
import Derived.Test.YtmjneokgnnbekaaG16
import Derived.Maps.Own
import Derived.Maps.OwnOps
import Derived.Maps.Views
import Derived.WideKeyArr2
import Derived.DeepKeys4
import Derived.Test.YtmjneokgnnbekaaG03
namespace Go.Proofs.Ytmjneokgnnbekaa
set_option maxRecDepth 100000
open Go.RowKit Game
open Go.Maps (Keyed IsMap)

theorem vecLaidOutP : laidOutB Try.prog = true := by kernel_rfl
theorem vecRowP : (92 : TypeId) < Try.prog.types.size := of_decide_eq_true (by kernel_rfl)
theorem vecLawP : WideMaps.KeyLaw Try.prog 92 := deep_law_laid vecLaidOutP (m := 2) (by omega) vecRowP (by kernel_rfl) (by rw [Try.underlying92])
theorem vecKeyedP : Keyed Try.prog 92 := Keyed.of_law vecLawP
theorem vecArrP : WideMaps.ArrKey Try.prog 92 3 4 := ⟨Try.underlying92, by kernel_rfl, by kernel_rfl, by kernel_rfl⟩
theorem boolZeroP (w : World) : (zeroValue 4).run Try.prog w = .ok (.bool false) w := by kernel_rfl
theorem typesPosP : ∃ m, Try.prog.types.size = m + 1 := by
  have h : 0 < Try.prog.types.size := Nat.lt_of_le_of_lt (Nat.zero_le _) vecRowP
  generalize Try.prog.types.size = k at h
  exact ⟨k - 1, by omega⟩

def WfVP (v : List Int) : Prop := ∀ j, j < 4 → (Lit.int .i64 (v.getD j 0)).wf = true
def keyLP (v : List Int) : Lit := .string (keyBytes [.int .i64 (v.getD 0 0), .int .i64 (v.getD 1 0), .int .i64 (v.getD 2 0), .int .i64 (v.getD 3 0)])
theorem keyOf_vecP {v : List Int} (h : WfVP v) : keyOf Try.prog 92 (vecVal v) = some (keyLP v) := by
  have hkt := vecArrP.keyType typesPosP
  obtain ⟨m, hm⟩ := typesPosP
  have h0 := h 0 (by omega)
  have h1 := h 1 (by omega)
  have h2 := h 2 (by omega)
  have h3 := h 3 (by omega)
  unfold vecVal keyLP
  generalize v.getD 0 0 = x0 at *
  generalize v.getD 1 0 = x1 at *
  generalize v.getD 2 0 = x2 at *
  generalize v.getD 3 0 = x3 at *
  unfold keyOf
  simp only [vecArrP.hu]
  rw [if_pos (by simp [hkt, Value.formed, vecArrP.hu, vecArrP.size]), hm]
  unfold Program.keyLits
  simp only [vecArrP.hu, Value.cells]
  rw [if_pos (by rw [vecArrP.size]; rfl), show List.range 4 = [0, 1, 2, 3] from rfl, List.mapM_cons, List.mapM_cons, List.mapM_cons, List.mapM_cons, List.mapM_nil]
  simp [vecArrP.one, Program.keyLits, Try.underlying3, h0, h1, h2, h3]
theorem vecVal_injP {v u : List Int} (hl : v.length = u.length) (h4 : v.length ≤ 4) (h : vecVal v = vecVal u) : v = u := by
  unfold vecVal at h
  simp at h
  obtain ⟨h0, h1, h2, h3⟩ := h
  apply List.ext_getElem hl
  intro i hi hi'
  have : i = 0 ∨ i = 1 ∨ i = 2 ∨ i = 3 := by omega
  rcases this with rfl | rfl | rfl | rfl <;> simp_all
theorem keyL_injP {v u : List Int} (hv : WfVP v) (hu : WfVP u) (hl : v.length = u.length) (h4 : v.length ≤ 4) (h : keyLP v = keyLP u) : v = u :=
  vecVal_injP hl h4 (vecKeyedP.inj (keyOf_vecP hv) (by rw [h]; exact keyOf_vecP hu))

/-- block b is a map that holds just these vectors of m numbers -/
def SeenMP (w : World) (b n m : Nat) (ks : List (List Int)) : Prop :=
  ∃ D : DataW Unit, w.ownsMap Try.prog 92 (plainElem Try.prog 4) b n D ∧ IsMap D ∧ ∀ v : List Int, v.length = m → WfVP v → D.atKey (keyLP v) (.lit (.bool false)) = .lit (.bool (decide (v ∈ ks)))
section
variable {w w' : World} {b n m : Nat} {ks : List (List Int)}
theorem SeenMP.start (w : World) (m : Nat) : SeenMP (w.alloc (.map #[] 0)) w.heap.size 0 m [] :=
  ⟨.map [], World.ownsMap_made _ _ _ _, ⟨[], rfl⟩, fun v _ _ => by simp [DataW.atKey]⟩
theorem SeenMP.lt (h : SeenMP w b n m ks) : b < w.heap.size := by obtain ⟨D, h, -⟩ := h; exact h.lt
theorem SeenMP.grown {row : Option Nat} (h : SeenMP w b n m ks) (hg : w.grownBy w' row) (hne : some b ≠ row) : SeenMP w' b n m ks := by
  obtain ⟨D, h, h2⟩ := h; exact ⟨D, h.kept hg hne, h2⟩
theorem SeenMP.below {B : Nat} (h : SeenMP w b n m ks) (hb : Below B w w') (hB : b < B) : SeenMP w' b n m ks := by
  obtain ⟨D, ⟨es, clock, hh, r⟩, h2⟩ := h
  exact ⟨D, ⟨es, clock, (hb.block b hB).trans hh, r⟩, h2⟩
theorem SeenMP.still (h : SeenMP w b n m ks) (hs : ∃ k, w' = w.drewN k) : SeenMP w' b n m ks := by obtain ⟨k, rfl⟩ := hs; exact h
theorem plainElem_bool_invP {P : Program} {e : TypeId} (he : P.underlying e = some .bool) {v : Value} {z : DataW Unit × List MemPlace} (h : plainElem P e v = some z) : ∃ x, v = .bool x ∧ z = (.lit (.bool x), []) := by
  unfold plainElem at h
  rw [he] at h
  cases v <;> simp at h
  subst h
  exact ⟨_, rfl, rfl⟩
/-- 'seen[key]' -/
theorem wpList_seen_lookupP {ops : Array Oper} {rest : List Oper} {o : Oper} {a : Act} {Q : Exit → Act → World → Prop}
    (hg : o.guard = none) (x y : Operand) (hop : o.op = Op.lookup 91 x y false) (b n m : Nat) (ks : List (List Int)) (v : List Int) (hv : v.length = m) (hw : WfVP v)
    (hown : SeenMP w b n m ks) (hx : a.eval x = .map (some b)) (hy : a.eval y = vecVal v) (r : Bool) (hr : decide (v ∈ ks) = r)
    (hK : wpList Try.prog ops Q rest (a.put o.dst (.bool r)) w) :
    wpList Try.prog ops Q (o :: rest) a w := by
  refine wpList_plain hg fun K' hK' => ?_
  obtain ⟨D, hD, -, hat⟩ := hown
  obtain ⟨u, ps, hrun, hu⟩ := hD.lookup vecKeyedP Try.underlying91 (boolZeroP w) (plainElem_bool (H := Unit) Try.underlying4 false) (keyOf_vecP hw)
  obtain ⟨z, rfl, hz⟩ := plainElem_bool_invP Try.underlying4 hu
  rw [hat v hv hw] at hz
  simp at hz
  unfold Oper.wp
  simp [execOp, hop, hx, hy, hrun, Result.andThen]
  rw [← hz.1, hr]
  exact hK' _ _ hK
/-- 'seen[key] = true' -/
theorem wpList_seen_putP {ops : Array Oper} {rest : List Oper} {o : Oper} {a : Act} {Q : Exit → Act → World → Prop}
    (hg : o.guard = none) (x y z : Operand) (hop : o.op = Op.mapUpdate 91 x y z) (b n m : Nat) (ks : List (List Int)) (v : List Int) (hv : v.length = m) (h4 : m ≤ 4) (hw : WfVP v)
    (hown : SeenMP w b n m ks) (hn : n < 1048576) (hx : a.eval x = .map (some b)) (hy : a.eval y = vecVal v) (hz : a.eval z = .bool true)
    (hK : ∀ w', SeenMP w' b (n + 1) m (ks ++ [v]) → w.grownBy w' (some b) → wpList Try.prog ops Q rest (a.put o.dst undef) w') :
    wpList Try.prog ops Q (o :: rest) a w := by
  obtain ⟨D, hD, hmap, hat⟩ := hown
  refine wpList_mapUpdate_own w hg x y z _ hop _ _ vecKeyedP Try.underlying91 _ b n D hx hD (by unfold maxLen; omega) _ _ (keyLP v) hy hz (keyOf_vecP hw) _ [] (plainElem_bool (H := Unit) Try.underlying4 true) ?_
  intro w' hown' hgr
  refine hK w' ⟨_, hown', ?_, fun u hu hwu => ?_⟩ hgr
  · obtain ⟨es, rfl⟩ := hmap
    exact ⟨_, rfl⟩
  · by_cases e : u = v
    · subst e
      rw [Maps.atKey_put_same hmap (vecKeyedP.key (keyOf_vecP hw))]
      simp
    · have hne : keyLP u ≠ keyLP v := fun h => e (keyL_injP hwu hw (by omega) (by omega) h)
      rw [Maps.atKey_put_other hne, hat u hu hwu]
      simp [e]
end
end Go.Proofs.Ytmjneokgnnbekaa
namespace Go.Proofs.Ytmjneokgnnbekaa
set_option maxRecDepth 100000

def sumTo : Nat → (Nat → Int) → Int
  | 0, _ => 0
  | k + 1, g => sumTo k g + g k
def sgn (j : Nat) : Int := if j % 2 = 0 then 1 else -1
def cutAt (row : List Int) (j : Nat) : List Int := row.take j ++ row.drop (j + 1)
def minorOf (m : List (List Int)) (j : Nat) : List (List Int) := (m.drop 1).map fun row => cutAt row j
def det : Nat → List (List Int) → Int
  | 0, _ => 1
  | n + 1, m => sumTo (n + 1) fun j => sgn j * ent m 0 j * det n (minorOf m j)
/-- a square matrix of small numbers -/
def Sq (n : Nat) (m : List (List Int)) : Prop := m.length = n ∧ (∀ i, i < n → (m.getD i []).length = n) ∧ ∀ i j, -3 ≤ ent m i j ∧ ent m i j ≤ 3
def detB : Nat → Int
  | 0 => 1
  | n + 1 => (n + 1) * (3 * detB n)

theorem sumTo_bound (g : Nat → Int) (b : Int) (k : Nat) (h : ∀ j, j < k → -b ≤ g j ∧ g j ≤ b) : -(k * b) ≤ sumTo k g ∧ sumTo k g ≤ k * b := by
  induction k with
  | zero => simp [sumTo]
  | succ k ih =>
    have h1 := ih (fun j hj => h j (by omega))
    have h2 := h k (by omega)
    simp only [sumTo]
    have e : ((k + 1 : Nat) : Int) * b = k * b + b := by rw [Int.natCast_add, Int.add_mul]; simp
    rw [e]; omega
theorem cutAt_length {row : List Int} {j : Nat} (hj : j < row.length) : (cutAt row j).length = row.length - 1 := by
  simp [cutAt]; omega
theorem cutAt_getD (row : List Int) (j k : Nat) : (cutAt row j).getD k 0 = if k < j ∧ k < row.length then row.getD k 0 else row.getD (j + 1 + (k - min j row.length)) 0 := by
  unfold cutAt
  by_cases h : k < j ∧ k < row.length
  · rw [if_pos h]
    simp only [List.getD]
    rw [List.getElem?_append_left (by simp; omega), List.getElem?_take, if_pos h.1]
  · rw [if_neg h]
    simp only [List.getD]
    rw [List.getElem?_append_right (by simp; omega), List.getElem?_drop]
    simp only [List.length_take]
theorem minorOf_sq {n : Nat} {m : List (List Int)} {j : Nat} (h : Sq (n + 1) m) (hj : j < n + 1) : Sq n (minorOf m j) := by
  obtain ⟨h1, h2, h3⟩ := h
  have hg : ∀ i, (minorOf m j).getD i [] = cutAt (m.getD (i + 1) []) j := by
    intro i
    unfold minorOf
    simp only [List.getD, List.getElem?_map, List.getElem?_drop]
    rw [Nat.add_comm 1 i]
    cases m[i + 1]? with
    | none => simp [cutAt]
    | some r => simp
  refine ⟨by simp [minorOf, h1], fun i hi => ?_, fun i k => ?_⟩
  · rw [hg, cutAt_length (by rw [h2 _ (by omega)]; exact hj), h2 _ (by omega)]; omega
  · unfold ent
    rw [hg, cutAt_getD]
    split
    · exact h3 _ _
    · exact h3 _ _
theorem det_bound : ∀ (n : Nat) (m : List (List Int)), Sq n m → -(detB n) ≤ det n m ∧ det n m ≤ detB n := by
  intro n
  induction n with
  | zero => intro m _; simp [det, detB]
  | succ n ih =>
    intro m hm
    have hterm : ∀ j, j < n + 1 → -(3 * detB n) ≤ sgn j * ent m 0 j * det n (minorOf m j) ∧ sgn j * ent m 0 j * det n (minorOf m j) ≤ 3 * detB n := by
      intro j hj
      have h1 := ih _ (minorOf_sq hm hj)
      have h2 := hm.2.2 0 j
      generalize det n (minorOf m j) = d at *
      generalize ent m 0 j = x at *
      generalize detB n = D at *
      have hx : x = -3 ∨ x = -2 ∨ x = -1 ∨ x = 0 ∨ x = 1 ∨ x = 2 ∨ x = 3 := by omega
      unfold sgn
      split <;> rcases hx with rfl | rfl | rfl | rfl | rfl | rfl | rfl <;> omega
    have := sumTo_bound _ _ (n + 1) hterm
    simpa [det, detB] using this
end Go.Proofs.Ytmjneokgnnbekaa

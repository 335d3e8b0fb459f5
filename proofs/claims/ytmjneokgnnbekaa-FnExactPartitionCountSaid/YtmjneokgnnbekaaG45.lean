/- A map of known counts, keyed by vectors of five numbers: words and laws. ones, image, normal forms: contracts. The reference's normal forms: contracts. -/
import Derived.Test.YtmjneokgnnbekaaG44
import Derived.Test.YtmjneokgnnbekaaG20
import Derived.Maps.Own
import Derived.Maps.OwnOps
import Derived.Maps.OwnSet
import Derived.Maps.Views
import Derived.WideKeyArr2
import Derived.DeepKeys4
import Derived.Test.YtmjneokgnnbekaaG18
namespace Go.Proofs.Ytmjneokgnnbekaa
set_option maxRecDepth 100000
open Go.RowKit Game
open Go.Maps (Keyed IsMap has)

def kvVal (r : List Int) (k : Nat) : Value := .agg #[.int .i64 (r.getD 0 0), .int .i64 (r.getD 1 0), .int .i64 (r.getD 2 0), .int .i64 (r.getD 3 0), .int .i64 (k : Int)]
theorem splice5 (v : List Int) (k : Nat) (h : v.length ≤ 4) : splice [Value.int .i64 0, .int .i64 0, .int .i64 0, .int .i64 0, .int .i64 (k : Int)] 0 (v.map (Value.int .i64)) = [.int .i64 (v.getD 0 0), .int .i64 (v.getD 1 0), .int .i64 (v.getD 2 0), .int .i64 (v.getD 3 0), .int .i64 (k : Int)] := by
  match v, h with
  | [], _ => rfl
  | [a], _ => rfl
  | [a, b], _ => rfl
  | [a, b, c], _ => rfl
  | [a, b, c, d], _ => rfl
theorem cell5 {w : World} {B : Nat} {a b c d f : Value} {t : TypeId} (h : w.heap[B]? = some (.cells #[a, b, c, d, f] t (0, 0))) :
    (w.cell? ⟨B, 0, none⟩ = some a ∧ w.cell? ⟨B, 1, none⟩ = some b ∧ w.cell? ⟨B, 2, none⟩ = some c ∧ w.cell? ⟨B, 3, none⟩ = some d ∧ w.cell? ⟨B, 4, none⟩ = some f) ∧ ∀ j, w.frozen? ⟨B, j, none⟩ = false := by
  refine ⟨⟨?_, ?_, ?_, ?_, ?_⟩, fun j => ?_⟩ <;> simp [World.cell?, World.frozen?, h]
theorem kvLaidOut : laidOutB Try.prog = true := by kernel_rfl
theorem kvRow : (70 : TypeId) < Try.prog.types.size := of_decide_eq_true (by kernel_rfl)
theorem kvLaw : WideMaps.KeyLaw Try.prog 70 := deep_law_laid kvLaidOut (m := 2) (by omega) kvRow (by kernel_rfl) (by rw [Try.underlying70])
theorem kvKeyed : Keyed Try.prog 70 := Keyed.of_law kvLaw
theorem kvArr : WideMaps.ArrKey Try.prog 70 3 5 := ⟨Try.underlying70, by kernel_rfl, by kernel_rfl, by kernel_rfl⟩
theorem intZeroK (w : World) : (zeroValue 3).run Try.prog w = .ok (.int .i64 0) w := by kernel_rfl
theorem kvTypesPos : ∃ m, Try.prog.types.size = m + 1 := by
  have h : 0 < Try.prog.types.size := Nat.lt_of_le_of_lt (Nat.zero_le _) kvRow
  generalize Try.prog.types.size = k at h
  exact ⟨k - 1, by omega⟩
def kvL (r : List Int) (k : Nat) : Lit := .string (keyBytes [.int .i64 (r.getD 0 0), .int .i64 (r.getD 1 0), .int .i64 (r.getD 2 0), .int .i64 (r.getD 3 0), .int .i64 (k : Int)])
/-- numbers that fit -/
def WfK (v : List Int) : Prop := ∀ j, j < 4 → (Lit.int .i64 (v.getD j 0)).wf = true
theorem wf_small {x : Int} (h : -1000000 ≤ x ∧ x ≤ 1000000) : (Lit.int .i64 x).wf = true := by
  simp [Lit.wf, IntKind.min, IntKind.max, IntKind.signed, IntKind.bits]; omega
theorem Sm12.wfK {n : Nat} {r : List Int} (h : Sm12 n r) : WfK r := fun j _ => by
  by_cases hj : j < n
  · exact wf_small (by have := h.2 j hj; omega)
  · have : r.getD j 0 = 0 := by simp [List.getD, List.getElem?_eq_none (show r.length ≤ j by rw [h.1]; omega)]
    rw [this]; exact wf_small (by omega)
theorem keyOf_kv {v : List Int} {k : Nat} (h : WfK v) (hk : k ≤ 1000) : keyOf Try.prog 70 (kvVal v k) = some (kvL v k) := by
  have hkt := kvArr.keyType kvTypesPos
  obtain ⟨m, hm⟩ := kvTypesPos
  have h0 := h 0 (by omega)
  have h1 := h 1 (by omega)
  have h2 := h 2 (by omega)
  have h3 := h 3 (by omega)
  have h4 : (Lit.int .i64 (k : Int)).wf = true := wf_small (by omega)
  unfold kvVal kvL
  generalize v.getD 0 0 = x0 at *
  generalize v.getD 1 0 = x1 at *
  generalize v.getD 2 0 = x2 at *
  generalize v.getD 3 0 = x3 at *
  generalize (k : Int) = x4 at *
  unfold keyOf
  simp only [kvArr.hu]
  rw [if_pos (by simp [hkt, Value.formed, kvArr.hu, kvArr.size]), hm]
  unfold Program.keyLits
  simp only [kvArr.hu, Value.cells]
  rw [if_pos (by rw [kvArr.size]; rfl), show List.range 5 = [0, 1, 2, 3, 4] from rfl, List.mapM_cons, List.mapM_cons, List.mapM_cons, List.mapM_cons, List.mapM_cons, List.mapM_nil]
  simp [kvArr.one, Program.keyLits, Try.underlying3, h0, h1, h2, h3, h4]
theorem kvVal_inj {n : Nat} {v u : List Int} {k l : Nat} (hv : Sm12 n v) (hu : Sm12 n u) (h4 : n ≤ 4) (h : kvVal v k = kvVal u l) : v = u ∧ k = l := by
  unfold kvVal at h
  simp at h
  obtain ⟨h0, h1, h2, h3, h5⟩ := h
  refine ⟨?_, by omega⟩
  apply List.ext_getElem (by rw [hv.1, hu.1])
  intro i hi hi'
  have hl1 := hv.1
  have : i = 0 ∨ i = 1 ∨ i = 2 ∨ i = 3 := by omega
  rcases this with rfl | rfl | rfl | rfl
  · simpa [List.getElem?_eq_getElem hi, List.getElem?_eq_getElem hi'] using h0
  · simpa [List.getElem?_eq_getElem hi, List.getElem?_eq_getElem hi'] using h1
  · simpa [List.getElem?_eq_getElem hi, List.getElem?_eq_getElem hi'] using h2
  · simpa [List.getElem?_eq_getElem hi, List.getElem?_eq_getElem hi'] using h3
theorem wLoop_wf {F : List Int → Int} {p : List Int} : ∀ (f : Nat) (x : List Int) (acc : Int), (Lit.int .i64 acc).wf = true → (Lit.int .i64 (wLoop F p f x acc)).wf = true
  | 0, _, _, h => h
  | f + 1, x, acc, h => by
    unfold wLoop
    split
    · exact h
    · exact wLoop_wf f _ _ (wrap64_wf _)
theorem ways_wf (ps : List (List Int)) (r : List Int) : (Lit.int .i64 (ways ps r)).wf = true := by
  cases ps with
  | nil => unfold ways; split <;> decide
  | cons p ps => exact wLoop_wf _ _ _ (by decide)
theorem kvL_inj {n : Nat} {v u : List Int} {k l : Nat} (hv : Sm12 n v) (hu : Sm12 n u) (h4 : n ≤ 4) (hk : k ≤ 1000) (hl : l ≤ 1000) (h : kvL v k = kvL u l) : v = u ∧ k = l :=
  kvVal_inj hv hu h4 (kvKeyed.inj (keyOf_kv hv.wfK hk) (by rw [h]; exact keyOf_kv hu.wfK hl))

/-- block b is a map that knows some counts, and all that it knows is right -/
def KnM (w : World) (b N n : Nat) (L : List (List Int)) : Prop :=
  ∃ D : DataW Unit, w.ownsMap Try.prog 70 (plainElem Try.prog 3) b N D ∧ IsMap D ∧ ∀ (v : List Int) (k : Nat), Sm12 n v → k ≤ 1000 → has D (kvL v k) = true → D.atKey (kvL v k) (.lit (.int .i64 0)) = .lit (.int .i64 (ways (L.drop k) v))
section
variable {w w' : World} {b N n : Nat} {L : List (List Int)}
theorem KnM.start (w : World) (n : Nat) (L : List (List Int)) : KnM (w.alloc (.map #[] 0)) w.heap.size 0 n L :=
  ⟨.map [], World.ownsMap_made _ _ _ _, ⟨[], rfl⟩, fun v k _ _ h => by simp [has] at h⟩
theorem KnM.lt (h : KnM w b N n L) : b < w.heap.size := by obtain ⟨D, h, -⟩ := h; exact h.lt
theorem KnM.same (h : KnM w b N n L) (hs : w'.heap[b]? = w.heap[b]?) : KnM w' b N n L := by
  obtain ⟨D, ⟨es, clock, hh, r⟩, h2⟩ := h
  exact ⟨D, ⟨es, clock, hs.trans hh, r⟩, h2⟩
theorem KnM.below {B : Nat} (h : KnM w b N n L) (hb : Below B w w') (hB : b < B) : KnM w' b N n L := h.same (hb.block b hB)
theorem KnM.still (h : KnM w b N n L) (hs : ∃ k, w' = w.drewN k) : KnM w' b N n L := by obtain ⟨k, rfl⟩ := hs; exact h
theorem KnM.block (h : KnM w b N n L) : ∃ es clock, w.heap[b]? = some (.map es clock) := by
  obtain ⟨D, ⟨es, clock, hh, r⟩, h2⟩ := h
  exact ⟨es, clock, hh⟩
theorem KnM.neOwn {g cap B : Nat} {xs : List Int} (h : KnM w b N n L) (ho : Own w B g cap xs) : b ≠ g := by
  rintro rfl
  obtain ⟨es, clock, hh⟩ := h.block
  obtain ⟨cur, h2, -⟩ := ho.toV.row
  rw [hh] at h2
  simp at h2
theorem KnM.neRows {g cap B : Nat} {rs : List RowRef} (h : KnM w b N n L) (ho : OwnRows w B g cap rs) : b ≠ g := by
  rintro rfl
  obtain ⟨es, clock, hh⟩ := h.block
  obtain ⟨cur, h2, -⟩ := ho.1.row
  rw [hh] at h2
  simp at h2
theorem KnM.rows {g cap B : Nat} {rs : List RowRef} (h : KnM w b N n L) (ho : OwnRows w B g cap rs) (hg : w.grownBy w' (some b)) : OwnRows w' B g cap rs :=
  ⟨ho.1.grown hg (fun e => h.neRows ho (Option.some.inj e).symm), fun r hr => (ho.2.1 r hr).grown hg (fun e => h.neOwn (ho.2.1 r hr) (Option.some.inj e).symm), ho.2.2⟩
/-- 'known[key] = sum' -/
theorem wpList_kn_put {ops : Array Oper} {rest : List Oper} {o : Oper} {a : Act} {Q : Exit → Act → World → Prop}
    (hg : o.guard = none) (x y z : Operand) (hop : o.op = Op.mapUpdate 53 x y z) (b N n : Nat) (L : List (List Int)) (v : List Int) (k : Nat) (hv : Sm12 n v) (h4 : n ≤ 4) (hk : k ≤ 1000)
    (hown : KnM w b N n L) (hN : N < 9000000000000000000) (hx : a.eval x = .map (some b)) (hy : a.eval y = kvVal v k) (hz : a.eval z = .int .i64 (ways (L.drop k) v)) (hwf : (Lit.int .i64 (ways (L.drop k) v)).wf = true)
    (hK : ∀ w', KnM w' b (N + 1) n L → w.grownBy w' (some b) → wpList Try.prog ops Q rest (a.put o.dst undef) w') :
    wpList Try.prog ops Q (o :: rest) a w := by
  obtain ⟨D, hD, hmap, hat⟩ := hown
  refine wpList_mapUpdate_own w hg x y z _ hop _ _ kvKeyed Try.underlying53 _ b N D hx hD (by unfold maxLen; omega) _ _ (kvL v k) hy hz (keyOf_kv hv.wfK hk) _ [] (plainElem_int (H := Unit) Try.underlying3 hwf) ?_
  intro w' hown' hgr
  refine hK w' ⟨_, hown', ?_, fun u l hu hl => ?_⟩ hgr
  · obtain ⟨es, rfl⟩ := hmap
    exact ⟨_, rfl⟩
  · by_cases e : u = v ∧ l = k
    · obtain ⟨rfl, rfl⟩ := e
      rw [Maps.atKey_put_same hmap (kvKeyed.key (keyOf_kv hu.wfK hl))]
      intro _
      rfl
    · have hne : kvL u l ≠ kvL v k := fun h => e (kvL_inj hu hv h4 hl hk h)
      rw [Maps.has_put_other hne, Maps.atKey_put_other hne]
      exact hat u l hu hl
/-- what the map says of a key -/
structure KnAns (L : List (List Int)) (k : Nat) (v : List Int) where
  z : Int
  r : Bool
  h : r = true → z = ways (L.drop k) v
/-- 'n, ok := known[key]' -/
theorem wpList_kn_look {ops : Array Oper} {rest : List Oper} {o : Oper} {a : Act} {Q : Exit → Act → World → Prop}
    (hg : o.guard = none) (x y : Operand) (hop : o.op = Op.lookup 53 x y true) (b N n : Nat) (L : List (List Int)) (v : List Int) (k : Nat) (hv : Sm12 n v) (hk : k ≤ 1000)
    (hown : KnM w b N n L) (hx : a.eval x = .map (some b)) (hy : a.eval y = kvVal v k)
    (hK : ∀ q : KnAns L k v, wpList Try.prog ops Q rest (a.put o.dst (.tuple #[.int .i64 q.z, .bool q.r])) w) :
    wpList Try.prog ops Q (o :: rest) a w := by
  obtain ⟨D, hD, -, hat⟩ := hown
  refine wpList_lookup_own_ok_int w hg x y _ hop _ _ .i64 kvKeyed Try.underlying53 Try.underlying3 (intZeroK w) b N D hx hD (kvVal v k) (kvL v k) hy (keyOf_kv hv.wfK hk) ?_
  intro z hz _
  refine hK ⟨z, _, fun h => ?_⟩
  have := hat v k hv hk h
  rw [hz] at this
  simpa using this
end
end Go.Proofs.Ytmjneokgnnbekaa
namespace Go.Proofs.Ytmjneokgnnbekaa
set_option maxRecDepth 100000
open Go.RowKit

def lenOfV : Value → Nat | .slice _ n _ => n | _ => 0
def nz (v : List Int) : Bool := v.all fun x => x != 0
/-- the normal form of what a vector tells, where it comes to an end within so many steps and meets no 0 -/
def normG (c : List (List Int)) : Nat → List Int → Option (List Int)
  | 0, v => if nz v && (firstNeg v).isNone then some [] else none
  | f + 1, v => if nz v then match firstNeg v with
      | none => some []
      | some i => (normG c f (refl c i v)).map fun l => (i : Int) :: l
    else none
theorem normG_none {c : List (List Int)} {f : Nat} {v rest : List Int} (h : normG c f v = some rest) (hf : firstNeg v = none) : rest = [] := by
  cases f with
  | zero => simp only [normG] at h; split at h <;> simp_all
  | succ f => simp only [normG, hf] at h; split at h <;> simp_all
theorem normG_some {c : List (List Int)} {f : Nat} {v rest : List Int} {i : Nat} (h : normG c f v = some rest) (hf : firstNeg v = some i) :
    ∃ f' rest', f = f' + 1 ∧ rest = (i : Int) :: rest' ∧ normG c f' (refl c i v) = some rest' := by
  cases f with
  | zero => simp only [normG, hf] at h; simp at h
  | succ f =>
    simp only [normG, hf] at h
    split at h
    · cases hr : normG c f (refl c i v) with
      | none => rw [hr] at h; simp at h
      | some l => rw [hr] at h; simp at h; exact ⟨f, l, rfl, h.symm, hr⟩
    · simp at h
theorem normG_nz {c : List (List Int)} {f : Nat} {v rest : List Int} (h : normG c f v = some rest) : ∀ j, j < v.length → v.getD j 0 ≠ 0 := by
  have hz : nz v = true := by
    cases f with
    | zero => simp only [normG] at h; split at h <;> simp_all
    | succ f => simp only [normG] at h; split at h <;> simp_all
  intro j hj
  have := List.all_eq_true.1 hz v[j] (List.getElem_mem hj)
  simpa [List.getD, hj] using this
theorem normG_len {c : List (List Int)} : ∀ {f : Nat} {v rest : List Int}, normG c f v = some rest → rest.length ≤ f := by
  intro f
  induction f with
  | zero => intro v rest h; simp only [normG] at h; split at h <;> simp_all
  | succ f ih =>
    intro v rest h
    cases hf : firstNeg v with
    | none => rw [normG_none h hf]; simp
    | some i =>
      obtain ⟨f', rest', e, rfl, h'⟩ := normG_some h hf
      have := ih (by rw [show f = f' by omega]; exact h')
      simp; omega
theorem normG_in {c : List (List Int)} : ∀ {f : Nat} {v rest : List Int}, normG c f v = some rest → ∀ k, k < rest.length → 0 ≤ rest.getD k 0 ∧ rest.getD k 0 < v.length := by
  intro f
  induction f with
  | zero => intro v rest h; simp only [normG] at h; split at h <;> simp_all
  | succ f ih =>
    intro v rest h
    cases hf : firstNeg v with
    | none => rw [normG_none h hf]; simp
    | some i =>
      obtain ⟨f', rest', e, rfl, h'⟩ := normG_some h hf
      intro k hk
      cases k with
      | zero => have := (firstNeg_lt hf).1; simp [List.getD]; omega
      | succ k =>
        have := ih (by rw [show f = f' by omega]; exact h') k (by simpa using hk)
        rw [refl_length] at this
        simpa [List.getD] using this

def onesL (n : Nat) : List Int := List.replicate n 1
end Go.Proofs.Ytmjneokgnnbekaa
namespace Go.Proofs.Ytmjneokgnnbekaa
set_option maxRecDepth 100000
open Go.RowKit

end Go.Proofs.Ytmjneokgnnbekaa

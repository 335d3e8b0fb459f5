/- Braid moves by the reference: contract. BraidAt by the program, ApplyBraids of both: contracts. -/
import Derived.Test.YtjhoimdfmcjkbaaG31
import Derived.Test.YtjhoimdfmcjkbaaG32
namespace Go.Proofs.Ytjhoimdfmcjkbaa
set_option maxRecDepth 100000
open Go.RowKit

def braidA (c : List (List Int)) (v : List Int) (a : Int) : Option (List Int) := if isWordB c v = true then braidM c v a else none
theorem braidA_word {c : List (List Int)} {v : List Int} {a : Int} (h : isWordB c v = true) : braidA c v a = braidM c v a := if_pos h
theorem braidA_not {c : List (List Int)} {v : List Int} {a : Int} (h : isWordB c v = false) : braidA c v a = none := if_neg (by rw [h]; decide)
theorem braidK_length {c : List (List Int)} {v y : List Int} {k : Nat} (h : braidK c v k = some y) : y.length = v.length := by
  unfold braidK at h
  dsimp only at h
  split at h
  · rename_i hc
    have e := Option.some.inj h
    rw [← e]
    simp only [List.length_append, List.length_take, List.length_drop, altL_length]
    omega
  · cases h
theorem braidA_length {c : List (List Int)} {v y : List Int} {a : Int} (h : braidA c v a = some y) : y.length = v.length := by
  unfold braidA at h
  split at h
  · unfold braidM at h
    split at h
    · exact braidK_length h
    · cases h
  · cases h

end Go.Proofs.Ytjhoimdfmcjkbaa
namespace Go.Proofs.Ytjhoimdfmcjkbaa
set_option maxRecDepth 100000
open Go.RowKit

/-- braid moves, one after the other -/
def applyA (c : List (List Int)) : List Int → List Int → Option (List Int)
  | v, [] => some v
  | v, a :: ps => match braidA c v a with
    | none => none
    | some y => applyA c y ps
def applyB (c : List (List Int)) (v ps : List Int) : Option (List Int) := if isWordB c v = true then applyA c v ps else none
theorem applyA_none {c : List (List Int)} {y ps : List Int} {k : Nat} (hk : k < ps.length) (h : braidA c y (ps.getD k 0) = none) : applyA c y (ps.drop k) = none := by
  rw [List.drop_eq_getElem_cons hk]
  have e : ps.getD k 0 = ps[k] := by simp [List.getD, hk]
  rw [e] at h
  simp only [applyA, h]
theorem applyA_some {c : List (List Int)} {y z ps : List Int} {k : Nat} (hk : k < ps.length) (h : braidA c y (ps.getD k 0) = some z) : applyA c y (ps.drop k) = applyA c z (ps.drop (k + 1)) := by
  rw [List.drop_eq_getElem_cons hk]
  have e : ps.getD k 0 = ps[k] := by simp [List.getD, hk]
  rw [e] at h
  simp only [applyA, h]
theorem applyA_end (c : List (List Int)) (y ps : List Int) : applyA c y (ps.drop ps.length) = some y := by rw [List.drop_length]; rfl
theorem applyB_true {c : List (List Int)} {v ps : List Int} (h : isWordB c v = true) : applyB c v ps = applyA c v ps := if_pos h
theorem applyB_false {c : List (List Int)} {v ps : List Int} (h : isWordB c v = false) : applyB c v ps = none := if_neg (by rw [h]; decide)

end Go.Proofs.Ytjhoimdfmcjkbaa

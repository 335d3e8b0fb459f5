/- Letters that show that an element is not below another one: plain law; the reference's: contract. -/
import Derived.Test.YtjhoimdfmcjkbaaG36
import Derived.Deep.RegionHeld3
import Derived.Deep.RegionWith
import Derived.Deep.Cut
import Derived.Deep.CutRange
import Derived.Test.YtjhoimdfmcjkbaaG02
namespace Go.Proofs.Ytjhoimdfmcjkbaa
set_option maxRecDepth 100000
open Go.RowKit Game

/-- a normal form of at most 15 letters -/
structure Nw (c : List (List Int)) (U : List Int) : Prop where
  lets : Lets c 15 U
  self : nfI c U = U
theorem nw_nf {c : List (List Int)} {v : List Int} (h : WordOk c v) : Nw c (nfI c v) :=
  ⟨(nfI_ok (h.lets.mono (by omega))).lets.mono h.few, nfI_self (h.lets.mono (by omega))⟩
theorem Nw.cons {c : List (List Int)} {U : List Int} (h : Nw c U) {i : Nat} (hi : i < c.length) : Lets c 16 ((i : Int) :: U) :=
  lets_of h.lets.isC (by have := h.lets.few; simp; omega) fun x hx => by
    rcases List.mem_cons.1 hx with g | g
    · subst g; omega
    · exact h.lets.mem x g
theorem Nw.down {c : List (List Int)} {U : List Int} (h : Nw c U) {i : Nat} (hi : i < c.length) (hneg : (imI c U).getD i 0 < 0) : Nw c (nfI c ((i : Int) :: U)) := by
  have h1 := nfI_down (h.lets.mono (by omega)) hi hneg
  rw [h.self] at h1
  have h2 := nfI_ok ((h.cons hi).mono (show 16 ≤ 30 by omega))
  have := h.lets.few
  exact ⟨⟨h2.lets.isC, by omega, h2.lets.inr⟩, nfI_self ((h.cons hi).mono (by omega))⟩
theorem Nw.img {c : List (List Int)} {U : List Int} (h : Nw c U) {i : Nat} (hi : i < c.length) : imI c (nfI c ((i : Int) :: U)) = refl c i (imI c U) := by
  rw [(nfI_ok ((h.cons hi).mono (show 16 ≤ 30 by omega))).img]; rfl
theorem Nw.ne {c : List (List Int)} {U : List Int} (h : Nw c U) {i : Nat} (hi : i < c.length) : (imI c U).getD i 0 ≠ 0 := imI_ne (h.lets.mono (by omega)) hi
/-- letter after letter -/
def nbGo (c : List (List Int)) : List Int → List Int → List Int → Option (List Int × List Int)
  | [], U, V => some (U, V)
  | s :: ps, U, V => if 0 ≤ s ∧ s < (c.length : Int) ∧ (imI c V).getD s.toNat 0 < 0 then nbGo c ps (if (imI c U).getD s.toNat 0 < 0 then nfI c (s :: U) else U) (nfI c (s :: V)) else none
def nbR (r : Option (List Int × List Int)) : Bool := match r with
  | none => false
  | some (U, V) => decide (V.length < U.length)
def notB (c : List (List Int)) (a b ps : List Int) : Bool := nbR (nbGo c ps (nfI c a) (nfI c b))
theorem nbGo_drop {c : List (List Int)} {ps U V : List Int} {k : Nat} (hk : k < ps.length) : nbGo c (ps.drop k) U V = if 0 ≤ ps.getD k 0 ∧ ps.getD k 0 < (c.length : Int) ∧ (imI c V).getD (ps.getD k 0).toNat 0 < 0 then nbGo c (ps.drop (k + 1)) (if (imI c U).getD (ps.getD k 0).toNat 0 < 0 then nfI c (ps.getD k 0 :: U) else U) (nfI c (ps.getD k 0 :: V)) else none := by
  have e : ps.getD k 0 = ps[k] := by simp [List.getD, hk]
  rw [List.drop_eq_getElem_cons hk, e]
  rfl
theorem nbGo_end (c : List (List Int)) (ps U V : List Int) : nbGo c (ps.drop ps.length) U V = some (U, V) := by rw [List.drop_length]; rfl

end Go.Proofs.Ytjhoimdfmcjkbaa

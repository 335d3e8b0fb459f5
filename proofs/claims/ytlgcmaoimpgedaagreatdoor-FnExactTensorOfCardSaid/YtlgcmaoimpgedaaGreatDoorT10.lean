/- Enum2 -/
import Derived.Test.YtlgcmaoimpgedaaGreatDoorT09
set_option maxRecDepth 100000
set_option linter.unusedSimpArgs false
namespace Go.Proofs.YtlgcmaoimpgedaaGreatDoor
open Go.Value renaming slice->qS
section
open Go.RowKit
theorem zvT{c:LL}(hC:IsC c)(hf:zaN c=true):zlp c=true:=zgB zlp zKl zGU zGV zGW hC hf
theorem ztE{c:LL}(hC:IsC c)(hf:zaN c=true):∃long opp,zJi c long opp/\long.length<=24:=by
 have h:=zvT hC hf;unfold zlp at h
 split at h
 ·simp at h
 ·rename_i long mr
  rw[Bool.and_eq_true] at h;have FY:long.length<=24:=by simpa using h.1
  replace h:=h.2
  rw[Bool.and_eq_true] at h;have h1:zct c long (zax c.length)=zdu c.length:=by simpa using h.1
  have h2:∀i,∃j,i<c.length->j<c.length/\zct c long (refl c i (zax c.length))=refl c j (zdu c.length):=by
   intro i;by_cases hi:i<c.length
   ·have h3:=List.all_eq_true.1 h.2 i (List.mem_range.2 hi);obtain⟨j,hj,he⟩:=List.any_eq_true.1 h3;exact⟨j,fun _=>⟨List.mem_range.1 hj,by simpa using he⟩⟩
   ·exact⟨0,fun h=>absurd h hi⟩
  exact⟨long,fun i=>(h2 i).choose,⟨mr,h1,fun i hi=>((h2 i).choose_spec hi).1,fun i hi=>((h2 i).choose_spec hi).2⟩,FY⟩
end
end Go.Proofs.YtlgcmaoimpgedaaGreatDoor

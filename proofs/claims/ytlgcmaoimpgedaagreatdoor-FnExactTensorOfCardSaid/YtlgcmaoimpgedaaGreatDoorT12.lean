/- WtK -/
import Derived.Test.YtlgcmaoimpgedaaGreatDoorT11
set_option maxRecDepth 100000
set_option linter.unusedSimpArgs false
namespace Go.Proofs.YtlgcmaoimpgedaaGreatDoor
open Go.Value renaming slice->qS
section
open Go.RowKit
def wtB(c:LL):Bool:=(zaq c).all fun r=>(wtR c r).all fun x=>decide (-3<=x)&&decide (x<=3)
theorem zLb:wtB [[2]]=true:=by kernel_rfl
theorem zLc:ziY wtB=true:=by kernel_rfl
theorem zLd:ziZ wtB=true:=by kernel_rfl
theorem zHc:zad wtB (0,0) (0,0)=true:=by kernel_rfl
theorem zHd:zad wtB (0,0) (-1,-1)=true:=by kernel_rfl
theorem zHe:zad wtB (0,0) (-1,-2)=true:=by kernel_rfl
theorem zHf:zad wtB (0,0) (-2,-1)=true:=by kernel_rfl
theorem zHg:zad wtB (0,0) (-1,-3)=true:=by kernel_rfl
theorem zHh:zad wtB (0,0) (-3,-1)=true:=by kernel_rfl
theorem zHi:zad wtB (-1,-1) (0,0)=true:=by kernel_rfl
theorem zHj:zad wtB (-1,-1) (-1,-1)=true:=by kernel_rfl
theorem zHk:zad wtB (-1,-1) (-1,-2)=true:=by kernel_rfl
theorem zHl:zad wtB (-1,-1) (-2,-1)=true:=by kernel_rfl
theorem zHm:zad wtB (-1,-1) (-1,-3)=true:=by kernel_rfl
theorem zHn:zad wtB (-1,-1) (-3,-1)=true:=by kernel_rfl
theorem zHo:zad wtB (-1,-2) (0,0)=true:=by kernel_rfl
theorem zHp:zad wtB (-1,-2) (-1,-1)=true:=by kernel_rfl
theorem zHq:zad wtB (-1,-2) (-1,-2)=true:=by kernel_rfl
theorem zHr:zad wtB (-1,-2) (-2,-1)=true:=by kernel_rfl
theorem zHs:zad wtB (-1,-2) (-1,-3)=true:=by kernel_rfl
theorem zHt:zad wtB (-1,-2) (-3,-1)=true:=by kernel_rfl
theorem zHu:zad wtB (-2,-1) (0,0)=true:=by kernel_rfl
theorem zHv:zad wtB (-2,-1) (-1,-1)=true:=by kernel_rfl
theorem zHw:zad wtB (-2,-1) (-1,-2)=true:=by kernel_rfl
theorem zHx:zad wtB (-2,-1) (-2,-1)=true:=by kernel_rfl
theorem zHy:zad wtB (-2,-1) (-1,-3)=true:=by kernel_rfl
theorem zHz:zad wtB (-2,-1) (-3,-1)=true:=by kernel_rfl
theorem zHA:zad wtB (-1,-3) (0,0)=true:=by kernel_rfl
theorem zHB:zad wtB (-1,-3) (-1,-1)=true:=by kernel_rfl
theorem zHC:zad wtB (-1,-3) (-1,-2)=true:=by kernel_rfl
theorem zHD:zad wtB (-1,-3) (-2,-1)=true:=by kernel_rfl
theorem zHE:zad wtB (-1,-3) (-1,-3)=true:=by kernel_rfl
theorem zHF:zad wtB (-1,-3) (-3,-1)=true:=by kernel_rfl
theorem zHG:zad wtB (-3,-1) (0,0)=true:=by kernel_rfl
theorem zHH:zad wtB (-3,-1) (-1,-1)=true:=by kernel_rfl
theorem zHI:zad wtB (-3,-1) (-1,-2)=true:=by kernel_rfl
theorem zHJ:zad wtB (-3,-1) (-2,-1)=true:=by kernel_rfl
theorem zHK:zad wtB (-3,-1) (-1,-3)=true:=by kernel_rfl
theorem zHL:zad wtB (-3,-1) (-3,-1)=true:=by kernel_rfl
theorem zLe:zip wtB=true:=by
 rw[zhy];simp only[L6,List.all_cons,List.all_nil,Bool.and_true,zHc,zHd,zHe,zHf,zHg,zHh,zHi,zHj,zHk,zHl,zHm,zHn,zHo,zHp,zHq,zHr,zHs,zHt,zHu,zHv,zHw,zHx,zHy,zHz,zHA,zHB,zHC,zHD,zHE,zHF,zHG,zHH,zHI,zHJ,zHK,zHL]
theorem zJn{c:LL}(hC:IsC c)(hf:zaN c=true):∀r∈zaq c,∀k,k<c.length→-3<=(wtR c r).getD k 0/\(wtR c r).getD k 0<=3:=by
 have h:wtB c=true:=zgB wtB zLb zLc zLd zLe hC hf;intro r hr k hk;have h1:=List.all_eq_true.1 h r hr;have hl:=zgT c r;generalize wtR c r=q at*;have ma:k<q.length:=by omega
 have h2:=List.all_eq_true.1 h1 _ (List.getElem_mem ma);rw[Bool.and_eq_true] at h2;simp only[List.getD,List.getElem?_eq_getElem ma,Option.getD_some];exact⟨of_decide_eq_true h2.1,of_decide_eq_true h2.2⟩
end
end Go.Proofs.YtlgcmaoimpgedaaGreatDoor

/- RowK -/
import Derived.Test.YtlgcmaoimpgedaaGreatDoorT20
set_option maxRecDepth 100000
set_option linter.unusedSimpArgs false
namespace Go.Proofs.YtlgcmaoimpgedaaGreatDoor
open Go.Value renaming slice->qS
section
open Go.RowKit
def zLi(B:LL)(D:Int):Bool:=B.all fun r=>decide (4*r.sum<=50*D)
def zbH(c:LL):Bool:=zLi (zdA c) (det c.length c)||decide (200<zcd (zdc c))
theorem zJB:zbH [[2]]=true:=by kernel_rfl
theorem zJC:ziY zbH=true:=by kernel_rfl
theorem zJD:ziZ zbH=true:=by kernel_rfl
theorem zAk:zad zbH (0,0) (0,0)=true:=by kernel_rfl
theorem zAl:zad zbH (0,0) (-1,-1)=true:=by kernel_rfl
theorem zAm:zad zbH (0,0) (-1,-2)=true:=by kernel_rfl
theorem zAn:zad zbH (0,0) (-2,-1)=true:=by kernel_rfl
theorem zAo:zad zbH (0,0) (-1,-3)=true:=by kernel_rfl
theorem zAp:zad zbH (0,0) (-3,-1)=true:=by kernel_rfl
theorem zAq:zad zbH (-1,-1) (0,0)=true:=by kernel_rfl
theorem zAr:zad zbH (-1,-1) (-1,-1)=true:=by kernel_rfl
theorem zAs:zad zbH (-1,-1) (-1,-2)=true:=by kernel_rfl
theorem zAt:zad zbH (-1,-1) (-2,-1)=true:=by kernel_rfl
theorem zAu:zad zbH (-1,-1) (-1,-3)=true:=by kernel_rfl
theorem zAv:zad zbH (-1,-1) (-3,-1)=true:=by kernel_rfl
theorem zAw:zad zbH (-1,-2) (0,0)=true:=by kernel_rfl
theorem zAx:zad zbH (-1,-2) (-1,-1)=true:=by kernel_rfl
theorem zAy:zad zbH (-1,-2) (-1,-2)=true:=by kernel_rfl
theorem zAz:zad zbH (-1,-2) (-2,-1)=true:=by kernel_rfl
theorem zAA:zad zbH (-1,-2) (-1,-3)=true:=by kernel_rfl
theorem zAB:zad zbH (-1,-2) (-3,-1)=true:=by kernel_rfl
theorem zAC:zad zbH (-2,-1) (0,0)=true:=by kernel_rfl
theorem zAD:zad zbH (-2,-1) (-1,-1)=true:=by kernel_rfl
theorem zAE:zad zbH (-2,-1) (-1,-2)=true:=by kernel_rfl
theorem zAF:zad zbH (-2,-1) (-2,-1)=true:=by kernel_rfl
theorem zAG:zad zbH (-2,-1) (-1,-3)=true:=by kernel_rfl
theorem zAH:zad zbH (-2,-1) (-3,-1)=true:=by kernel_rfl
theorem zAI:zad zbH (-1,-3) (0,0)=true:=by kernel_rfl
theorem zAJ:zad zbH (-1,-3) (-1,-1)=true:=by kernel_rfl
theorem zAK:zad zbH (-1,-3) (-1,-2)=true:=by kernel_rfl
theorem zAL:zad zbH (-1,-3) (-2,-1)=true:=by kernel_rfl
theorem zAM:zad zbH (-1,-3) (-1,-3)=true:=by kernel_rfl
theorem zAN:zad zbH (-1,-3) (-3,-1)=true:=by kernel_rfl
theorem zAO:zad zbH (-3,-1) (0,0)=true:=by kernel_rfl
theorem zAP:zad zbH (-3,-1) (-1,-1)=true:=by kernel_rfl
theorem zAQ:zad zbH (-3,-1) (-1,-2)=true:=by kernel_rfl
theorem zAR:zad zbH (-3,-1) (-2,-1)=true:=by kernel_rfl
theorem zAS:zad zbH (-3,-1) (-1,-3)=true:=by kernel_rfl
theorem zAT:zad zbH (-3,-1) (-3,-1)=true:=by kernel_rfl
theorem zJE:zip zbH=true:=by
 rw[zhy];simp only[L6,List.all_cons,List.all_nil,Bool.and_true,zAk,zAl,zAm,zAn,zAo,zAp,zAq,zAr,zAs,zAt,zAu,zAv,zAw,zAx,zAy,zAz,zAA,zAB,zAC,zAD,zAE,zAF,zAG,zAH,zAI,zAJ,zAK,zAL,zAM,zAN,zAO,zAP,zAQ,zAR,zAS,zAT]
theorem zIC{c:LL}(hC:IsC c)(hf:zaN c=true)(hs:szO c<=200):∀r∈zdA c,4*r.sum<=50*det c.length c:=by
 have h:zbH c=true:=zgB zbH zJB zJC zJD zJE hC hf;unfold zbH at h;have e:szO c=zcd (zdc c):=by unfold szO;rw[if_pos hf]
 have h2:decide (200<zcd (zdc c))=false:=decide_eq_false (by omega);rw[h2,Bool.or_false] at h;intro r hr;exact of_decide_eq_true (List.all_eq_true.1 h r hr)
end
end Go.Proofs.YtlgcmaoimpgedaaGreatDoor

/- PosEnum -/
import Derived.Test.YtlgcmaoimpgedaaGreatDoorT06
set_option maxRecDepth 100000
set_option linter.unusedSimpArgs false
namespace Go.Proofs.YtlgcmaoimpgedaaGreatDoor
open Go.Value renaming slice->qS
section
theorem zKz:zbh [[2]]=true:=by kernel_rfl
theorem zKA:ziY zbh=true:=by kernel_rfl
theorem zKB:ziZ zbh=true:=by kernel_rfl
theorem zEv:zad zbh (0,0) (0,0)=true:=by kernel_rfl
theorem zEw:zad zbh (0,0) (-1,-1)=true:=by kernel_rfl
theorem zEx:zad zbh (0,0) (-1,-2)=true:=by kernel_rfl
theorem zEy:zad zbh (0,0) (-2,-1)=true:=by kernel_rfl
theorem zEz:zad zbh (0,0) (-1,-3)=true:=by kernel_rfl
theorem zEA:zad zbh (0,0) (-3,-1)=true:=by kernel_rfl
theorem zEB:zad zbh (-1,-1) (0,0)=true:=by kernel_rfl
theorem zEC:zad zbh (-1,-1) (-1,-1)=true:=by kernel_rfl
theorem zED:zad zbh (-1,-1) (-1,-2)=true:=by kernel_rfl
theorem zEE:zad zbh (-1,-1) (-2,-1)=true:=by kernel_rfl
theorem zEF:zad zbh (-1,-1) (-1,-3)=true:=by kernel_rfl
theorem zEG:zad zbh (-1,-1) (-3,-1)=true:=by kernel_rfl
theorem zEH:zad zbh (-1,-2) (0,0)=true:=by kernel_rfl
theorem zEI:zad zbh (-1,-2) (-1,-1)=true:=by kernel_rfl
theorem zEJ:zad zbh (-1,-2) (-1,-2)=true:=by kernel_rfl
theorem zEK:zad zbh (-1,-2) (-2,-1)=true:=by kernel_rfl
theorem zEL:zad zbh (-1,-2) (-1,-3)=true:=by kernel_rfl
theorem zEM:zad zbh (-1,-2) (-3,-1)=true:=by kernel_rfl
theorem zEN:zad zbh (-2,-1) (0,0)=true:=by kernel_rfl
theorem zEO:zad zbh (-2,-1) (-1,-1)=true:=by kernel_rfl
theorem zEP:zad zbh (-2,-1) (-1,-2)=true:=by kernel_rfl
theorem zEQ:zad zbh (-2,-1) (-2,-1)=true:=by kernel_rfl
theorem zER:zad zbh (-2,-1) (-1,-3)=true:=by kernel_rfl
theorem zES:zad zbh (-2,-1) (-3,-1)=true:=by kernel_rfl
theorem zET:zad zbh (-1,-3) (0,0)=true:=by kernel_rfl
theorem zEU:zad zbh (-1,-3) (-1,-1)=true:=by kernel_rfl
theorem zEV:zad zbh (-1,-3) (-1,-2)=true:=by kernel_rfl
theorem zEW:zad zbh (-1,-3) (-2,-1)=true:=by kernel_rfl
theorem zEX:zad zbh (-1,-3) (-1,-3)=true:=by kernel_rfl
theorem zEY:zad zbh (-1,-3) (-3,-1)=true:=by kernel_rfl
theorem zEZ:zad zbh (-3,-1) (0,0)=true:=by kernel_rfl
theorem zFa:zad zbh (-3,-1) (-1,-1)=true:=by kernel_rfl
theorem zFb:zad zbh (-3,-1) (-1,-2)=true:=by kernel_rfl
theorem zFc:zad zbh (-3,-1) (-2,-1)=true:=by kernel_rfl
theorem zFd:zad zbh (-3,-1) (-1,-3)=true:=by kernel_rfl
theorem zFe:zad zbh (-3,-1) (-3,-1)=true:=by kernel_rfl
theorem zKC:zip zbh=true:=by
 rw[zhy];simp only[L6,List.all_cons,List.all_nil,Bool.and_true,zEv,zEw,zEx,zEy,zEz,zEA,zEB,zEC,zED,zEE,zEF,zEG,zEH,zEI,zEJ,zEK,zEL,zEM,zEN,zEO,zEP,zEQ,zER,zES,zET,zEU,zEV,zEW,zEX,zEY,zEZ,zFa,zFb,zFc,zFd,zFe]
theorem zIB{c:LL}(hC:IsC c)(hf:zaN c=true):zbh c=true:=zgB zbh zKz zKA zKB zKC hC hf
end
end Go.Proofs.YtlgcmaoimpgedaaGreatDoor

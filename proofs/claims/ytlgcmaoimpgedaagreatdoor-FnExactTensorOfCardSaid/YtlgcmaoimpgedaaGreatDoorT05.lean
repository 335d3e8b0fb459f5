/- TenK -/
import Derived.Test.YtlgcmaoimpgedaaGreatDoorT04
set_option maxRecDepth 100000
set_option linter.unusedSimpArgs false
namespace Go.Proofs.YtlgcmaoimpgedaaGreatDoor
open Go.Value renaming slice->qS
section
open Go.RowKit
theorem zJZ:zbM [[2]]=true:=by kernel_rfl
theorem zKa:ziY zbM=true:=by kernel_rfl
theorem zKb:ziZ zbM=true:=by kernel_rfl
theorem zBG:zad zbM (0,0) (0,0)=true:=by kernel_rfl
theorem zBH:zad zbM (0,0) (-1,-1)=true:=by kernel_rfl
theorem zBI:zad zbM (0,0) (-1,-2)=true:=by kernel_rfl
theorem zBJ:zad zbM (0,0) (-2,-1)=true:=by kernel_rfl
theorem zBK:zad zbM (0,0) (-1,-3)=true:=by kernel_rfl
theorem zBL:zad zbM (0,0) (-3,-1)=true:=by kernel_rfl
theorem zBM:zad zbM (-1,-1) (0,0)=true:=by kernel_rfl
theorem zBN:zad zbM (-1,-1) (-1,-1)=true:=by kernel_rfl
theorem zBO:zad zbM (-1,-1) (-1,-2)=true:=by kernel_rfl
theorem zBP:zad zbM (-1,-1) (-2,-1)=true:=by kernel_rfl
theorem zBQ:zad zbM (-1,-1) (-1,-3)=true:=by kernel_rfl
theorem zBR:zad zbM (-1,-1) (-3,-1)=true:=by kernel_rfl
theorem zBS:zad zbM (-1,-2) (0,0)=true:=by kernel_rfl
theorem zBT:zad zbM (-1,-2) (-1,-1)=true:=by kernel_rfl
theorem zBU:zad zbM (-1,-2) (-1,-2)=true:=by kernel_rfl
theorem zBV:zad zbM (-1,-2) (-2,-1)=true:=by kernel_rfl
theorem zBW:zad zbM (-1,-2) (-1,-3)=true:=by kernel_rfl
theorem zBX:zad zbM (-1,-2) (-3,-1)=true:=by kernel_rfl
theorem zBY:zad zbM (-2,-1) (0,0)=true:=by kernel_rfl
theorem zBZ:zad zbM (-2,-1) (-1,-1)=true:=by kernel_rfl
theorem zCa:zad zbM (-2,-1) (-1,-2)=true:=by kernel_rfl
theorem zCb:zad zbM (-2,-1) (-2,-1)=true:=by kernel_rfl
theorem zCc:zad zbM (-2,-1) (-1,-3)=true:=by kernel_rfl
theorem zCd:zad zbM (-2,-1) (-3,-1)=true:=by kernel_rfl
theorem zCe:zad zbM (-1,-3) (0,0)=true:=by kernel_rfl
theorem zCf:zad zbM (-1,-3) (-1,-1)=true:=by kernel_rfl
theorem zCg:zad zbM (-1,-3) (-1,-2)=true:=by kernel_rfl
theorem zCh:zad zbM (-1,-3) (-2,-1)=true:=by kernel_rfl
theorem zCi:zad zbM (-1,-3) (-1,-3)=true:=by kernel_rfl
theorem zCj:zad zbM (-1,-3) (-3,-1)=true:=by kernel_rfl
theorem zCk:zad zbM (-3,-1) (0,0)=true:=by kernel_rfl
theorem zCl:zad zbM (-3,-1) (-1,-1)=true:=by kernel_rfl
theorem zCm:zad zbM (-3,-1) (-1,-2)=true:=by kernel_rfl
theorem zCn:zad zbM (-3,-1) (-2,-1)=true:=by kernel_rfl
theorem zCo:zad zbM (-3,-1) (-1,-3)=true:=by kernel_rfl
theorem zCp:zad zbM (-3,-1) (-3,-1)=true:=by kernel_rfl
theorem zKc:zip zbM=true:=by
 rw[zhy];simp only[L6,List.all_cons,List.all_nil,Bool.and_true,zBG,zBH,zBI,zBJ,zBK,zBL,zBM,zBN,zBO,zBP,zBQ,zBR,zBS,zBT,zBU,zBV,zBW,zBX,zBY,zBZ,zCa,zCb,zCc,zCd,zCe,zCf,zCg,zCh,zCi,zCj,zCk,zCl,zCm,zCn,zCo,zCp]
theorem zGN{c:LL}(hC:IsC c)(hf:zaN c=true):zbM c=true:=zgB zbM zJZ zKa zKb zKc hC hf
end
end Go.Proofs.YtlgcmaoimpgedaaGreatDoor

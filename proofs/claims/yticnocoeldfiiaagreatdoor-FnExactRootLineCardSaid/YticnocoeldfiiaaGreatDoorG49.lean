/- Lists of strings by their bytes; strings.Join with a blank; line: contracts. -/
import Derived.Test.YticnocoeldfiiaaGreatDoorG48
namespace Go.Proofs.YticnocoeldfiiaaGreatDoor
open Go.RowKit
open Go.Lib (join decDigits itoa)

def strs (L : List (List UInt8)) : List ByteArray := L.map fun l => ⟨l.toArray⟩
theorem strs_data (L : List (List UInt8)) : (strs L).map (·.data.toList) = L := by
  unfold strs
  rw [List.map_map]
  have : ((fun x : ByteArray => x.data.toList) ∘ fun l : List UInt8 => ⟨l.toArray⟩) = id := by funext l; simp
  rw [this, List.map_id]
theorem joinS {w : World} {B g c n : Nat} {L : List (List UInt8)} (ho : OwnStrs w B g c (strs L)) (hn : L.length = n) (hN : n ≤ 1048576) (hl : (join L [32]).length ≤ 140737488355328) :
    Calls Tryz.prog 52 #[(Value.slice (some ⟨g, 0, none⟩) n c), .string ⟨#[32]⟩] w (Gives w (.string ⟨(join L [32]).toArray⟩)) := by
  subst hn
  have e44 : (⟨#[32]⟩ : ByteArray).data.toList = [32] := rfl
  have hsl : (strs L).length = L.length := by simp [strs]
  have hj := Any.strings_Join Tryz.lays156 Tryz.Builder_Extra_156 g 0 c (strs L) ⟨#[32]⟩ w ho.cell (OwnK.lt ho) (by omega) ho.capLe (by rw [strs_data, e44]; exact hl)
  change Calls Tryz.prog 52 _ _ _ at hj
  rw [strs_data, e44, hsl] at hj
  exact hj
theorem step_append_strs {ops : Array Oper} {o : Oper} {a : Act} {K : Act → World → Prop} {Q : Exit → Act → World → Prop} {E : Prop} (hgd : o.guard = none) (s x : Operand)
    (ho : o.op = .call { callee := .builtin .append, args := #[s, x], argTypes := #[45, 45] })
    (B B2 g cap n g2 c2 k : Nat) (xs ys : List ByteArray) (W : World) (hn : xs.length = n) (hk : ys.length = k) (hown : OwnStrs W B g cap xs) (hnew : OwnStrs W B2 g2 c2 ys) (hs : a.eval s = (Value.slice (some ⟨g, 0, none⟩) n cap)) (hx : a.eval x = (Value.slice (some ⟨g2, 0, none⟩) k c2)) (hlen : n + k ≤ 1048576)
    (h : ∀ g' cap' w', OwnStrs w' B g' cap' (xs ++ ys) → W.grownBy w' (some g) → (g' = g ∨ g' = W.heap.size) → K (a.put o.dst (Value.slice (some ⟨g', 0, none⟩) (n + k) cap')) w') :
    if Region.wanted o (yielded ops a.tmps) = true then Oper.wp Tryz.prog o a W K Q else E := by
  subst hn; subst hk
  have hw : Region.wanted o (yielded ops a.tmps) = true := by simp [Region.wanted, hgd]
  rw [if_pos hw]
  obtain ⟨g', cap', w', hr, h1, h2, h3⟩ := run_append_K infoStr Tryz.underlying45 rfl (by decide) (by decide) hown g2 0 ys.length c2 (ys.map Value.string) (by simp) (fun j u hu => by
    have hj : j < ys.length := by have := (List.getElem?_eq_some_iff.1 hu).1; simpa using this
    have h := hnew.cell j ys[j] (by simp [hj])
    rw [h, ← hu]
    simp [hj]) (fun u hu => by obtain ⟨b, -, rfl⟩ := List.mem_map.1 hu; rfl) hlen o.type
  unfold Oper.wp execOp
  simp only [ho, resolve, invoke, builtin, Sem.run_bind, Sem.run_pure, Result.andThen_ok, List.map_toArray, List.map_cons, List.map_nil, hs, hx, hr]
  refine h g' cap' w' ?_ h2 h3
  unfold OwnStrs
  rw [List.map_append, List.length_append]
  exact h1
theorem OwnStrs.two {w w1 w2 : World} {B g cap : Nat} {xs : List ByteArray} (h : OwnStrs w B g cap xs) (h1 : Below w.heap.size w w1) (h2 : Below w1.heap.size w1 w2) : OwnStrs w2 B g cap xs := by
  have a : OwnStrs w1 B g cap xs := OwnK.below h h1 (OwnK.lt h)
  exact OwnK.below a h2 (OwnK.lt a)
theorem OwnStrs.over {w : World} {B g cap : Nat} {xs : List ByteArray} (h : OwnStrs w B g cap xs) (o : Obj) : OwnStrs (w.alloc o) B g cap xs := OwnK.alloc h o
theorem own_three (w : World) (B : Nat) (a b c : List UInt8) (hB : B ≤ w.heap.size) : OwnStrs (w.alloc (.cells #[.string ⟨a.toArray⟩, .string ⟨b.toArray⟩, .string ⟨c.toArray⟩] 9)) B w.heap.size 3 (strs [a, b, c]) :=
  World.ownsRow_lit w #[.string ⟨a.toArray⟩, .string ⟨b.toArray⟩, .string ⟨c.toArray⟩] 3 hB (by decide) rfl
theorem impl_line_any {w : World} {B g c n : Nat} {L : List (List UInt8)} (ho : OwnStrs w B g c (strs L)) (hn : L.length = n) (hN : n ≤ 1048576) (hl : (join L [32]).length ≤ 140737488355328) :
    Calls Tryz.prog 20 #[(Value.slice (some ⟨g, 0, none⟩) n c)] w (Gives w (.string ⟨(join L [32]).toArray⟩)) := by
  have hcall := joinS ho hn hN hl
  have Hcall := Lib.hid hcall
  clear hcall hl ho
  generalize (⟨(join L [32]).toArray⟩ : ByteArray) = s at *
  go_enter Tryz.func20, Tryz.ntmps20
  go_wp2_with fail
  refine Hcall.out.mono ?_
  rintro e w1 ⟨rfl, hb1⟩
  go_wp2_with fail
  go_ret
  exact ⟨rfl, hb1⟩
end Go.Proofs.YticnocoeldfiiaaGreatDoor

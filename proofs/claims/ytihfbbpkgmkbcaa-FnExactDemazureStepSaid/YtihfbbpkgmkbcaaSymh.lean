/- symMerge over a list of weights: contract. -/
import Derived.Test.YtihfbbpkgmkbcaaStn
import Derived.Deep.CutRange
namespace Go.Proofs.Ytihfbbpkgmkbcaa
set_option maxRecDepth 100000
open Go.RowKit Game Stb
open Go.Sort (grow SWO)

/-- two elements in the class of worlds behind W, as the walk wants them -/
theorem SSt.two {w W : World} {B G cap N : Nat} {d : Nat → SRef} (h : SSt w W B G cap N d) {i j : Nat} (hi : i < N) (hj : j < N) : ∃ x y : SRef, Hid (d i = x) ∧ Hid (d j = y) ∧
    (∀ n os, (grow (W.drewN n) os).cell? ⟨G, i * 2, none⟩ = some (Value.slice (some ⟨x.g, x.o, none⟩) x.n x.c)) ∧ (∀ n os, (grow (W.drewN n) os).cell? ⟨G, i * 2 + 1, none⟩ = some (.int .i64 x.ct)) ∧
    (∀ n os, (grow (W.drewN n) os).cell? ⟨G, j * 2, none⟩ = some (Value.slice (some ⟨y.g, y.o, none⟩) y.n y.c)) ∧ (∀ n os, (grow (W.drewN n) os).cell? ⟨G, j * 2 + 1, none⟩ = some (.int .i64 y.ct)) ∧
    (∀ n os, Calls Try.prog 52 #[.agg #[(Value.slice (some ⟨x.g, x.o, none⟩) x.n x.c), .int .i64 x.ct], .agg #[(Value.slice (some ⟨y.g, y.o, none⟩) y.n y.c), .int .i64 y.ct]] (grow (W.drewN n) os) fun e w' => e = .returned (.int .i64 (cfW (d i) (d j))) ∧ ∃ q os', w' = grow ((grow (W.drewN n) os).drewN q) os') :=
  ⟨d i, d j, rfl, rfl, fun n os => (h.cellsC hi n os).1, fun n os => (h.cellsC hi n os).2, fun n os => (h.cellsC hj n os).1, fun n os => (h.cellsC hj n os).2, h.cmpC hi hj⟩
/-- an exchange of two, as the walk wants it -/
theorem SSt.exch {w W : World} {B G cap N : Nat} {d : Nat → SRef} (h : SSt w W B G cap N d) {i j : Nat} (hi : i < N) (hj : j < N) (hne : i ≠ j) : ∃ x y : SRef,
    W.cell? ⟨G, i * 2, none⟩ = some (Value.slice (some ⟨x.g, x.o, none⟩) x.n x.c) ∧ W.cell? ⟨G, i * 2 + 1, none⟩ = some (.int .i64 x.ct) ∧ W.cell? ⟨G, j * 2, none⟩ = some (Value.slice (some ⟨y.g, y.o, none⟩) y.n y.c) ∧ W.cell? ⟨G, j * 2 + 1, none⟩ = some (.int .i64 y.ct) ∧
    W.frozen? ⟨G, i * 2, none⟩ = false ∧ W.frozen? ⟨G, i * 2 + 1, none⟩ = false ∧
    ((W.setCell ⟨G, i * 2, none⟩ (Value.slice (some ⟨y.g, y.o, none⟩) y.n y.c)).setCell ⟨G, i * 2 + 1, none⟩ (.int .i64 y.ct)).frozen? ⟨G, j * 2, none⟩ = false ∧ ((W.setCell ⟨G, i * 2, none⟩ (Value.slice (some ⟨y.g, y.o, none⟩) y.n y.c)).setCell ⟨G, i * 2 + 1, none⟩ (.int .i64 y.ct)).frozen? ⟨G, j * 2 + 1, none⟩ = false ∧
    ((W.setCell ⟨G, i * 2, none⟩ (Value.slice (some ⟨y.g, y.o, none⟩) y.n y.c)).setCell ⟨G, i * 2 + 1, none⟩ (.int .i64 y.ct)).cell? ⟨G, j * 2, none⟩ = some (Value.slice (some ⟨y.g, y.o, none⟩) y.n y.c) ∧ ((W.setCell ⟨G, i * 2, none⟩ (Value.slice (some ⟨y.g, y.o, none⟩) y.n y.c)).setCell ⟨G, i * 2 + 1, none⟩ (.int .i64 y.ct)).cell? ⟨G, j * 2 + 1, none⟩ = some (.int .i64 y.ct) ∧
    Hid (SSt w (((((W.setCell ⟨G, i * 2, none⟩ (Value.slice (some ⟨y.g, y.o, none⟩) y.n y.c)).setCell ⟨G, i * 2 + 1, none⟩ (.int .i64 y.ct)).setCell ⟨G, j * 2, none⟩ (Value.slice (some ⟨x.g, x.o, none⟩) x.n x.c)).setCell ⟨G, j * 2 + 1, none⟩ (.int .i64 x.ct)).drew) B G cap N (swp d i j)) := by
  obtain ⟨f1, f2, k3, k4⟩ := h.swapF hi hj hne (d j)
  obtain ⟨c1, c2⟩ := h.cells hi
  obtain ⟨c3, c4⟩ := h.cells hj
  exact ⟨d i, d j, c1, c2, c3, c4, f1 _, f1 _, f2 _, f2 _, k3, k4, (h.swap hi hj).drew⟩

end Go.Proofs.Ytihfbbpkgmkbcaa

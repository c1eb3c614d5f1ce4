/- A core that is nil: what its methods tell. -/
import Derived.Test.YtglliendhbkkhaaGreatDoorSt1
import Derived.Test.YtglliendhbkkhaaGreatDoorEcs1
namespace Go.Proofs.YtglliendhbkkhaaGreatDoor
open Go.RowKit
set_option maxRecDepth 100000
set_option linter.unusedVariables false
set_option linter.unusedSimpArgs false

theorem under_stE : Tryz.prog.underlying 28 = some (.struct (Tryz.prog.fieldsOf 28)) := by kernel_rfl
theorem size_stE : (Tryz.prog.info? 28).map (·.size) = some 3 := by kernel_rfl
theorem results_stE {fn : Func} {p : Tmp} (h : fn.results = #[.cell p 28]) (tmps : Array Value) (w : World) (g : Nat) (c0 c1 c2 : Value)
    (hp : tmps.getD p undef = .pointer (some ⟨g, 0, none⟩)) (hg : w.heap[g]? = some (.cells #[c0, c1, c2] 28 (0, 0))) : (results fn tmps).run Tryz.prog w = .ok (.agg #[c0, c1, c2]) w :=
  results_cell_row h tmps w g 28 _ (0, 0) _ hp hg under_stE rfl size_stE
theorem heap_3J {w : World} {p : Nat} {t : TypeId} {a b c : Value} (h : w.heap[p]? = some (.cells #[a, b, c] t (0, 0))) (x y z : Value) : (((w.setCell ⟨p, 0, none⟩ x).setCell ⟨p, 1, none⟩ y).setCell ⟨p, 2, none⟩ z).heap[p]? = some (.cells #[x, y, z] t (0, 0)) := by
  rw [heap_setCell_same _ p 2 _ _ z (heap_setCell_same _ p 1 _ _ y (heap_setCell_same w p 0 _ _ x h))]; rfl
end Go.Proofs.YtglliendhbkkhaaGreatDoor

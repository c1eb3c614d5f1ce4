/- A core that is nil: what its methods tell. -/
import Derived.Test.YtdeifjnhbdkkgaaGreatDoorSt1
import Derived.Test.YtdeifjnhbdkkgaaGreatDoorEcs1
namespace Go.Proofs.YtdeifjnhbdkkgaaGreatDoor
open Go.RowKit
set_option maxRecDepth 100000
set_option linter.unusedVariables false
set_option linter.unusedSimpArgs false

theorem under_stE : Tryz.prog.underlying 53 = some (.struct (Tryz.prog.fieldsOf 53)) := by kernel_rfl
theorem size_stE : (Tryz.prog.info? 53).map (·.size) = some 3 := by kernel_rfl
theorem results_stE {fn : Func} {p : Tmp} (h : fn.results = #[.cell p 53]) (tmps : Array Value) (w : World) (g : Nat) (c0 c1 c2 : Value)
    (hp : tmps.getD p undef = .pointer (some ⟨g, 0, none⟩)) (hg : w.heap[g]? = some (.cells #[c0, c1, c2] 53 (0, 0))) : (results fn tmps).run Tryz.prog w = .ok (.agg #[c0, c1, c2]) w :=
  results_cell_row h tmps w g 53 _ (0, 0) _ hp hg under_stE rfl size_stE
theorem heap_3J {w : World} {p : Nat} {t : TypeId} {a b c : Value} (h : w.heap[p]? = some (.cells #[a, b, c] t (0, 0))) (x y z : Value) : (((w.setCell ⟨p, 0, none⟩ x).setCell ⟨p, 1, none⟩ y).setCell ⟨p, 2, none⟩ z).heap[p]? = some (.cells #[x, y, z] t (0, 0)) := by
  rw [heap_setCell_same _ p 2 _ _ z (heap_setCell_same _ p 1 _ _ y (heap_setCell_same w p 0 _ _ x h))]; rfl
theorem heap_5J {w : World} {p : Nat} {t : TypeId} {a b c d e : Value} (h : w.heap[p]? = some (.cells #[a, b, c, d, e] t (0, 0))) (x y z u v : Value) : (((((w.setCell ⟨p, 0, none⟩ x).setCell ⟨p, 1, none⟩ y).setCell ⟨p, 2, none⟩ z).setCell ⟨p, 3, none⟩ u).setCell ⟨p, 4, none⟩ v).heap[p]? = some (.cells #[x, y, z, u, v] t (0, 0)) := by
  rw [heap_setCell_same _ p 4 _ _ v (heap_setCell_same _ p 3 _ _ u (heap_setCell_same _ p 2 _ _ z (heap_setCell_same _ p 1 _ _ y (heap_setCell_same w p 0 _ _ x h))))]; rfl
theorem nilE_query (w : World) (x y : Int) : Calls Tryz.prog 40 #[.pointer none, .int .u64 x, .int .u64 y] w fun e w' => e = .returned (.slice none 0 0) ∧ w = w' := by
  go_enter Tryz.func40, Tryz.ntmps40
  go_wp2
  go_ret
  exact ⟨rfl, rfl⟩
theorem nilE_rows (w : World) : Calls Tryz.prog 27 #[.pointer none] w fun e w' => e = .returned (.slice none 0 0) ∧ w = w' := by
  go_enter Tryz.func27, Tryz.ntmps27
  go_wp2
  go_ret
  exact ⟨rfl, rfl⟩
theorem nilE_state (w : World) : Calls Tryz.prog 23 #[.pointer none] w fun e w' => e = .returned (.agg #[.slice none 0 0, .slice none 0 0, .slice none 0 0]) ∧ Keep (fun _ => False) w w' := by
  go_enter Tryz.func23, Tryz.ntmps23
  go_wp2
  (try simp only [Exit.inBlock, Exit.then])
  refine bodyPost_ret (results_stE Tryz.results23 _ _ w.heap.size _ _ _ (by rfl) (heap_alloc_new w _)) rfl ⟨rfl, by exact (by repeat first | (with_reducible assumption) | (with_reducible exact Keep.refl _ _) | (with_reducible refine Keep.alloc ?_ _) | (with_reducible refine Keep.drew ?_) | (with_reducible refine Keep.drewN ?_ _) | (with_reducible refine Keep.setCell ?_ (.inl (by first | omega | (simp; done) | (simp; omega) | fail)) _))⟩
theorem nilE_conf (w : World) : Calls Tryz.prog 25 #[.pointer none] w fun e w' => e = .returned (.agg #[.int .i64 0, .int .i64 0, .int .i64 0, .int .i64 0, .slice none 0 0]) ∧ Keep (fun _ => False) w w' := by
  go_enter Tryz.func25, Tryz.ntmps25
  go_wp2
  (try simp only [Exit.inBlock, Exit.then])
  refine bodyPost_ret (results_confE Tryz.results25 _ _ w.heap.size _ _ _ _ _ (by rfl) (heap_alloc_new w _)) rfl ⟨rfl, by exact (by repeat first | (with_reducible assumption) | (with_reducible exact Keep.refl _ _) | (with_reducible refine Keep.alloc ?_ _) | (with_reducible refine Keep.drew ?_) | (with_reducible refine Keep.drewN ?_ _) | (with_reducible refine Keep.setCell ?_ (.inl (by first | omega | (simp; done) | (simp; omega) | fail)) _))⟩
end Go.Proofs.YtdeifjnhbdkkgaaGreatDoor

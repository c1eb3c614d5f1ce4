/- Contracts of ecs.Count, Conf, Get, Remove. -/
import Derived.Test.YtdeifjnhbdkkgaaGreatDoorEcs7
namespace Go.Proofs.YtdeifjnhbdkkgaaGreatDoor
open Go.RowKit
set_option maxRecDepth 100000
set_option linter.unusedVariables false
set_option linter.unusedSimpArgs false

section
variable {w : World} {c : Cf} {xp q : Nat} {B : CoB} {a : Co}
theorem heap_5K {w : World} {p : Nat} {t : TypeId} {a b c d e : Value} (h : w.heap[p]? = some (.cells #[a, b, c, d, e] t (0, 0))) (x y z u v : Value) : (((((w.setCell ⟨p, 0, none⟩ x).setCell ⟨p, 1, none⟩ y).setCell ⟨p, 2, none⟩ z).setCell ⟨p, 3, none⟩ u).setCell ⟨p, 4, none⟩ v).heap[p]? = some (.cells #[x, y, z, u, v] t (0, 0)) := by
  rw [heap_setCell_same _ p 4 _ _ v (heap_setCell_same _ p 3 _ _ u (heap_setCell_same _ p 2 _ _ z (heap_setCell_same _ p 1 _ _ y (heap_setCell_same w p 0 _ _ x h))))]; rfl
theorem e_conf (h : CoM w c xp B q a) (hl : c.l.length ≤ 1000) : Calls Tryz.prog 25 #[.pointer (some ⟨xp, 0, none⟩)] w fun e w' => ∃ u', e = .returned (confV c u') ∧ CL w' (fun k => w.heap.size ≤ k) u' c.l ∧ Keep (fun _ => False) w w' := by
  have OW := Lib.hid (fun X (hk : Keep (fun _ => False) w X) => e_own X c B.uC B.CF (h.comps.same hk) (by omega))
  have K0 := Lib.hid ((Keep.refl (fun _ => False) w).alloc (.cells #[.int .i64 0, .int .i64 0, .int .i64 0, .int .i64 0, .slice none 0 0] 42 (0, 0)))
  obtain ⟨tt, -⟩ := cells_of_row' h.box
  have c0 : (w.alloc (.cells #[.int .i64 0, .int .i64 0, .int .i64 0, .int .i64 0, .slice none 0 0] 42 (0, 0))).cell? ⟨xp, 0, none⟩ = some (.int .i64 c.log) := K0.out.cell (fun h => h) (tt 0 _ rfl)
  have c1 : (w.alloc (.cells #[.int .i64 0, .int .i64 0, .int .i64 0, .int .i64 0, .slice none 0 0] 42 (0, 0))).cell? ⟨xp, 1, none⟩ = some (.int .i64 c.pages) := K0.out.cell (fun h => h) (tt 1 _ rfl)
  have c2 : (w.alloc (.cells #[.int .i64 0, .int .i64 0, .int .i64 0, .int .i64 0, .slice none 0 0] 42 (0, 0))).cell? ⟨xp, 2, none⟩ = some (.int .i64 c.ents) := K0.out.cell (fun h => h) (tt 2 _ rfl)
  have c3 : (w.alloc (.cells #[.int .i64 0, .int .i64 0, .int .i64 0, .int .i64 0, .slice none 0 0] 42 (0, 0))).cell? ⟨xp, 3, none⟩ = some (.int .i64 c.gens) := K0.out.cell (fun h => h) (tt 3 _ rfl)
  have c4 : (w.alloc (.cells #[.int .i64 0, .int .i64 0, .int .i64 0, .int .i64 0, .slice none 0 0] 42 (0, 0))).cell? ⟨xp, 4, none⟩ = some B.uC := K0.out.cell (fun h => h) (tt 4 _ rfl)
  have HB := Lib.hid (heap_alloc_new w (.cells #[.int .i64 0, .int .i64 0, .int .i64 0, .int .i64 0, .slice none 0 0] 42 (0, 0)))
  clear h tt
  unfold confV at *
  generalize B.uC = u at *
  go_enter Tryz.func25, Tryz.ntmps25
  go_wp2_with fail
  with_reducible refine (OW.out _ (by exact (by repeat first | (with_reducible assumption) | (with_reducible exact Keep.refl _ _) | (with_reducible refine Keep.alloc ?_ _) | (with_reducible refine Keep.drew ?_) | (with_reducible refine Keep.drewN ?_ _) | (with_reducible refine Keep.setCell ?_ (.inl (by first | omega | (simp; done) | (simp; omega) | fail)) _)))).mono ?_
  rintro e w1 ⟨u', rfl, hu, hb⟩
  have K1 := Lib.hid (show Keep (fun _ => False) w w1 ∧ w1.heap[w.heap.size]? = some (.cells #[.int .i64 0, .int .i64 0, .int .i64 0, .int .i64 0, .slice none 0 0] 42 (0, 0)) from ⟨K0.out.trans (Keep.of_below' hb) (fun _ _ h => h), (hb.block w.heap.size (by simp)).trans HB.out⟩)
  have HU := Lib.hid (show CL w1 (fun k => w.heap.size < k) u' c.l from CL.of_sl ((CL.sl hu).mono (G := fun k => w.heap.size < k) (fun b hb h => by have := h.1; simp at this; omega)))
  clear hu hb
  obtain ⟨Au, cu, rfl, -⟩ := HU.out
  obtain ⟨y0, y1, y2, y3, y4, yf⟩ := cells5 K1.out.2
  go_wp2
  have kX : Keep (fun b => b = w.heap.size) w1 (((((w1.setCell ⟨w.heap.size, 0, none⟩ (.int .i64 c.log)).setCell ⟨w.heap.size, 1, none⟩ (.int .i64 c.pages)).setCell ⟨w.heap.size, 2, none⟩ (.int .i64 c.ents)).setCell ⟨w.heap.size, 3, none⟩ (.int .i64 c.gens)).setCell ⟨w.heap.size, 4, none⟩ (.slice Au c.l.length cu)) :=
    (((((Keep.refl (fun b => b = w.heap.size) w1).setCell (p := ⟨w.heap.size, 0, none⟩) (.inr rfl) _).setCell (p := ⟨w.heap.size, 1, none⟩) (.inr rfl) _).setCell (p := ⟨w.heap.size, 2, none⟩) (.inr rfl) _).setCell (p := ⟨w.heap.size, 3, none⟩) (.inr rfl) _).setCell (p := ⟨w.heap.size, 4, none⟩) (.inr rfl) _
  refine bodyPost_ret (results_confE Tryz.results25 _ _ w.heap.size (.int .i64 c.log) (.int .i64 c.pages) (.int .i64 c.ents) (.int .i64 c.gens) (.slice Au c.l.length cu) ?_ ?_) ?_ ⟨.slice Au c.l.length cu, ?_, ?_, ?_⟩
  · rfl
  · exact heap_5K K1.out.2 _ _ _ _ _
  · rfl
  · rfl
  · exact CL.of_sl (((CL.sl HU.out).keep kX (fun b _ h e => by omega)).mono (G := fun k => w.heap.size ≤ k) (fun b _ h => by omega))
  · exact K1.out.1.trans kX (fun b hb h => by omega)
end
end Go.Proofs.YtdeifjnhbdkkgaaGreatDoor

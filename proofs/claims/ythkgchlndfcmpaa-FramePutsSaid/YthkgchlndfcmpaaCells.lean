/- Blocks of n cells: known whole, read, written. No program in sight. Printed by gencells.py. -/
import Derived.Test.YthkgchlndfcmpaaBase
namespace Go.Proofs.Ythkgchlndfcmpaa
open Go.RowKit
set_option maxRecDepth 100000

theorem cells1 {w : World} {p : Nat} {t : TypeId} {c0 : Value} (h : w.heap[p]? = some (.cells #[c0] t (0, 0))) :
    w.cell? ⟨p, 0, none⟩ = some c0 ∧ ∀ i, w.frozen? ⟨p, i, none⟩ = false :=
  ⟨by rw [cell_of_row w p 0 _ _ _ h]; rfl, fun i => frozen_of_row w p i _ _ h⟩
theorem stored1 {w : World} {p : Nat} {t : TypeId} {c0 : Value} (h : w.heap[p]? = some (.cells #[c0] t (0, 0))) (v0 : Value) :
    (w.setCell ⟨p, 0, none⟩ v0).heap[p]? = some (.cells #[v0] t (0, 0)) := by
  have h0 := h
  have h1 : (w.setCell ⟨p, 0, none⟩ v0).heap[p]? = some (.cells #[v0] t (0, 0)) := by rw [heap_setCell_same _ p 0 _ _ v0 h0]; rfl
  exact h1
theorem keepS1 (w : World) (p : Nat) (v0 : Value) : Keep (fun b => b = p) w (w.setCell ⟨p, 0, none⟩ v0) :=
  Keep.setCell (S := fun b => b = p) (p := ⟨p, 0, none⟩) (Keep.refl _ _) (.inr rfl) _
theorem cells2 {w : World} {p : Nat} {t : TypeId} {c0 c1 : Value} (h : w.heap[p]? = some (.cells #[c0, c1] t (0, 0))) :
    w.cell? ⟨p, 0, none⟩ = some c0 ∧ w.cell? ⟨p, 1, none⟩ = some c1 ∧ ∀ i, w.frozen? ⟨p, i, none⟩ = false :=
  ⟨by rw [cell_of_row w p 0 _ _ _ h]; rfl, by rw [cell_of_row w p 1 _ _ _ h]; rfl, fun i => frozen_of_row w p i _ _ h⟩
theorem stored2 {w : World} {p : Nat} {t : TypeId} {c0 c1 : Value} (h : w.heap[p]? = some (.cells #[c0, c1] t (0, 0))) (v0 v1 : Value) :
    ((w.setCell ⟨p, 0, none⟩ v0).setCell ⟨p, 1, none⟩ v1).heap[p]? = some (.cells #[v0, v1] t (0, 0)) := by
  have h0 := h
  have h1 : (w.setCell ⟨p, 0, none⟩ v0).heap[p]? = some (.cells #[v0, c1] t (0, 0)) := by rw [heap_setCell_same _ p 0 _ _ v0 h0]; rfl
  have h2 : ((w.setCell ⟨p, 0, none⟩ v0).setCell ⟨p, 1, none⟩ v1).heap[p]? = some (.cells #[v0, v1] t (0, 0)) := by rw [heap_setCell_same _ p 1 _ _ v1 h1]; rfl
  exact h2
theorem keepS2 (w : World) (p : Nat) (v0 v1 : Value) : Keep (fun b => b = p) w ((w.setCell ⟨p, 0, none⟩ v0).setCell ⟨p, 1, none⟩ v1) :=
  Keep.setCell (S := fun b => b = p) (p := ⟨p, 1, none⟩) (Keep.setCell (S := fun b => b = p) (p := ⟨p, 0, none⟩) (Keep.refl _ _) (.inr rfl) _) (.inr rfl) _
theorem cells3 {w : World} {p : Nat} {t : TypeId} {c0 c1 c2 : Value} (h : w.heap[p]? = some (.cells #[c0, c1, c2] t (0, 0))) :
    w.cell? ⟨p, 0, none⟩ = some c0 ∧ w.cell? ⟨p, 1, none⟩ = some c1 ∧ w.cell? ⟨p, 2, none⟩ = some c2 ∧ ∀ i, w.frozen? ⟨p, i, none⟩ = false :=
  ⟨by rw [cell_of_row w p 0 _ _ _ h]; rfl, by rw [cell_of_row w p 1 _ _ _ h]; rfl, by rw [cell_of_row w p 2 _ _ _ h]; rfl, fun i => frozen_of_row w p i _ _ h⟩
theorem stored3 {w : World} {p : Nat} {t : TypeId} {c0 c1 c2 : Value} (h : w.heap[p]? = some (.cells #[c0, c1, c2] t (0, 0))) (v0 v1 v2 : Value) :
    (((w.setCell ⟨p, 0, none⟩ v0).setCell ⟨p, 1, none⟩ v1).setCell ⟨p, 2, none⟩ v2).heap[p]? = some (.cells #[v0, v1, v2] t (0, 0)) := by
  have h0 := h
  have h1 : (w.setCell ⟨p, 0, none⟩ v0).heap[p]? = some (.cells #[v0, c1, c2] t (0, 0)) := by rw [heap_setCell_same _ p 0 _ _ v0 h0]; rfl
  have h2 : ((w.setCell ⟨p, 0, none⟩ v0).setCell ⟨p, 1, none⟩ v1).heap[p]? = some (.cells #[v0, v1, c2] t (0, 0)) := by rw [heap_setCell_same _ p 1 _ _ v1 h1]; rfl
  have h3 : (((w.setCell ⟨p, 0, none⟩ v0).setCell ⟨p, 1, none⟩ v1).setCell ⟨p, 2, none⟩ v2).heap[p]? = some (.cells #[v0, v1, v2] t (0, 0)) := by rw [heap_setCell_same _ p 2 _ _ v2 h2]; rfl
  exact h3
theorem keepS3 (w : World) (p : Nat) (v0 v1 v2 : Value) : Keep (fun b => b = p) w (((w.setCell ⟨p, 0, none⟩ v0).setCell ⟨p, 1, none⟩ v1).setCell ⟨p, 2, none⟩ v2) :=
  Keep.setCell (S := fun b => b = p) (p := ⟨p, 2, none⟩) (Keep.setCell (S := fun b => b = p) (p := ⟨p, 1, none⟩) (Keep.setCell (S := fun b => b = p) (p := ⟨p, 0, none⟩) (Keep.refl _ _) (.inr rfl) _) (.inr rfl) _) (.inr rfl) _
theorem cells4 {w : World} {p : Nat} {t : TypeId} {c0 c1 c2 c3 : Value} (h : w.heap[p]? = some (.cells #[c0, c1, c2, c3] t (0, 0))) :
    w.cell? ⟨p, 0, none⟩ = some c0 ∧ w.cell? ⟨p, 1, none⟩ = some c1 ∧ w.cell? ⟨p, 2, none⟩ = some c2 ∧ w.cell? ⟨p, 3, none⟩ = some c3 ∧ ∀ i, w.frozen? ⟨p, i, none⟩ = false :=
  ⟨by rw [cell_of_row w p 0 _ _ _ h]; rfl, by rw [cell_of_row w p 1 _ _ _ h]; rfl, by rw [cell_of_row w p 2 _ _ _ h]; rfl, by rw [cell_of_row w p 3 _ _ _ h]; rfl, fun i => frozen_of_row w p i _ _ h⟩
theorem stored4 {w : World} {p : Nat} {t : TypeId} {c0 c1 c2 c3 : Value} (h : w.heap[p]? = some (.cells #[c0, c1, c2, c3] t (0, 0))) (v0 v1 v2 v3 : Value) :
    ((((w.setCell ⟨p, 0, none⟩ v0).setCell ⟨p, 1, none⟩ v1).setCell ⟨p, 2, none⟩ v2).setCell ⟨p, 3, none⟩ v3).heap[p]? = some (.cells #[v0, v1, v2, v3] t (0, 0)) := by
  have h0 := h
  have h1 : (w.setCell ⟨p, 0, none⟩ v0).heap[p]? = some (.cells #[v0, c1, c2, c3] t (0, 0)) := by rw [heap_setCell_same _ p 0 _ _ v0 h0]; rfl
  have h2 : ((w.setCell ⟨p, 0, none⟩ v0).setCell ⟨p, 1, none⟩ v1).heap[p]? = some (.cells #[v0, v1, c2, c3] t (0, 0)) := by rw [heap_setCell_same _ p 1 _ _ v1 h1]; rfl
  have h3 : (((w.setCell ⟨p, 0, none⟩ v0).setCell ⟨p, 1, none⟩ v1).setCell ⟨p, 2, none⟩ v2).heap[p]? = some (.cells #[v0, v1, v2, c3] t (0, 0)) := by rw [heap_setCell_same _ p 2 _ _ v2 h2]; rfl
  have h4 : ((((w.setCell ⟨p, 0, none⟩ v0).setCell ⟨p, 1, none⟩ v1).setCell ⟨p, 2, none⟩ v2).setCell ⟨p, 3, none⟩ v3).heap[p]? = some (.cells #[v0, v1, v2, v3] t (0, 0)) := by rw [heap_setCell_same _ p 3 _ _ v3 h3]; rfl
  exact h4
theorem keepS4 (w : World) (p : Nat) (v0 v1 v2 v3 : Value) : Keep (fun b => b = p) w ((((w.setCell ⟨p, 0, none⟩ v0).setCell ⟨p, 1, none⟩ v1).setCell ⟨p, 2, none⟩ v2).setCell ⟨p, 3, none⟩ v3) :=
  Keep.setCell (S := fun b => b = p) (p := ⟨p, 3, none⟩) (Keep.setCell (S := fun b => b = p) (p := ⟨p, 2, none⟩) (Keep.setCell (S := fun b => b = p) (p := ⟨p, 1, none⟩) (Keep.setCell (S := fun b => b = p) (p := ⟨p, 0, none⟩) (Keep.refl _ _) (.inr rfl) _) (.inr rfl) _) (.inr rfl) _) (.inr rfl) _
theorem cells5 {w : World} {p : Nat} {t : TypeId} {c0 c1 c2 c3 c4 : Value} (h : w.heap[p]? = some (.cells #[c0, c1, c2, c3, c4] t (0, 0))) :
    w.cell? ⟨p, 0, none⟩ = some c0 ∧ w.cell? ⟨p, 1, none⟩ = some c1 ∧ w.cell? ⟨p, 2, none⟩ = some c2 ∧ w.cell? ⟨p, 3, none⟩ = some c3 ∧ w.cell? ⟨p, 4, none⟩ = some c4 ∧ ∀ i, w.frozen? ⟨p, i, none⟩ = false :=
  ⟨by rw [cell_of_row w p 0 _ _ _ h]; rfl, by rw [cell_of_row w p 1 _ _ _ h]; rfl, by rw [cell_of_row w p 2 _ _ _ h]; rfl, by rw [cell_of_row w p 3 _ _ _ h]; rfl, by rw [cell_of_row w p 4 _ _ _ h]; rfl, fun i => frozen_of_row w p i _ _ h⟩
theorem stored5 {w : World} {p : Nat} {t : TypeId} {c0 c1 c2 c3 c4 : Value} (h : w.heap[p]? = some (.cells #[c0, c1, c2, c3, c4] t (0, 0))) (v0 v1 v2 v3 v4 : Value) :
    (((((w.setCell ⟨p, 0, none⟩ v0).setCell ⟨p, 1, none⟩ v1).setCell ⟨p, 2, none⟩ v2).setCell ⟨p, 3, none⟩ v3).setCell ⟨p, 4, none⟩ v4).heap[p]? = some (.cells #[v0, v1, v2, v3, v4] t (0, 0)) := by
  have h0 := h
  have h1 : (w.setCell ⟨p, 0, none⟩ v0).heap[p]? = some (.cells #[v0, c1, c2, c3, c4] t (0, 0)) := by rw [heap_setCell_same _ p 0 _ _ v0 h0]; rfl
  have h2 : ((w.setCell ⟨p, 0, none⟩ v0).setCell ⟨p, 1, none⟩ v1).heap[p]? = some (.cells #[v0, v1, c2, c3, c4] t (0, 0)) := by rw [heap_setCell_same _ p 1 _ _ v1 h1]; rfl
  have h3 : (((w.setCell ⟨p, 0, none⟩ v0).setCell ⟨p, 1, none⟩ v1).setCell ⟨p, 2, none⟩ v2).heap[p]? = some (.cells #[v0, v1, v2, c3, c4] t (0, 0)) := by rw [heap_setCell_same _ p 2 _ _ v2 h2]; rfl
  have h4 : ((((w.setCell ⟨p, 0, none⟩ v0).setCell ⟨p, 1, none⟩ v1).setCell ⟨p, 2, none⟩ v2).setCell ⟨p, 3, none⟩ v3).heap[p]? = some (.cells #[v0, v1, v2, v3, c4] t (0, 0)) := by rw [heap_setCell_same _ p 3 _ _ v3 h3]; rfl
  have h5 : (((((w.setCell ⟨p, 0, none⟩ v0).setCell ⟨p, 1, none⟩ v1).setCell ⟨p, 2, none⟩ v2).setCell ⟨p, 3, none⟩ v3).setCell ⟨p, 4, none⟩ v4).heap[p]? = some (.cells #[v0, v1, v2, v3, v4] t (0, 0)) := by rw [heap_setCell_same _ p 4 _ _ v4 h4]; rfl
  exact h5
theorem keepS5 (w : World) (p : Nat) (v0 v1 v2 v3 v4 : Value) : Keep (fun b => b = p) w (((((w.setCell ⟨p, 0, none⟩ v0).setCell ⟨p, 1, none⟩ v1).setCell ⟨p, 2, none⟩ v2).setCell ⟨p, 3, none⟩ v3).setCell ⟨p, 4, none⟩ v4) :=
  Keep.setCell (S := fun b => b = p) (p := ⟨p, 4, none⟩) (Keep.setCell (S := fun b => b = p) (p := ⟨p, 3, none⟩) (Keep.setCell (S := fun b => b = p) (p := ⟨p, 2, none⟩) (Keep.setCell (S := fun b => b = p) (p := ⟨p, 1, none⟩) (Keep.setCell (S := fun b => b = p) (p := ⟨p, 0, none⟩) (Keep.refl _ _) (.inr rfl) _) (.inr rfl) _) (.inr rfl) _) (.inr rfl) _) (.inr rfl) _
theorem cells6 {w : World} {p : Nat} {t : TypeId} {c0 c1 c2 c3 c4 c5 : Value} (h : w.heap[p]? = some (.cells #[c0, c1, c2, c3, c4, c5] t (0, 0))) :
    w.cell? ⟨p, 0, none⟩ = some c0 ∧ w.cell? ⟨p, 1, none⟩ = some c1 ∧ w.cell? ⟨p, 2, none⟩ = some c2 ∧ w.cell? ⟨p, 3, none⟩ = some c3 ∧ w.cell? ⟨p, 4, none⟩ = some c4 ∧ w.cell? ⟨p, 5, none⟩ = some c5 ∧ ∀ i, w.frozen? ⟨p, i, none⟩ = false :=
  ⟨by rw [cell_of_row w p 0 _ _ _ h]; rfl, by rw [cell_of_row w p 1 _ _ _ h]; rfl, by rw [cell_of_row w p 2 _ _ _ h]; rfl, by rw [cell_of_row w p 3 _ _ _ h]; rfl, by rw [cell_of_row w p 4 _ _ _ h]; rfl, by rw [cell_of_row w p 5 _ _ _ h]; rfl, fun i => frozen_of_row w p i _ _ h⟩
theorem stored6 {w : World} {p : Nat} {t : TypeId} {c0 c1 c2 c3 c4 c5 : Value} (h : w.heap[p]? = some (.cells #[c0, c1, c2, c3, c4, c5] t (0, 0))) (v0 v1 v2 v3 v4 v5 : Value) :
    ((((((w.setCell ⟨p, 0, none⟩ v0).setCell ⟨p, 1, none⟩ v1).setCell ⟨p, 2, none⟩ v2).setCell ⟨p, 3, none⟩ v3).setCell ⟨p, 4, none⟩ v4).setCell ⟨p, 5, none⟩ v5).heap[p]? = some (.cells #[v0, v1, v2, v3, v4, v5] t (0, 0)) := by
  have h0 := h
  have h1 : (w.setCell ⟨p, 0, none⟩ v0).heap[p]? = some (.cells #[v0, c1, c2, c3, c4, c5] t (0, 0)) := by rw [heap_setCell_same _ p 0 _ _ v0 h0]; rfl
  have h2 : ((w.setCell ⟨p, 0, none⟩ v0).setCell ⟨p, 1, none⟩ v1).heap[p]? = some (.cells #[v0, v1, c2, c3, c4, c5] t (0, 0)) := by rw [heap_setCell_same _ p 1 _ _ v1 h1]; rfl
  have h3 : (((w.setCell ⟨p, 0, none⟩ v0).setCell ⟨p, 1, none⟩ v1).setCell ⟨p, 2, none⟩ v2).heap[p]? = some (.cells #[v0, v1, v2, c3, c4, c5] t (0, 0)) := by rw [heap_setCell_same _ p 2 _ _ v2 h2]; rfl
  have h4 : ((((w.setCell ⟨p, 0, none⟩ v0).setCell ⟨p, 1, none⟩ v1).setCell ⟨p, 2, none⟩ v2).setCell ⟨p, 3, none⟩ v3).heap[p]? = some (.cells #[v0, v1, v2, v3, c4, c5] t (0, 0)) := by rw [heap_setCell_same _ p 3 _ _ v3 h3]; rfl
  have h5 : (((((w.setCell ⟨p, 0, none⟩ v0).setCell ⟨p, 1, none⟩ v1).setCell ⟨p, 2, none⟩ v2).setCell ⟨p, 3, none⟩ v3).setCell ⟨p, 4, none⟩ v4).heap[p]? = some (.cells #[v0, v1, v2, v3, v4, c5] t (0, 0)) := by rw [heap_setCell_same _ p 4 _ _ v4 h4]; rfl
  have h6 : ((((((w.setCell ⟨p, 0, none⟩ v0).setCell ⟨p, 1, none⟩ v1).setCell ⟨p, 2, none⟩ v2).setCell ⟨p, 3, none⟩ v3).setCell ⟨p, 4, none⟩ v4).setCell ⟨p, 5, none⟩ v5).heap[p]? = some (.cells #[v0, v1, v2, v3, v4, v5] t (0, 0)) := by rw [heap_setCell_same _ p 5 _ _ v5 h5]; rfl
  exact h6
theorem keepS6 (w : World) (p : Nat) (v0 v1 v2 v3 v4 v5 : Value) : Keep (fun b => b = p) w ((((((w.setCell ⟨p, 0, none⟩ v0).setCell ⟨p, 1, none⟩ v1).setCell ⟨p, 2, none⟩ v2).setCell ⟨p, 3, none⟩ v3).setCell ⟨p, 4, none⟩ v4).setCell ⟨p, 5, none⟩ v5) :=
  Keep.setCell (S := fun b => b = p) (p := ⟨p, 5, none⟩) (Keep.setCell (S := fun b => b = p) (p := ⟨p, 4, none⟩) (Keep.setCell (S := fun b => b = p) (p := ⟨p, 3, none⟩) (Keep.setCell (S := fun b => b = p) (p := ⟨p, 2, none⟩) (Keep.setCell (S := fun b => b = p) (p := ⟨p, 1, none⟩) (Keep.setCell (S := fun b => b = p) (p := ⟨p, 0, none⟩) (Keep.refl _ _) (.inr rfl) _) (.inr rfl) _) (.inr rfl) _) (.inr rfl) _) (.inr rfl) _) (.inr rfl) _
theorem cells7 {w : World} {p : Nat} {t : TypeId} {c0 c1 c2 c3 c4 c5 c6 : Value} (h : w.heap[p]? = some (.cells #[c0, c1, c2, c3, c4, c5, c6] t (0, 0))) :
    w.cell? ⟨p, 0, none⟩ = some c0 ∧ w.cell? ⟨p, 1, none⟩ = some c1 ∧ w.cell? ⟨p, 2, none⟩ = some c2 ∧ w.cell? ⟨p, 3, none⟩ = some c3 ∧ w.cell? ⟨p, 4, none⟩ = some c4 ∧ w.cell? ⟨p, 5, none⟩ = some c5 ∧ w.cell? ⟨p, 6, none⟩ = some c6 ∧ ∀ i, w.frozen? ⟨p, i, none⟩ = false :=
  ⟨by rw [cell_of_row w p 0 _ _ _ h]; rfl, by rw [cell_of_row w p 1 _ _ _ h]; rfl, by rw [cell_of_row w p 2 _ _ _ h]; rfl, by rw [cell_of_row w p 3 _ _ _ h]; rfl, by rw [cell_of_row w p 4 _ _ _ h]; rfl, by rw [cell_of_row w p 5 _ _ _ h]; rfl, by rw [cell_of_row w p 6 _ _ _ h]; rfl, fun i => frozen_of_row w p i _ _ h⟩
theorem stored7 {w : World} {p : Nat} {t : TypeId} {c0 c1 c2 c3 c4 c5 c6 : Value} (h : w.heap[p]? = some (.cells #[c0, c1, c2, c3, c4, c5, c6] t (0, 0))) (v0 v1 v2 v3 v4 v5 v6 : Value) :
    (((((((w.setCell ⟨p, 0, none⟩ v0).setCell ⟨p, 1, none⟩ v1).setCell ⟨p, 2, none⟩ v2).setCell ⟨p, 3, none⟩ v3).setCell ⟨p, 4, none⟩ v4).setCell ⟨p, 5, none⟩ v5).setCell ⟨p, 6, none⟩ v6).heap[p]? = some (.cells #[v0, v1, v2, v3, v4, v5, v6] t (0, 0)) := by
  have h0 := h
  have h1 : (w.setCell ⟨p, 0, none⟩ v0).heap[p]? = some (.cells #[v0, c1, c2, c3, c4, c5, c6] t (0, 0)) := by rw [heap_setCell_same _ p 0 _ _ v0 h0]; rfl
  have h2 : ((w.setCell ⟨p, 0, none⟩ v0).setCell ⟨p, 1, none⟩ v1).heap[p]? = some (.cells #[v0, v1, c2, c3, c4, c5, c6] t (0, 0)) := by rw [heap_setCell_same _ p 1 _ _ v1 h1]; rfl
  have h3 : (((w.setCell ⟨p, 0, none⟩ v0).setCell ⟨p, 1, none⟩ v1).setCell ⟨p, 2, none⟩ v2).heap[p]? = some (.cells #[v0, v1, v2, c3, c4, c5, c6] t (0, 0)) := by rw [heap_setCell_same _ p 2 _ _ v2 h2]; rfl
  have h4 : ((((w.setCell ⟨p, 0, none⟩ v0).setCell ⟨p, 1, none⟩ v1).setCell ⟨p, 2, none⟩ v2).setCell ⟨p, 3, none⟩ v3).heap[p]? = some (.cells #[v0, v1, v2, v3, c4, c5, c6] t (0, 0)) := by rw [heap_setCell_same _ p 3 _ _ v3 h3]; rfl
  have h5 : (((((w.setCell ⟨p, 0, none⟩ v0).setCell ⟨p, 1, none⟩ v1).setCell ⟨p, 2, none⟩ v2).setCell ⟨p, 3, none⟩ v3).setCell ⟨p, 4, none⟩ v4).heap[p]? = some (.cells #[v0, v1, v2, v3, v4, c5, c6] t (0, 0)) := by rw [heap_setCell_same _ p 4 _ _ v4 h4]; rfl
  have h6 : ((((((w.setCell ⟨p, 0, none⟩ v0).setCell ⟨p, 1, none⟩ v1).setCell ⟨p, 2, none⟩ v2).setCell ⟨p, 3, none⟩ v3).setCell ⟨p, 4, none⟩ v4).setCell ⟨p, 5, none⟩ v5).heap[p]? = some (.cells #[v0, v1, v2, v3, v4, v5, c6] t (0, 0)) := by rw [heap_setCell_same _ p 5 _ _ v5 h5]; rfl
  have h7 : (((((((w.setCell ⟨p, 0, none⟩ v0).setCell ⟨p, 1, none⟩ v1).setCell ⟨p, 2, none⟩ v2).setCell ⟨p, 3, none⟩ v3).setCell ⟨p, 4, none⟩ v4).setCell ⟨p, 5, none⟩ v5).setCell ⟨p, 6, none⟩ v6).heap[p]? = some (.cells #[v0, v1, v2, v3, v4, v5, v6] t (0, 0)) := by rw [heap_setCell_same _ p 6 _ _ v6 h6]; rfl
  exact h7
theorem keepS7 (w : World) (p : Nat) (v0 v1 v2 v3 v4 v5 v6 : Value) : Keep (fun b => b = p) w (((((((w.setCell ⟨p, 0, none⟩ v0).setCell ⟨p, 1, none⟩ v1).setCell ⟨p, 2, none⟩ v2).setCell ⟨p, 3, none⟩ v3).setCell ⟨p, 4, none⟩ v4).setCell ⟨p, 5, none⟩ v5).setCell ⟨p, 6, none⟩ v6) :=
  Keep.setCell (S := fun b => b = p) (p := ⟨p, 6, none⟩) (Keep.setCell (S := fun b => b = p) (p := ⟨p, 5, none⟩) (Keep.setCell (S := fun b => b = p) (p := ⟨p, 4, none⟩) (Keep.setCell (S := fun b => b = p) (p := ⟨p, 3, none⟩) (Keep.setCell (S := fun b => b = p) (p := ⟨p, 2, none⟩) (Keep.setCell (S := fun b => b = p) (p := ⟨p, 1, none⟩) (Keep.setCell (S := fun b => b = p) (p := ⟨p, 0, none⟩) (Keep.refl _ _) (.inr rfl) _) (.inr rfl) _) (.inr rfl) _) (.inr rfl) _) (.inr rfl) _) (.inr rfl) _) (.inr rfl) _
theorem cells8 {w : World} {p : Nat} {t : TypeId} {c0 c1 c2 c3 c4 c5 c6 c7 : Value} (h : w.heap[p]? = some (.cells #[c0, c1, c2, c3, c4, c5, c6, c7] t (0, 0))) :
    w.cell? ⟨p, 0, none⟩ = some c0 ∧ w.cell? ⟨p, 1, none⟩ = some c1 ∧ w.cell? ⟨p, 2, none⟩ = some c2 ∧ w.cell? ⟨p, 3, none⟩ = some c3 ∧ w.cell? ⟨p, 4, none⟩ = some c4 ∧ w.cell? ⟨p, 5, none⟩ = some c5 ∧ w.cell? ⟨p, 6, none⟩ = some c6 ∧ w.cell? ⟨p, 7, none⟩ = some c7 ∧ ∀ i, w.frozen? ⟨p, i, none⟩ = false :=
  ⟨by rw [cell_of_row w p 0 _ _ _ h]; rfl, by rw [cell_of_row w p 1 _ _ _ h]; rfl, by rw [cell_of_row w p 2 _ _ _ h]; rfl, by rw [cell_of_row w p 3 _ _ _ h]; rfl, by rw [cell_of_row w p 4 _ _ _ h]; rfl, by rw [cell_of_row w p 5 _ _ _ h]; rfl, by rw [cell_of_row w p 6 _ _ _ h]; rfl, by rw [cell_of_row w p 7 _ _ _ h]; rfl, fun i => frozen_of_row w p i _ _ h⟩
theorem stored8 {w : World} {p : Nat} {t : TypeId} {c0 c1 c2 c3 c4 c5 c6 c7 : Value} (h : w.heap[p]? = some (.cells #[c0, c1, c2, c3, c4, c5, c6, c7] t (0, 0))) (v0 v1 v2 v3 v4 v5 v6 v7 : Value) :
    ((((((((w.setCell ⟨p, 0, none⟩ v0).setCell ⟨p, 1, none⟩ v1).setCell ⟨p, 2, none⟩ v2).setCell ⟨p, 3, none⟩ v3).setCell ⟨p, 4, none⟩ v4).setCell ⟨p, 5, none⟩ v5).setCell ⟨p, 6, none⟩ v6).setCell ⟨p, 7, none⟩ v7).heap[p]? = some (.cells #[v0, v1, v2, v3, v4, v5, v6, v7] t (0, 0)) := by
  have h0 := h
  have h1 : (w.setCell ⟨p, 0, none⟩ v0).heap[p]? = some (.cells #[v0, c1, c2, c3, c4, c5, c6, c7] t (0, 0)) := by rw [heap_setCell_same _ p 0 _ _ v0 h0]; rfl
  have h2 : ((w.setCell ⟨p, 0, none⟩ v0).setCell ⟨p, 1, none⟩ v1).heap[p]? = some (.cells #[v0, v1, c2, c3, c4, c5, c6, c7] t (0, 0)) := by rw [heap_setCell_same _ p 1 _ _ v1 h1]; rfl
  have h3 : (((w.setCell ⟨p, 0, none⟩ v0).setCell ⟨p, 1, none⟩ v1).setCell ⟨p, 2, none⟩ v2).heap[p]? = some (.cells #[v0, v1, v2, c3, c4, c5, c6, c7] t (0, 0)) := by rw [heap_setCell_same _ p 2 _ _ v2 h2]; rfl
  have h4 : ((((w.setCell ⟨p, 0, none⟩ v0).setCell ⟨p, 1, none⟩ v1).setCell ⟨p, 2, none⟩ v2).setCell ⟨p, 3, none⟩ v3).heap[p]? = some (.cells #[v0, v1, v2, v3, c4, c5, c6, c7] t (0, 0)) := by rw [heap_setCell_same _ p 3 _ _ v3 h3]; rfl
  have h5 : (((((w.setCell ⟨p, 0, none⟩ v0).setCell ⟨p, 1, none⟩ v1).setCell ⟨p, 2, none⟩ v2).setCell ⟨p, 3, none⟩ v3).setCell ⟨p, 4, none⟩ v4).heap[p]? = some (.cells #[v0, v1, v2, v3, v4, c5, c6, c7] t (0, 0)) := by rw [heap_setCell_same _ p 4 _ _ v4 h4]; rfl
  have h6 : ((((((w.setCell ⟨p, 0, none⟩ v0).setCell ⟨p, 1, none⟩ v1).setCell ⟨p, 2, none⟩ v2).setCell ⟨p, 3, none⟩ v3).setCell ⟨p, 4, none⟩ v4).setCell ⟨p, 5, none⟩ v5).heap[p]? = some (.cells #[v0, v1, v2, v3, v4, v5, c6, c7] t (0, 0)) := by rw [heap_setCell_same _ p 5 _ _ v5 h5]; rfl
  have h7 : (((((((w.setCell ⟨p, 0, none⟩ v0).setCell ⟨p, 1, none⟩ v1).setCell ⟨p, 2, none⟩ v2).setCell ⟨p, 3, none⟩ v3).setCell ⟨p, 4, none⟩ v4).setCell ⟨p, 5, none⟩ v5).setCell ⟨p, 6, none⟩ v6).heap[p]? = some (.cells #[v0, v1, v2, v3, v4, v5, v6, c7] t (0, 0)) := by rw [heap_setCell_same _ p 6 _ _ v6 h6]; rfl
  have h8 : ((((((((w.setCell ⟨p, 0, none⟩ v0).setCell ⟨p, 1, none⟩ v1).setCell ⟨p, 2, none⟩ v2).setCell ⟨p, 3, none⟩ v3).setCell ⟨p, 4, none⟩ v4).setCell ⟨p, 5, none⟩ v5).setCell ⟨p, 6, none⟩ v6).setCell ⟨p, 7, none⟩ v7).heap[p]? = some (.cells #[v0, v1, v2, v3, v4, v5, v6, v7] t (0, 0)) := by rw [heap_setCell_same _ p 7 _ _ v7 h7]; rfl
  exact h8
theorem keepS8 (w : World) (p : Nat) (v0 v1 v2 v3 v4 v5 v6 v7 : Value) : Keep (fun b => b = p) w ((((((((w.setCell ⟨p, 0, none⟩ v0).setCell ⟨p, 1, none⟩ v1).setCell ⟨p, 2, none⟩ v2).setCell ⟨p, 3, none⟩ v3).setCell ⟨p, 4, none⟩ v4).setCell ⟨p, 5, none⟩ v5).setCell ⟨p, 6, none⟩ v6).setCell ⟨p, 7, none⟩ v7) :=
  Keep.setCell (S := fun b => b = p) (p := ⟨p, 7, none⟩) (Keep.setCell (S := fun b => b = p) (p := ⟨p, 6, none⟩) (Keep.setCell (S := fun b => b = p) (p := ⟨p, 5, none⟩) (Keep.setCell (S := fun b => b = p) (p := ⟨p, 4, none⟩) (Keep.setCell (S := fun b => b = p) (p := ⟨p, 3, none⟩) (Keep.setCell (S := fun b => b = p) (p := ⟨p, 2, none⟩) (Keep.setCell (S := fun b => b = p) (p := ⟨p, 1, none⟩) (Keep.setCell (S := fun b => b = p) (p := ⟨p, 0, none⟩) (Keep.refl _ _) (.inr rfl) _) (.inr rfl) _) (.inr rfl) _) (.inr rfl) _) (.inr rfl) _) (.inr rfl) _) (.inr rfl) _) (.inr rfl) _

theorem heap_drew' (w : World) : w.drew.heap = w.heap := rfl
theorem heap_alloc_at (w : World) (o : Obj) (k : Nat) (h : k = w.heap.size) : (w.alloc o).heap[k]? = some o := by subst h; exact heap_alloc_new w o
theorem cell_away {w : World} {g k p o : Nat} (h : g ≠ p) (u : Value) : (w.setCell ⟨g, k, none⟩ u).cell? ⟨p, o, none⟩ = w.cell? ⟨p, o, none⟩ :=
  World.cell?_of_block (Below.heap_setCell w ⟨g, k, none⟩ u p (fun e => h e.symm))
theorem frozen_away {w : World} {g k p o : Nat} (h : g ≠ p) (u : Value) : (w.setCell ⟨g, k, none⟩ u).frozen? ⟨p, o, none⟩ = w.frozen? ⟨p, o, none⟩ :=
  World.frozen?_of_block (Below.heap_setCell w ⟨g, k, none⟩ u p (fun e => h e.symm))
theorem wp_world {P : Program} {c : Code} {Q : Exit → Act → World → Prop} {a : Act} {w : World} {S : World → Prop} (h : S w) (k : ∀ w3, S w3 → Code.wp P c Q a w3) : Code.wp P c Q a w := k w h
theorem src_at {P : Program} {tx e' : TypeId} {W : World} {g : Nat} {x : Value} (hk : P.underlying tx = some (.slice e')) (h1 : x.oneCell' = true) (hc : W.cell? ⟨g, 0, none⟩ = some x) : Src P 1 tx (.slice (some ⟨g, 0, none⟩) 1 1) 1 [x] W :=
  Src.ofSlice _ hk _ 1 1 [x] rfl (fun j u hu => by
    match j, hu with
    | 0, hu => simp at hu; subst hu; simpa [Addr.add] using hc) (fun u hu => by simp at hu; subst hu; exact h1)
end Go.Proofs.Ythkgchlndfcmpaa

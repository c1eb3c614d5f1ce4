/- The pages' example of a core, step by step. -/
import Derived.Test.YtglliendhbkkhaaGreatDoorEcs7
namespace Go.Proofs.YtglliendhbkkhaaGreatDoor
open Go.RowKit
set_option maxRecDepth 100000
set_option linter.unusedVariables false
set_option linter.unusedSimpArgs false

/-- A core that was made behind w0. -/
structure CoB0 (w0 w : World) (c : Cf) (xp : Nat) (B : CoB) (q : Nat) (a : Co) : Prop where
  m : CoM w c xp B q a
  keep : Keep (fun _ => False) w0 w
  up : ∀ k, CoF xp B a k → w0.heap.size ≤ k
section
variable {w0 w w' : World} {c : Cf} {xp q q' : Nat} {B B' : CoB} {a a' : Co}
theorem CoB0.then_ (h : CoB0 w0 w c xp B q a) (h' : CoAt w c xp (CoF xp B a) q' a' w' B') : CoB0 w0 w' c xp B' q' a' :=
  ⟨h'.1, h.keep.trans h'.2.1 (fun k hk e => by have := h.up k e; omega), fun k hk => by
    rcases h'.2.2 k hk with e | e
    · exact h.up k e
    · exact Nat.le_trans h.keep.size e⟩
theorem CoB0.thenTo (h : CoB0 w0 w c xp B q a) (h' : CoTo w c xp (CoF xp B a) q' a' w') : ∃ B', CoB0 w0 w' c xp B' q' a' := by
  obtain ⟨B', h'⟩ := h'
  exact ⟨B', h.then_ h'⟩
theorem CoB0.same (h : CoB0 w0 w c xp B q a) (hk : Keep (fun _ => False) w w') : CoB0 w0 w' c xp B q a := ⟨h.m.same hk, h.keep.trans hk (fun _ _ h => h), h.up⟩
theorem CoB0.tab (h : CoB0 w0 w c xp B q a) (hT : Tab w0) : Tab w ∧ ¬ CoF xp B a 0 := ⟨hT.same h.keep, fun e => by have := h.up _ e; have := hT.lt; omega⟩
end
def cfA : Cf := ⟨2, 4, 3, 3, [⟨⟨#[97]⟩, 1⟩]⟩
def szA : Nat → Nat := szOf cfA.l
def coA : Co := coNew cfA
def coA1 : Co := (spawnC szA coA).1
def coA2 : Co := leaveC (sgC coA1 1) 0
def coA3 : Co := enterC szA coA2 0 0 1 (entP (sgC coA1 1) 0 ++ [⟨0, [9]⟩])
theorem cfA_ok : checkF cfA = 0 := by decide +kernel
theorem coA_add : addC (tbAt coA 0).ids.length (sgAt coA 0) szA [] = 0 := by decide +kernel
theorem coA_take : (spawnC szA coA).2 = (⟨0, 0⟩, 0) := by decide +kernel
theorem coA_sig : ∀ s ∈ coA.sigs, s < 18446744073709551616 ∧ s &&& allOf cfA.l = s := by decide +kernel
theorem coA1_named : namedC cfA.l coA1 ⟨0, 0⟩ 0 = (1, false, 0) := by decide +kernel
theorem coA1_stands : Stands coA1 0 := ⟨by decide +kernel, by decide +kernel, by decide +kernel, by decide +kernel⟩
theorem coA1_step : stepSig (sgAt coA1 (spAt coA1 0).node) 0 true = 1 := by decide +kernel
theorem coA1_node : nodeI coA1.sigs 1 = 1 := by decide +kernel
theorem coA1_lt : 1 < (nodeS coA1.sigs 1).length := by decide +kernel
theorem coA1_sigs : ∀ s ∈ nodeS coA1.sigs 1, s < 18446744073709551616 ∧ s &&& allOf cfA.l = s := by decide +kernel
theorem coA2_add : addC (tbAt coA2 1).ids.length (sgAt coA2 1) szA (entP (sgC coA1 1) 0 ++ [⟨0, [9]⟩]) = 0 := by decide +kernel
theorem coA3_sig : ∀ s ∈ coA3.sigs, s < 18446744073709551616 ∧ s &&& allOf cfA.l = s := by decide +kernel
theorem clA (w : World) : CL (w.alloc (.cells #[.string ⟨#[97]⟩, .int .i64 1] 86 (0, 0))) (fun b => b = w.heap.size) (.slice (some ⟨w.heap.size, 0, none⟩) 1 1) cfA.l := by
  obtain ⟨x0, x1, -⟩ := cells2 (heap_alloc_new w (.cells #[.string ⟨#[97]⟩, .int .i64 1] 86 (0, 0)))
  refine ⟨_, 1, rfl, Nat.le_refl _, by unfold maxLen; decide, ⟨rfl, fun _ => ⟨_, 0, rfl, rfl, fun i u hu => ?_⟩⟩, fun h => by cases h⟩
  match i, hu with
  | 0, hu => cases hu; exact x0
  | 1, hu => cases hu; exact x1
  | i + 2, hu => simp [cfA, ccells] at hu
end Go.Proofs.YtglliendhbkkhaaGreatDoor

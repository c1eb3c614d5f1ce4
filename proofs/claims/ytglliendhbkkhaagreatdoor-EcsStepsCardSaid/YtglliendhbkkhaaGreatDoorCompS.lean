/- Contract of vivariumref07.Same at two layouts that are the same. -/
import Derived.Test.YtglliendhbkkhaaGreatDoorComp1
import Derived.Laws.StructEq
import Derived.BigQuiet
import Derived.Deep.QuietTactic
namespace Go.Proofs.YtglliendhbkkhaaGreatDoor
open Go.RowKit
set_option maxRecDepth 100000
set_option linter.unusedVariables false

set_option maxHeartbeats 4000000 in
theorem rsameF (c : Cf) (u v : Value) (F G : Nat → Prop) (w : World) (hu : CL w F u c.l) (hv : CL w G v c.l) (h40 : c.l.length ≤ 100000) :
    Calls Tryz.prog 20 #[confV c u, confV c v] w fun e w' => e = .returned (.bool true) ∧ Below w.heap.size w w' := by
  have hu0 := hu
  have hv0 := hv
  obtain ⟨A, cap, rfl, hnc, hcm, -⟩ := hu
  obtain ⟨B, cap2, rfl, hnd, hdm, -⟩ := hv
  obtain ⟨n, hn⟩ : ∃ n, n = c.l.length := ⟨_, rfl⟩
  unfold confV
  rw [← hn] at hnc hnd hu0 hv0 h40 ⊢
  clear hn hcm hdm
  obtain ⟨log, pages, ents, gens, l⟩ := c
  simp only at hnc hnd hu0 hv0 h40 ⊢
  have e1 : (log != log) = false := by simp
  have e2 : (pages != pages) = false := by simp
  have e3 : (ents != ents) = false := by simp
  have e4 : (gens != gens) = false := by simp
  have e5 : ((n : Int) != (n : Int)) = false := by simp
  have B0 := Lib.hid (show ((w.alloc (.cells #[.int .i64 log, .int .i64 pages, .int .i64 ents, .int .i64 gens, .slice A n cap] 24 (0, 0))).alloc (.cells #[.int .i64 log, .int .i64 pages, .int .i64 ents, .int .i64 gens, .slice B n cap2] 24 (0, 0))).heap[w.heap.size]? = some (.cells #[.int .i64 log, .int .i64 pages, .int .i64 ents, .int .i64 gens, .slice A n cap] 24 (0, 0)) ∧ ((w.alloc (.cells #[.int .i64 log, .int .i64 pages, .int .i64 ents, .int .i64 gens, .slice A n cap] 24 (0, 0))).alloc (.cells #[.int .i64 log, .int .i64 pages, .int .i64 ents, .int .i64 gens, .slice B n cap2] 24 (0, 0))).heap[w.heap.size + 1]? = some (.cells #[.int .i64 log, .int .i64 pages, .int .i64 ents, .int .i64 gens, .slice B n cap2] 24 (0, 0)) from
    ⟨(heap_alloc_old _ _ (by simp)).trans (heap_alloc_new w _), heap_alloc_at _ _ _ (by simp)⟩)
  go_enter Tryz.func20, Tryz.ntmps20
  go_upto_region 1 with fail
  refine wp_world (S := fun X => (X.heap[w.heap.size]? = some (.cells #[.int .i64 log, .int .i64 pages, .int .i64 ents, .int .i64 gens, .slice A n cap] 24 (0, 0)) ∧ X.heap[w.heap.size + 1]? = some (.cells #[.int .i64 log, .int .i64 pages, .int .i64 ents, .int .i64 gens, .slice B n cap2] 24 (0, 0))) ∧ Keep (fun _ => False) w X) ⟨B0.out, by exact (by repeat first | exact Keep.refl _ _ | refine Keep.alloc ?_ _ | refine Keep.drew ?_ | refine Keep.drewN ?_ _)⟩ ?_
  intro X hX
  have HX := Lib.hid hX
  have HU := Lib.hid (hu0.same HX.out.2)
  have HV := Lib.hid (hv0.same HX.out.2)
  clear hX hu0 hv0 B0
  obtain ⟨x0, x1, x2, x3, x4, xf⟩ := cells5 HX.out.1.1
  obtain ⟨y0, y1, y2, y3, y4, yf⟩ := cells5 HX.out.1.2
  go_wp2
  go_loopw [5] (fun i wr => ∃ (k q : Nat), k ≤ n ∧ i = .int .i64 k ∧ wr = X.drewN q) (fun i _ => n - (intOf i).toNat)
  case atStart => exact ⟨0, 0, by omega, rfl, rfl⟩
  case round =>
    obtain ⟨k, q, hk, rfl, rfl⟩ := hrel
    by_cases hlt : k < n
    · have hi : (k : Int) < (n : Int) := by omega
      obtain ⟨b, off, rfl, -, f1, f2⟩ := CL.at_ HU.out hlt
      obtain ⟨b2, off2, rfl, -, g1, g2⟩ := CL.at_ HV.out hlt
      generalize nmAt l k = nm at *
      generalize szAt l k = sz at *
      have es : (sz == sz) = true := by simp
      have en : (nm.toList == nm.toList) = true := by simp
      go_wp2
      go_quiet (fail)
      go_wp2
      go_roundw
      case rel => exact ⟨k + 1, _, by omega, by go_num, by first | rfl | exact World.drewN_drewN _ _ _⟩
      case measure => simp [intOf]; omega
    · have hi : ¬ (k : Int) < (n : Int) := by omega
      go_wp2
      go_ret
      exact ⟨rfl, (HX.out.2.drewN q).to_below'⟩
end Go.Proofs.YtglliendhbkkhaaGreatDoor

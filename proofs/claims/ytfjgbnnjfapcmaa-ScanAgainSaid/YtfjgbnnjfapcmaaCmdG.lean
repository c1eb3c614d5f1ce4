/- The ways of vivariumref13.Get. Printed by gencmdg.py. -/
import Derived.Test.YtfjgbnnjfapcmaaCmdS
import Derived.Test.YtfjgbnnjfapcmaaLe1
import Derived.Test.YtfjgbnnjfapcmaaArgs
import Derived.OwnWalk
import Derived.Deep.DeepCutAuto
namespace Go.Proofs.Ytfjgbnnjfapcmaa
open Go.RowKit
set_option maxRecDepth 100000
set_option linter.unusedVariables false
theorem Keep.transQ {w w1 w2 : World} {q : Nat} (h : Keep (fun _ => False) w w1) (k : Keep (fun b => b = q) w1 w2) (hq : w.heap.size ≤ q) : Keep (fun _ => False) w w2 :=
  h.trans k (fun x hx e => by omega)

/-- What vivariumref13.Get leaves: the data lie where F says (in b), or nowhere. -/
def RGPost (F : Nat → Prop) (W : World) (r : Cmd × Int × Int) (e : Ending) (w' : World) : Prop :=
  ∃ A n c, e = .returned (.tuple #[cmdV r.1 (.slice A n c), .int .i64 r.2.1, .int .i64 r.2.2]) ∧ By w' F (.slice A n c) r.1.l ∧ Below W.heap.size W w'
def GetC (w : World) (g p m d : Nat) (z y v : Int) (k : Bool) : Prop := ∀ W, Keep (fun _ => False) w W → Calls Try.prog 61 #[.slice (some ⟨g, p, none⟩) m d, .int .i64 z, .int .i64 y] W (fun e w' => e = .returned (.tuple #[.int .i64 v, .bool k]) ∧ W = w')

/-- Where it stands behind region 16: the result's box, x, y. -/
def GSt (w Y : World) (q : Nat) (y : Cmd) (u : Value) : Prop :=
  Y.heap[w.heap.size]? = some (.cells #[.int .i64 0, .bool false, .int .i64 0, .int .i64 0, .int .i64 0, .slice none 0 0] 83 (0, 0)) ∧ Y.heap[w.heap.size + 1]? = some (.cells #[.int .i64 0, .bool false, .int .i64 0, .int .i64 0, .int .i64 0, .slice none 0 0] 83 (0, 0)) ∧
    Y.heap[q]? = some (.cells #[.int .i64 y.do_, .bool y.loc, .int .i64 y.idx, .int .i64 y.gen, .int .i64 y.comp, u] 83 (0, 0)) ∧ w.heap.size + 1 < q ∧ Keep (fun _ => False) w Y
theorem GSt.drew {w Y : World} {q : Nat} {y : Cmd} {u : Value} (h : GSt w Y q y u) : GSt w Y.drew q y u := ⟨h.1, h.2.1, h.2.2.1, h.2.2.2.1, h.2.2.2.2.drew⟩
theorem GSt.set {w Y : World} {q : Nat} {y : Cmd} {u : Value} (h : GSt w Y q y u) (i : Nat) (v : Value) (y' : Cmd) (u' : Value)
    (he : (#[.int .i64 y.do_, .bool y.loc, .int .i64 y.idx, .int .i64 y.gen, .int .i64 y.comp, u] : Array Value).setIfInBounds i v = #[.int .i64 y'.do_, .bool y'.loc, .int .i64 y'.idx, .int .i64 y'.gen, .int .i64 y'.comp, u']) : GSt w (Y.setCell ⟨q, i, none⟩ v) q y' u' := by
  obtain ⟨h1, h2, h3, h4, h5⟩ := h
  have hk : Keep (fun b => b = q) Y (Y.setCell ⟨q, i, none⟩ v) := Keep.setCell (S := fun b => b = q) (p := ⟨q, i, none⟩) (Keep.refl _ Y) (.inr rfl) _
  exact ⟨(hk.block _ (Array.getElem?_eq_some_iff.1 h1).1 (by omega)).trans h1, (hk.block _ (Array.getElem?_eq_some_iff.1 h2).1 (by omega)).trans h2, by rw [heap_setCell_same Y q i _ _ v h3, he], h4, h5.transQ hk (by omega)⟩

set_option maxHeartbeats 4000000 in
theorem rg_big (F : Nat → Prop) (a n c o g : Nat) (A : Option Addr) (hA : A = some ⟨g, o, none⟩) (w : World) (hn : n ≤ 1099511627776) (ha : a ≤ n) (hbc : n ≤ c) (hcm : c ≤ maxLen) (hc : ¬ c = a) (t0 : Int) (h1 : a < n) (x0 : w.cell? ⟨g, o + a, none⟩ = some (.int .u8 (t0))) (h3 : 3 < t0) :
    Calls Try.prog 62 #[.slice A n c, .int .i64 (a : Nat)] w (RGPost F w (zeroC, 0, 11)) := by
  have f0 : (0 : Int) ≤ (a : Int) := by omega
  have f1 : (a : Int) ≤ (n : Int) := by omega
  have f2 : (a : Int) ≤ (c : Int) := by omega
  have f3 : a ≤ c := by omega
  have m0 : (a : Int) < (n : Int) := by omega
  go_enter Try.func62, Try.ntmps62
  go_upto_region 5 with fail
  subst hA
  refine wp_world (S := fun X => X.heap[w.heap.size]? = some (.cells #[.int .i64 0, .bool false, .int .i64 0, .int .i64 0, .int .i64 0, .slice none 0 0] 83 (0, 0)) ∧ X.heap[w.heap.size + 1]? = some (.cells #[.int .i64 0, .bool false, .int .i64 0, .int .i64 0, .int .i64 0, .slice none 0 0] 83 (0, 0)) ∧ X.heap.size = w.heap.size + 2 ∧ Keep (fun _ => False) w X ∧ X.cell? ⟨g, o + a, none⟩ = some (.int .u8 (t0))) ⟨(heap_alloc_old (w.alloc _) _ (by simp)).trans (heap_alloc_new w _), (by have := heap_alloc_new (w.alloc (.cells #[.int .i64 0, .bool false, .int .i64 0, .int .i64 0, .int .i64 0, .slice none 0 0] 83)) (.cells #[.int .i64 0, .bool false, .int .i64 0, .int .i64 0, .int .i64 0, .slice none 0 0] 83 (0, 0)); simpa using this), by simp, ((Keep.refl (fun _ => False) w).alloc _).alloc _, ((Keep.refl (fun _ => False) w).alloc _).alloc _ |>.cell (fun h => h) x0⟩ ?_
  rintro X hX
  have HX := Lib.hid hX
  clear hX
  obtain ⟨r0, r1, r2, r3, r4, r5, rf⟩ := cells6 HX.out.1
  obtain ⟨q0, q1, q2, q3, q4, q5, qf⟩ := cells6 HX.out.2.1
  have y0 := HX.out.2.2.2.2
  go_wp2_with fail
  have KK := keepS6 X w.heap.size (.int .i64 0) (.bool false) (.int .i64 0) (.int .i64 0) (.int .i64 0) (.slice none 0 0)
  have HS := stored6 (HX.out.1) (.int .i64 0) (.bool false) (.int .i64 0) (.int .i64 0) (.int .i64 0) (.slice none 0 0)
  generalize ((((((X.setCell ⟨w.heap.size, 0, none⟩ (.int .i64 0)).setCell ⟨w.heap.size, 1, none⟩ (.bool false)).setCell ⟨w.heap.size, 2, none⟩ (.int .i64 0)).setCell ⟨w.heap.size, 3, none⟩ (.int .i64 0)).setCell ⟨w.heap.size, 4, none⟩ (.int .i64 0)).setCell ⟨w.heap.size, 5, none⟩ (.slice none 0 0)) = W7 at KK HS ⊢
  exact bodyPost_ret (results_cmd3 rfl _ _ w.heap.size _ _ _ _ _ _ rfl (show W7.heap[w.heap.size]? = _ from HS) _ _ rfl rfl) rfl ⟨none, 0, 0, rfl, By.nil _ _, ((HX.out.2.2.2.1).transQ KK (Nat.le_refl _)).to_below'⟩
set_option maxHeartbeats 4000000 in
theorem rg_zero (F : Nat → Prop) (a n c o g : Nat) (A : Option Addr) (hA : A = some ⟨g, o, none⟩) (w : World) (hn : n ≤ 1099511627776) (ha : a ≤ n) (hbc : n ≤ c) (hcm : c ≤ maxLen) (hc : ¬ c = a) (h1 : a < n) (x0 : w.cell? ⟨g, o + a, none⟩ = some (.int .u8 (0))) :
    Calls Try.prog 62 #[.slice A n c, .int .i64 (a : Nat)] w (RGPost F w (zeroC, (a : Int) + 1, 0)) := by
  have f0 : (0 : Int) ≤ (a : Int) := by omega
  have f1 : (a : Int) ≤ (n : Int) := by omega
  have f2 : (a : Int) ≤ (c : Int) := by omega
  have f3 : a ≤ c := by omega
  have m0 : (a : Int) < (n : Int) := by omega
  have ew : IntKind.i64.wrap ((a : Int) + 1) = (a : Int) + 1 := IntWalk.i64_in _ (by omega)
  go_enter Try.func62, Try.ntmps62
  go_upto_region 5 with fail
  subst hA
  refine wp_world (S := fun X => X.heap[w.heap.size]? = some (.cells #[.int .i64 0, .bool false, .int .i64 0, .int .i64 0, .int .i64 0, .slice none 0 0] 83 (0, 0)) ∧ X.heap[w.heap.size + 1]? = some (.cells #[.int .i64 0, .bool false, .int .i64 0, .int .i64 0, .int .i64 0, .slice none 0 0] 83 (0, 0)) ∧ X.heap.size = w.heap.size + 2 ∧ Keep (fun _ => False) w X ∧ X.cell? ⟨g, o + a, none⟩ = some (.int .u8 (0))) ⟨(heap_alloc_old (w.alloc _) _ (by simp)).trans (heap_alloc_new w _), (by have := heap_alloc_new (w.alloc (.cells #[.int .i64 0, .bool false, .int .i64 0, .int .i64 0, .int .i64 0, .slice none 0 0] 83)) (.cells #[.int .i64 0, .bool false, .int .i64 0, .int .i64 0, .int .i64 0, .slice none 0 0] 83 (0, 0)); simpa using this), by simp, ((Keep.refl (fun _ => False) w).alloc _).alloc _, ((Keep.refl (fun _ => False) w).alloc _).alloc _ |>.cell (fun h => h) x0⟩ ?_
  rintro X hX
  have HX := Lib.hid hX
  clear hX
  obtain ⟨r0, r1, r2, r3, r4, r5, rf⟩ := cells6 HX.out.1
  obtain ⟨q0, q1, q2, q3, q4, q5, qf⟩ := cells6 HX.out.2.1
  have y0 := HX.out.2.2.2.2
  go_wp2_with fail
  have KK := keepS6 X w.heap.size (.int .i64 0) (.bool false) (.int .i64 0) (.int .i64 0) (.int .i64 0) (.slice none 0 0)
  have HS := stored6 (HX.out.1) (.int .i64 0) (.bool false) (.int .i64 0) (.int .i64 0) (.int .i64 0) (.slice none 0 0)
  generalize ((((((X.setCell ⟨w.heap.size, 0, none⟩ (.int .i64 0)).setCell ⟨w.heap.size, 1, none⟩ (.bool false)).setCell ⟨w.heap.size, 2, none⟩ (.int .i64 0)).setCell ⟨w.heap.size, 3, none⟩ (.int .i64 0)).setCell ⟨w.heap.size, 4, none⟩ (.int .i64 0)).setCell ⟨w.heap.size, 5, none⟩ (.slice none 0 0)) = W7 at KK HS ⊢
  exact bodyPost_ret (results_cmd3 rfl _ _ w.heap.size _ _ _ _ _ _ rfl (show W7.heap[w.heap.size]? = _ from HS) _ _ rfl rfl) rfl ⟨none, 0, 0, rfl, By.nil _ _, ((HX.out.2.2.2.1).transQ KK (Nat.le_refl _)).to_below'⟩
set_option maxHeartbeats 4000000 in
theorem rg_one (F : Nat → Prop) (a n c o g : Nat) (A : Option Addr) (hA : A = some ⟨g, o, none⟩) (w : World) (hn : n ≤ 1099511627776) (ha : a ≤ n) (hbc : n ≤ c) (hcm : c ≤ maxLen) (hc : ¬ c = a) (t0 : Int) (h1 : a < n) (x0 : w.cell? ⟨g, o + a, none⟩ = some (.int .u8 (t0))) (h3 : 1 ≤ t0 ∧ t0 ≤ 3) (h2 : n = a + 1) :
    Calls Try.prog 62 #[.slice A n c, .int .i64 (a : Nat)] w (RGPost F w (zeroC, 0, 12)) := by
  have f0 : (0 : Int) ≤ (a : Int) := by omega
  have f1 : (a : Int) ≤ (n : Int) := by omega
  have f2 : (a : Int) ≤ (c : Int) := by omega
  have f3 : a ≤ c := by omega
  obtain ⟨h3a, h3b⟩ := h3
  have m0 : (a : Int) < (n : Int) := by omega
  have m1 : (n : Int) = (a : Int) + 1 := by omega
  have ew : IntKind.i64.wrap t0 = t0 := IntWalk.i64_in _ (by omega)
  go_enter Try.func62, Try.ntmps62
  go_upto_region 5 with fail
  subst hA
  refine wp_world (S := fun X => X.heap[w.heap.size]? = some (.cells #[.int .i64 0, .bool false, .int .i64 0, .int .i64 0, .int .i64 0, .slice none 0 0] 83 (0, 0)) ∧ X.heap[w.heap.size + 1]? = some (.cells #[.int .i64 0, .bool false, .int .i64 0, .int .i64 0, .int .i64 0, .slice none 0 0] 83 (0, 0)) ∧ X.heap.size = w.heap.size + 2 ∧ Keep (fun _ => False) w X ∧ X.cell? ⟨g, o + a, none⟩ = some (.int .u8 (t0))) ⟨(heap_alloc_old (w.alloc _) _ (by simp)).trans (heap_alloc_new w _), (by have := heap_alloc_new (w.alloc (.cells #[.int .i64 0, .bool false, .int .i64 0, .int .i64 0, .int .i64 0, .slice none 0 0] 83)) (.cells #[.int .i64 0, .bool false, .int .i64 0, .int .i64 0, .int .i64 0, .slice none 0 0] 83 (0, 0)); simpa using this), by simp, ((Keep.refl (fun _ => False) w).alloc _).alloc _, ((Keep.refl (fun _ => False) w).alloc _).alloc _ |>.cell (fun h => h) x0⟩ ?_
  rintro X hX
  have HX := Lib.hid hX
  clear hX
  obtain ⟨r0, r1, r2, r3, r4, r5, rf⟩ := cells6 HX.out.1
  obtain ⟨q0, q1, q2, q3, q4, q5, qf⟩ := cells6 HX.out.2.1
  have y0 := HX.out.2.2.2.2
  go_wp2_with fail
  have KK := keepS6 X w.heap.size (.int .i64 0) (.bool false) (.int .i64 0) (.int .i64 0) (.int .i64 0) (.slice none 0 0)
  have HS := stored6 (HX.out.1) (.int .i64 0) (.bool false) (.int .i64 0) (.int .i64 0) (.int .i64 0) (.slice none 0 0)
  generalize ((((((X.setCell ⟨w.heap.size, 0, none⟩ (.int .i64 0)).setCell ⟨w.heap.size, 1, none⟩ (.bool false)).setCell ⟨w.heap.size, 2, none⟩ (.int .i64 0)).setCell ⟨w.heap.size, 3, none⟩ (.int .i64 0)).setCell ⟨w.heap.size, 4, none⟩ (.int .i64 0)).setCell ⟨w.heap.size, 5, none⟩ (.slice none 0 0)) = W7 at KK HS ⊢
  exact bodyPost_ret (results_cmd3 rfl _ _ w.heap.size _ _ _ _ _ _ rfl (show W7.heap[w.heap.size]? = _ from HS) _ _ rfl rfl) rfl ⟨none, 0, 0, rfl, By.nil _ _, ((HX.out.2.2.2.1).transQ KK (Nat.le_refl _)).to_below'⟩
set_option maxHeartbeats 4000000 in
theorem rg_big1 (F : Nat → Prop) (a n c o g : Nat) (A : Option Addr) (hA : A = some ⟨g, o, none⟩) (w : World) (hn : n ≤ 1099511627776) (ha : a ≤ n) (hbc : n ≤ c) (hcm : c ≤ maxLen) (hc : ¬ c = a) (t0 t1 : Int) (h1 : a < n) (x0 : w.cell? ⟨g, o + a, none⟩ = some (.int .u8 (t0))) (h2 : a + 1 < n) (x1 : w.cell? ⟨g, o + a + 1, none⟩ = some (.int .u8 (t1))) (h3 : 1 ≤ t0 ∧ t0 ≤ 3) (h4 : 1 < t1) :
    Calls Try.prog 62 #[.slice A n c, .int .i64 (a : Nat)] w (RGPost F w (zeroC, 0, 11)) := by
  have f0 : (0 : Int) ≤ (a : Int) := by omega
  have f1 : (a : Int) ≤ (n : Int) := by omega
  have f2 : (a : Int) ≤ (c : Int) := by omega
  have f3 : a ≤ c := by omega
  obtain ⟨h3a, h3b⟩ := h3
  have m0 : (a : Int) < (n : Int) := by omega
  have m1 : (a : Int) + 1 < (n : Int) := by omega
  have ew : IntKind.i64.wrap t0 = t0 := IntWalk.i64_in _ (by omega)
  go_enter Try.func62, Try.ntmps62
  go_upto_region 5 with fail
  subst hA
  refine wp_world (S := fun X => X.heap[w.heap.size]? = some (.cells #[.int .i64 0, .bool false, .int .i64 0, .int .i64 0, .int .i64 0, .slice none 0 0] 83 (0, 0)) ∧ X.heap[w.heap.size + 1]? = some (.cells #[.int .i64 0, .bool false, .int .i64 0, .int .i64 0, .int .i64 0, .slice none 0 0] 83 (0, 0)) ∧ X.heap.size = w.heap.size + 2 ∧ Keep (fun _ => False) w X ∧ X.cell? ⟨g, o + a, none⟩ = some (.int .u8 (t0)) ∧ X.cell? ⟨g, o + a + 1, none⟩ = some (.int .u8 (t1))) ⟨(heap_alloc_old (w.alloc _) _ (by simp)).trans (heap_alloc_new w _), (by have := heap_alloc_new (w.alloc (.cells #[.int .i64 0, .bool false, .int .i64 0, .int .i64 0, .int .i64 0, .slice none 0 0] 83)) (.cells #[.int .i64 0, .bool false, .int .i64 0, .int .i64 0, .int .i64 0, .slice none 0 0] 83 (0, 0)); simpa using this), by simp, ((Keep.refl (fun _ => False) w).alloc _).alloc _, ((Keep.refl (fun _ => False) w).alloc _).alloc _ |>.cell (fun h => h) x0, ((Keep.refl (fun _ => False) w).alloc _).alloc _ |>.cell (fun h => h) x1⟩ ?_
  rintro X hX
  have HX := Lib.hid hX
  clear hX
  obtain ⟨r0, r1, r2, r3, r4, r5, rf⟩ := cells6 HX.out.1
  obtain ⟨q0, q1, q2, q3, q4, q5, qf⟩ := cells6 HX.out.2.1
  have y0 := HX.out.2.2.2.2.1
  have y1 := HX.out.2.2.2.2.2
  go_wp2_with fail
  have KK := keepS6 X w.heap.size (.int .i64 0) (.bool false) (.int .i64 0) (.int .i64 0) (.int .i64 0) (.slice none 0 0)
  have HS := stored6 (HX.out.1) (.int .i64 0) (.bool false) (.int .i64 0) (.int .i64 0) (.int .i64 0) (.slice none 0 0)
  generalize ((((((X.setCell ⟨w.heap.size, 0, none⟩ (.int .i64 0)).setCell ⟨w.heap.size, 1, none⟩ (.bool false)).setCell ⟨w.heap.size, 2, none⟩ (.int .i64 0)).setCell ⟨w.heap.size, 3, none⟩ (.int .i64 0)).setCell ⟨w.heap.size, 4, none⟩ (.int .i64 0)).setCell ⟨w.heap.size, 5, none⟩ (.slice none 0 0)) = W7 at KK HS ⊢
  exact bodyPost_ret (results_cmd3 rfl _ _ w.heap.size _ _ _ _ _ _ rfl (show W7.heap[w.heap.size]? = _ from HS) _ _ rfl rfl) rfl ⟨none, 0, 0, rfl, By.nil _ _, ((HX.out.2.2.2.1).transQ KK (Nat.le_refl _)).to_below'⟩
set_option maxHeartbeats 4000000 in
theorem rg_l1_in (F : Nat → Prop) (a n c o g : Nat) (A : Option Addr) (hA : A = some ⟨g, o, none⟩) (w : World) (hn : n ≤ 1099511627776) (ha : a ≤ n) (hbc : n ≤ c) (hcm : c ≤ maxLen) (hc : ¬ c = a) (idx gen comp z : Int) (k1 k2 k3 : Bool) (h1 : a < n) (x0 : w.cell? ⟨g, o + a, none⟩ = some (.int .u8 (1))) (h2 : a + 1 < n) (x1 : w.cell? ⟨g, o + a + 1, none⟩ = some (.int .u8 (1))) (G2 : GetC w g (o + a) (n - a) (c - a) 2 8 idx k1) (hE : ¬ (n : Int) < (a : Int) + 10) :
    Calls Try.prog 62 #[.slice A n c, .int .i64 (a : Nat)] w (RGPost F w (⟨1, true, idx, 0, 0, []⟩, (a : Int) + 10, 0)) := by
  have f0 : (0 : Int) ≤ (a : Int) := by omega
  have f1 : (a : Int) ≤ (n : Int) := by omega
  have f2 : (a : Int) ≤ (c : Int) := by omega
  have f3 : a ≤ c := by omega
  have m0 : (a : Int) < (n : Int) := by omega
  have m1 : (a : Int) + 1 < (n : Int) := by omega
  go_enter Try.func62, Try.ntmps62
  go_upto_region 5 with fail
  subst hA
  refine wp_world (S := fun X => X.heap[w.heap.size]? = some (.cells #[.int .i64 0, .bool false, .int .i64 0, .int .i64 0, .int .i64 0, .slice none 0 0] 83 (0, 0)) ∧ X.heap[w.heap.size + 1]? = some (.cells #[.int .i64 0, .bool false, .int .i64 0, .int .i64 0, .int .i64 0, .slice none 0 0] 83 (0, 0)) ∧ X.heap.size = w.heap.size + 2 ∧ Keep (fun _ => False) w X ∧ X.cell? ⟨g, o + a, none⟩ = some (.int .u8 (1)) ∧ X.cell? ⟨g, o + a + 1, none⟩ = some (.int .u8 (1))) ⟨(heap_alloc_old (w.alloc _) _ (by simp)).trans (heap_alloc_new w _), (by have := heap_alloc_new (w.alloc (.cells #[.int .i64 0, .bool false, .int .i64 0, .int .i64 0, .int .i64 0, .slice none 0 0] 83)) (.cells #[.int .i64 0, .bool false, .int .i64 0, .int .i64 0, .int .i64 0, .slice none 0 0] 83 (0, 0)); simpa using this), by simp, ((Keep.refl (fun _ => False) w).alloc _).alloc _, ((Keep.refl (fun _ => False) w).alloc _).alloc _ |>.cell (fun h => h) x0, ((Keep.refl (fun _ => False) w).alloc _).alloc _ |>.cell (fun h => h) x1⟩ ?_
  rintro X hX
  have HX := Lib.hid hX
  clear hX
  obtain ⟨r0, r1, r2, r3, r4, r5, rf⟩ := cells6 HX.out.1
  obtain ⟨q0, q1, q2, q3, q4, q5, qf⟩ := cells6 HX.out.2.1
  have y0 := HX.out.2.2.2.2.1
  have y1 := HX.out.2.2.2.2.2
  go_upto_region 17 with fail
  obtain ⟨q, hq⟩ : ∃ q, q = X.heap.size := ⟨_, rfl⟩
  have hq2 : w.heap.size + 1 < q := by have := HX.out.2.2.1; omega
  refine wp_world (S := fun Y => GSt w Y q ⟨1, true, 0, 0, 0, []⟩ (.slice none 0 0)) ⟨(heap_alloc_old X _ (by omega)).trans HX.out.1, (heap_alloc_old X _ (by omega)).trans HX.out.2.1, by rw [hq]; exact heap_alloc_new X _, hq2, HX.out.2.2.2.1.alloc _⟩ ?_
  rw [← hq]
  clear hq HX r0 r1 r2 r3 r4 r5 rf q0 q1 q2 q3 q4 q5 qf y0 y1
  intro Y0 hY
  have HY := Lib.hid hY
  clear hY
  have nq : w.heap.size ≤ q := by omega
  have nq1 : w.heap.size ≠ q := by omega
  have nq2 : q ≠ w.heap.size := by omega
  have nq3 : w.heap.size + 1 ≠ q := by omega
  have nq4 : q ≠ w.heap.size + 1 := by omega
  have H2 := Lib.hid (show ∀ W, Keep (fun _ => False) w W → Calls Try.prog 61 #[.slice (some ⟨g, o + a, none⟩) (n - a) (c - a), .int .i64 (2), .int .i64 8] W (fun e w' => e = .returned (.tuple #[.int .i64 idx, .bool k1]) ∧ W = w') from G2)
  obtain ⟨r0, r1, r2, r3, r4, r5, rf⟩ := cells6 HY.out.2.2.1
  have hK := HY.out.2.2.2.2
  go_upto_region 21 with (first | (go_at_call 61; (with_reducible refine (H2.out _ (by exact (by repeat first | assumption | exact Keep.refl _ _ | refine Keep.alloc ?_ _ | refine Keep.drew ?_ | refine Keep.drewN ?_ _ | refine Keep.setCell ?_ (.inl (by first | omega | (simp; done) | (simp; omega))) _))).mono ?_); rintro e w1 ⟨rfl, rfl⟩) | fail)
  refine wp_world (S := fun Y => GSt w Y q ⟨1, true, idx, 0, 0, []⟩ (.slice none 0 0)) (by first | (with_reducible exact HY.out.set 2 (.int .i64 idx) ⟨1, true, idx, 0, 0, []⟩ (.slice none 0 0) rfl) | (with_reducible exact GSt.drew (HY.out.set 2 (.int .i64 idx) ⟨1, true, idx, 0, 0, []⟩ (.slice none 0 0) rfl)) | (with_reducible exact GSt.drew (GSt.drew (HY.out.set 2 (.int .i64 idx) ⟨1, true, idx, 0, 0, []⟩ (.slice none 0 0) rfl)))) ?_
  clear r0 r1 r2 r3 r4 r5 rf hK HY
  intro Y1 hY
  have HY := Lib.hid hY
  clear hY
  obtain ⟨r0, r1, r2, r3, r4, r5, rf⟩ := cells6 HY.out.2.2.1
  have hK := HY.out.2.2.2.2
  obtain ⟨s0, s1, s2, s3, s4, s5, sf⟩ := cells6 HY.out.1
  obtain ⟨u0, u1, u2, u3, u4, u5, uf⟩ := cells6 HY.out.2.1
  have ew : IntKind.i64.wrap ((a : Int) + 10) = (a : Int) + 10 := IntWalk.i64_in _ (by omega)
  go_wp2_with fail
  have KK := keepS6 Y1 w.heap.size (.int .i64 1) (.bool true) (.int .i64 idx) (.int .i64 0) (.int .i64 0) (.slice none 0 0)
  have HS := stored6 HY.out.1 (.int .i64 1) (.bool true) (.int .i64 idx) (.int .i64 0) (.int .i64 0) (.slice none 0 0)
  generalize ((((((Y1.setCell ⟨w.heap.size, 0, none⟩ (.int .i64 1)).setCell ⟨w.heap.size, 1, none⟩ (.bool true)).setCell ⟨w.heap.size, 2, none⟩ (.int .i64 idx)).setCell ⟨w.heap.size, 3, none⟩ (.int .i64 0)).setCell ⟨w.heap.size, 4, none⟩ (.int .i64 0)).setCell ⟨w.heap.size, 5, none⟩ (.slice none 0 0)) = W7 at KK HS ⊢
  exact bodyPost_ret (results_cmd3 rfl _ _ w.heap.size _ _ _ _ _ _ rfl (show W7.heap[w.heap.size]? = _ from HS) _ _ rfl rfl) rfl ⟨none, 0, 0, rfl, By.nil _ _, (HY.out.2.2.2.2.transQ KK (Nat.le_refl _)).to_below'⟩
set_option maxHeartbeats 4000000 in
theorem rg_l1_out (F : Nat → Prop) (a n c o g : Nat) (A : Option Addr) (hA : A = some ⟨g, o, none⟩) (w : World) (hn : n ≤ 1099511627776) (ha : a ≤ n) (hbc : n ≤ c) (hcm : c ≤ maxLen) (hc : ¬ c = a) (idx gen comp z : Int) (k1 k2 k3 : Bool) (h1 : a < n) (x0 : w.cell? ⟨g, o + a, none⟩ = some (.int .u8 (1))) (h2 : a + 1 < n) (x1 : w.cell? ⟨g, o + a + 1, none⟩ = some (.int .u8 (1))) (G2 : GetC w g (o + a) (n - a) (c - a) 2 8 idx k1) (hE : (n : Int) < (a : Int) + 10) :
    Calls Try.prog 62 #[.slice A n c, .int .i64 (a : Nat)] w (RGPost F w (zeroC, 0, 12)) := by
  have f0 : (0 : Int) ≤ (a : Int) := by omega
  have f1 : (a : Int) ≤ (n : Int) := by omega
  have f2 : (a : Int) ≤ (c : Int) := by omega
  have f3 : a ≤ c := by omega
  have m0 : (a : Int) < (n : Int) := by omega
  have m1 : (a : Int) + 1 < (n : Int) := by omega
  go_enter Try.func62, Try.ntmps62
  go_upto_region 5 with fail
  subst hA
  refine wp_world (S := fun X => X.heap[w.heap.size]? = some (.cells #[.int .i64 0, .bool false, .int .i64 0, .int .i64 0, .int .i64 0, .slice none 0 0] 83 (0, 0)) ∧ X.heap[w.heap.size + 1]? = some (.cells #[.int .i64 0, .bool false, .int .i64 0, .int .i64 0, .int .i64 0, .slice none 0 0] 83 (0, 0)) ∧ X.heap.size = w.heap.size + 2 ∧ Keep (fun _ => False) w X ∧ X.cell? ⟨g, o + a, none⟩ = some (.int .u8 (1)) ∧ X.cell? ⟨g, o + a + 1, none⟩ = some (.int .u8 (1))) ⟨(heap_alloc_old (w.alloc _) _ (by simp)).trans (heap_alloc_new w _), (by have := heap_alloc_new (w.alloc (.cells #[.int .i64 0, .bool false, .int .i64 0, .int .i64 0, .int .i64 0, .slice none 0 0] 83)) (.cells #[.int .i64 0, .bool false, .int .i64 0, .int .i64 0, .int .i64 0, .slice none 0 0] 83 (0, 0)); simpa using this), by simp, ((Keep.refl (fun _ => False) w).alloc _).alloc _, ((Keep.refl (fun _ => False) w).alloc _).alloc _ |>.cell (fun h => h) x0, ((Keep.refl (fun _ => False) w).alloc _).alloc _ |>.cell (fun h => h) x1⟩ ?_
  rintro X hX
  have HX := Lib.hid hX
  clear hX
  obtain ⟨r0, r1, r2, r3, r4, r5, rf⟩ := cells6 HX.out.1
  obtain ⟨q0, q1, q2, q3, q4, q5, qf⟩ := cells6 HX.out.2.1
  have y0 := HX.out.2.2.2.2.1
  have y1 := HX.out.2.2.2.2.2
  go_upto_region 17 with fail
  obtain ⟨q, hq⟩ : ∃ q, q = X.heap.size := ⟨_, rfl⟩
  have hq2 : w.heap.size + 1 < q := by have := HX.out.2.2.1; omega
  refine wp_world (S := fun Y => GSt w Y q ⟨1, true, 0, 0, 0, []⟩ (.slice none 0 0)) ⟨(heap_alloc_old X _ (by omega)).trans HX.out.1, (heap_alloc_old X _ (by omega)).trans HX.out.2.1, by rw [hq]; exact heap_alloc_new X _, hq2, HX.out.2.2.2.1.alloc _⟩ ?_
  rw [← hq]
  clear hq HX r0 r1 r2 r3 r4 r5 rf q0 q1 q2 q3 q4 q5 qf y0 y1
  intro Y0 hY
  have HY := Lib.hid hY
  clear hY
  have nq : w.heap.size ≤ q := by omega
  have nq1 : w.heap.size ≠ q := by omega
  have nq2 : q ≠ w.heap.size := by omega
  have nq3 : w.heap.size + 1 ≠ q := by omega
  have nq4 : q ≠ w.heap.size + 1 := by omega
  have H2 := Lib.hid (show ∀ W, Keep (fun _ => False) w W → Calls Try.prog 61 #[.slice (some ⟨g, o + a, none⟩) (n - a) (c - a), .int .i64 (2), .int .i64 8] W (fun e w' => e = .returned (.tuple #[.int .i64 idx, .bool k1]) ∧ W = w') from G2)
  obtain ⟨r0, r1, r2, r3, r4, r5, rf⟩ := cells6 HY.out.2.2.1
  have hK := HY.out.2.2.2.2
  go_upto_region 21 with (first | (go_at_call 61; (with_reducible refine (H2.out _ (by exact (by repeat first | assumption | exact Keep.refl _ _ | refine Keep.alloc ?_ _ | refine Keep.drew ?_ | refine Keep.drewN ?_ _ | refine Keep.setCell ?_ (.inl (by first | omega | (simp; done) | (simp; omega))) _))).mono ?_); rintro e w1 ⟨rfl, rfl⟩) | fail)
  refine wp_world (S := fun Y => GSt w Y q ⟨1, true, idx, 0, 0, []⟩ (.slice none 0 0)) (by first | (with_reducible exact HY.out.set 2 (.int .i64 idx) ⟨1, true, idx, 0, 0, []⟩ (.slice none 0 0) rfl) | (with_reducible exact GSt.drew (HY.out.set 2 (.int .i64 idx) ⟨1, true, idx, 0, 0, []⟩ (.slice none 0 0) rfl)) | (with_reducible exact GSt.drew (GSt.drew (HY.out.set 2 (.int .i64 idx) ⟨1, true, idx, 0, 0, []⟩ (.slice none 0 0) rfl)))) ?_
  clear r0 r1 r2 r3 r4 r5 rf hK HY
  intro Y1 hY
  have HY := Lib.hid hY
  clear hY
  obtain ⟨r0, r1, r2, r3, r4, r5, rf⟩ := cells6 HY.out.2.2.1
  have hK := HY.out.2.2.2.2
  obtain ⟨s0, s1, s2, s3, s4, s5, sf⟩ := cells6 HY.out.1
  obtain ⟨u0, u1, u2, u3, u4, u5, uf⟩ := cells6 HY.out.2.1
  have ew : IntKind.i64.wrap ((a : Int) + 10) = (a : Int) + 10 := IntWalk.i64_in _ (by omega)
  go_wp2_with fail
  have KK := keepS6 Y1 w.heap.size (.int .i64 0) (.bool false) (.int .i64 0) (.int .i64 0) (.int .i64 0) (.slice none 0 0)
  have HS := stored6 (HY.out.1) (.int .i64 0) (.bool false) (.int .i64 0) (.int .i64 0) (.int .i64 0) (.slice none 0 0)
  generalize ((((((Y1.setCell ⟨w.heap.size, 0, none⟩ (.int .i64 0)).setCell ⟨w.heap.size, 1, none⟩ (.bool false)).setCell ⟨w.heap.size, 2, none⟩ (.int .i64 0)).setCell ⟨w.heap.size, 3, none⟩ (.int .i64 0)).setCell ⟨w.heap.size, 4, none⟩ (.int .i64 0)).setCell ⟨w.heap.size, 5, none⟩ (.slice none 0 0)) = W7 at KK HS ⊢
  exact bodyPost_ret (results_cmd3 rfl _ _ w.heap.size _ _ _ _ _ _ rfl (show W7.heap[w.heap.size]? = _ from HS) _ _ rfl rfl) rfl ⟨none, 0, 0, rfl, By.nil _ _, ((HY.out.2.2.2.2).transQ KK (Nat.le_refl _)).to_below'⟩
set_option maxHeartbeats 4000000 in
theorem rg_l3_in (F : Nat → Prop) (a n c o g : Nat) (A : Option Addr) (hA : A = some ⟨g, o, none⟩) (w : World) (hn : n ≤ 1099511627776) (ha : a ≤ n) (hbc : n ≤ c) (hcm : c ≤ maxLen) (hc : ¬ c = a) (idx gen comp z : Int) (k1 k2 k3 : Bool) (h1 : a < n) (x0 : w.cell? ⟨g, o + a, none⟩ = some (.int .u8 (3))) (h2 : a + 1 < n) (x1 : w.cell? ⟨g, o + a + 1, none⟩ = some (.int .u8 (1))) (G2 : GetC w g (o + a) (n - a) (c - a) 2 8 idx k1) (G4 : GetC w g (o + a) (n - a) (c - a) 10 8 comp k3) (hE : ¬ (n : Int) < (a : Int) + 18) :
    Calls Try.prog 62 #[.slice A n c, .int .i64 (a : Nat)] w (RGPost F w (⟨3, true, idx, 0, comp, []⟩, (a : Int) + 18, 0)) := by
  have f0 : (0 : Int) ≤ (a : Int) := by omega
  have f1 : (a : Int) ≤ (n : Int) := by omega
  have f2 : (a : Int) ≤ (c : Int) := by omega
  have f3 : a ≤ c := by omega
  have m0 : (a : Int) < (n : Int) := by omega
  have m1 : (a : Int) + 1 < (n : Int) := by omega
  go_enter Try.func62, Try.ntmps62
  go_upto_region 5 with fail
  subst hA
  refine wp_world (S := fun X => X.heap[w.heap.size]? = some (.cells #[.int .i64 0, .bool false, .int .i64 0, .int .i64 0, .int .i64 0, .slice none 0 0] 83 (0, 0)) ∧ X.heap[w.heap.size + 1]? = some (.cells #[.int .i64 0, .bool false, .int .i64 0, .int .i64 0, .int .i64 0, .slice none 0 0] 83 (0, 0)) ∧ X.heap.size = w.heap.size + 2 ∧ Keep (fun _ => False) w X ∧ X.cell? ⟨g, o + a, none⟩ = some (.int .u8 (3)) ∧ X.cell? ⟨g, o + a + 1, none⟩ = some (.int .u8 (1))) ⟨(heap_alloc_old (w.alloc _) _ (by simp)).trans (heap_alloc_new w _), (by have := heap_alloc_new (w.alloc (.cells #[.int .i64 0, .bool false, .int .i64 0, .int .i64 0, .int .i64 0, .slice none 0 0] 83)) (.cells #[.int .i64 0, .bool false, .int .i64 0, .int .i64 0, .int .i64 0, .slice none 0 0] 83 (0, 0)); simpa using this), by simp, ((Keep.refl (fun _ => False) w).alloc _).alloc _, ((Keep.refl (fun _ => False) w).alloc _).alloc _ |>.cell (fun h => h) x0, ((Keep.refl (fun _ => False) w).alloc _).alloc _ |>.cell (fun h => h) x1⟩ ?_
  rintro X hX
  have HX := Lib.hid hX
  clear hX
  obtain ⟨r0, r1, r2, r3, r4, r5, rf⟩ := cells6 HX.out.1
  obtain ⟨q0, q1, q2, q3, q4, q5, qf⟩ := cells6 HX.out.2.1
  have y0 := HX.out.2.2.2.2.1
  have y1 := HX.out.2.2.2.2.2
  go_upto_region 17 with fail
  obtain ⟨q, hq⟩ : ∃ q, q = X.heap.size := ⟨_, rfl⟩
  have hq2 : w.heap.size + 1 < q := by have := HX.out.2.2.1; omega
  refine wp_world (S := fun Y => GSt w Y q ⟨3, true, 0, 0, 0, []⟩ (.slice none 0 0)) ⟨(heap_alloc_old X _ (by omega)).trans HX.out.1, (heap_alloc_old X _ (by omega)).trans HX.out.2.1, by rw [hq]; exact heap_alloc_new X _, hq2, HX.out.2.2.2.1.alloc _⟩ ?_
  rw [← hq]
  clear hq HX r0 r1 r2 r3 r4 r5 rf q0 q1 q2 q3 q4 q5 qf y0 y1
  intro Y0 hY
  have HY := Lib.hid hY
  clear hY
  have nq : w.heap.size ≤ q := by omega
  have nq1 : w.heap.size ≠ q := by omega
  have nq2 : q ≠ w.heap.size := by omega
  have nq3 : w.heap.size + 1 ≠ q := by omega
  have nq4 : q ≠ w.heap.size + 1 := by omega
  have H2 := Lib.hid (show ∀ W, Keep (fun _ => False) w W → Calls Try.prog 61 #[.slice (some ⟨g, o + a, none⟩) (n - a) (c - a), .int .i64 (2), .int .i64 8] W (fun e w' => e = .returned (.tuple #[.int .i64 idx, .bool k1]) ∧ W = w') from G2)
  obtain ⟨r0, r1, r2, r3, r4, r5, rf⟩ := cells6 HY.out.2.2.1
  have hK := HY.out.2.2.2.2
  go_upto_region 21 with (first | (go_at_call 61; (with_reducible refine (H2.out _ (by exact (by repeat first | assumption | exact Keep.refl _ _ | refine Keep.alloc ?_ _ | refine Keep.drew ?_ | refine Keep.drewN ?_ _ | refine Keep.setCell ?_ (.inl (by first | omega | (simp; done) | (simp; omega))) _))).mono ?_); rintro e w1 ⟨rfl, rfl⟩) | fail)
  refine wp_world (S := fun Y => GSt w Y q ⟨3, true, idx, 0, 0, []⟩ (.slice none 0 0)) (by first | (with_reducible exact HY.out.set 2 (.int .i64 idx) ⟨3, true, idx, 0, 0, []⟩ (.slice none 0 0) rfl) | (with_reducible exact GSt.drew (HY.out.set 2 (.int .i64 idx) ⟨3, true, idx, 0, 0, []⟩ (.slice none 0 0) rfl)) | (with_reducible exact GSt.drew (GSt.drew (HY.out.set 2 (.int .i64 idx) ⟨3, true, idx, 0, 0, []⟩ (.slice none 0 0) rfl)))) ?_
  clear r0 r1 r2 r3 r4 r5 rf hK HY
  intro Y1 hY
  have HY := Lib.hid hY
  clear hY
  have H4 := Lib.hid (show ∀ W, Keep (fun _ => False) w W → Calls Try.prog 61 #[.slice (some ⟨g, o + a, none⟩) (n - a) (c - a), .int .i64 (10), .int .i64 8] W (fun e w' => e = .returned (.tuple #[.int .i64 comp, .bool k3]) ∧ W = w') from G4)
  obtain ⟨r0, r1, r2, r3, r4, r5, rf⟩ := cells6 HY.out.2.2.1
  have hK := HY.out.2.2.2.2
  go_upto_region 25 with (first | (go_at_call 61; (with_reducible refine (H4.out _ (by exact (by repeat first | assumption | exact Keep.refl _ _ | refine Keep.alloc ?_ _ | refine Keep.drew ?_ | refine Keep.drewN ?_ _ | refine Keep.setCell ?_ (.inl (by first | omega | (simp; done) | (simp; omega))) _))).mono ?_); rintro e w1 ⟨rfl, rfl⟩) | fail)
  refine wp_world (S := fun Y => GSt w Y q ⟨3, true, idx, 0, comp, []⟩ (.slice none 0 0)) (by first | (with_reducible exact HY.out.set 4 (.int .i64 comp) ⟨3, true, idx, 0, comp, []⟩ (.slice none 0 0) rfl) | (with_reducible exact GSt.drew (HY.out.set 4 (.int .i64 comp) ⟨3, true, idx, 0, comp, []⟩ (.slice none 0 0) rfl)) | (with_reducible exact GSt.drew (GSt.drew (HY.out.set 4 (.int .i64 comp) ⟨3, true, idx, 0, comp, []⟩ (.slice none 0 0) rfl)))) ?_
  clear r0 r1 r2 r3 r4 r5 rf hK HY
  intro Y2 hY
  have HY := Lib.hid hY
  clear hY
  obtain ⟨r0, r1, r2, r3, r4, r5, rf⟩ := cells6 HY.out.2.2.1
  have hK := HY.out.2.2.2.2
  obtain ⟨s0, s1, s2, s3, s4, s5, sf⟩ := cells6 HY.out.1
  obtain ⟨u0, u1, u2, u3, u4, u5, uf⟩ := cells6 HY.out.2.1
  have ew : IntKind.i64.wrap ((a : Int) + 18) = (a : Int) + 18 := IntWalk.i64_in _ (by omega)
  go_wp2_with fail
  have KK := keepS6 Y2 w.heap.size (.int .i64 3) (.bool true) (.int .i64 idx) (.int .i64 0) (.int .i64 comp) (.slice none 0 0)
  have HS := stored6 HY.out.1 (.int .i64 3) (.bool true) (.int .i64 idx) (.int .i64 0) (.int .i64 comp) (.slice none 0 0)
  generalize ((((((Y2.setCell ⟨w.heap.size, 0, none⟩ (.int .i64 3)).setCell ⟨w.heap.size, 1, none⟩ (.bool true)).setCell ⟨w.heap.size, 2, none⟩ (.int .i64 idx)).setCell ⟨w.heap.size, 3, none⟩ (.int .i64 0)).setCell ⟨w.heap.size, 4, none⟩ (.int .i64 comp)).setCell ⟨w.heap.size, 5, none⟩ (.slice none 0 0)) = W7 at KK HS ⊢
  exact bodyPost_ret (results_cmd3 rfl _ _ w.heap.size _ _ _ _ _ _ rfl (show W7.heap[w.heap.size]? = _ from HS) _ _ rfl rfl) rfl ⟨none, 0, 0, rfl, By.nil _ _, (HY.out.2.2.2.2.transQ KK (Nat.le_refl _)).to_below'⟩
set_option maxHeartbeats 4000000 in
theorem rg_l3_out (F : Nat → Prop) (a n c o g : Nat) (A : Option Addr) (hA : A = some ⟨g, o, none⟩) (w : World) (hn : n ≤ 1099511627776) (ha : a ≤ n) (hbc : n ≤ c) (hcm : c ≤ maxLen) (hc : ¬ c = a) (idx gen comp z : Int) (k1 k2 k3 : Bool) (h1 : a < n) (x0 : w.cell? ⟨g, o + a, none⟩ = some (.int .u8 (3))) (h2 : a + 1 < n) (x1 : w.cell? ⟨g, o + a + 1, none⟩ = some (.int .u8 (1))) (G2 : GetC w g (o + a) (n - a) (c - a) 2 8 idx k1) (G4 : GetC w g (o + a) (n - a) (c - a) 10 8 comp k3) (hE : (n : Int) < (a : Int) + 18) :
    Calls Try.prog 62 #[.slice A n c, .int .i64 (a : Nat)] w (RGPost F w (zeroC, 0, 12)) := by
  have f0 : (0 : Int) ≤ (a : Int) := by omega
  have f1 : (a : Int) ≤ (n : Int) := by omega
  have f2 : (a : Int) ≤ (c : Int) := by omega
  have f3 : a ≤ c := by omega
  have m0 : (a : Int) < (n : Int) := by omega
  have m1 : (a : Int) + 1 < (n : Int) := by omega
  go_enter Try.func62, Try.ntmps62
  go_upto_region 5 with fail
  subst hA
  refine wp_world (S := fun X => X.heap[w.heap.size]? = some (.cells #[.int .i64 0, .bool false, .int .i64 0, .int .i64 0, .int .i64 0, .slice none 0 0] 83 (0, 0)) ∧ X.heap[w.heap.size + 1]? = some (.cells #[.int .i64 0, .bool false, .int .i64 0, .int .i64 0, .int .i64 0, .slice none 0 0] 83 (0, 0)) ∧ X.heap.size = w.heap.size + 2 ∧ Keep (fun _ => False) w X ∧ X.cell? ⟨g, o + a, none⟩ = some (.int .u8 (3)) ∧ X.cell? ⟨g, o + a + 1, none⟩ = some (.int .u8 (1))) ⟨(heap_alloc_old (w.alloc _) _ (by simp)).trans (heap_alloc_new w _), (by have := heap_alloc_new (w.alloc (.cells #[.int .i64 0, .bool false, .int .i64 0, .int .i64 0, .int .i64 0, .slice none 0 0] 83)) (.cells #[.int .i64 0, .bool false, .int .i64 0, .int .i64 0, .int .i64 0, .slice none 0 0] 83 (0, 0)); simpa using this), by simp, ((Keep.refl (fun _ => False) w).alloc _).alloc _, ((Keep.refl (fun _ => False) w).alloc _).alloc _ |>.cell (fun h => h) x0, ((Keep.refl (fun _ => False) w).alloc _).alloc _ |>.cell (fun h => h) x1⟩ ?_
  rintro X hX
  have HX := Lib.hid hX
  clear hX
  obtain ⟨r0, r1, r2, r3, r4, r5, rf⟩ := cells6 HX.out.1
  obtain ⟨q0, q1, q2, q3, q4, q5, qf⟩ := cells6 HX.out.2.1
  have y0 := HX.out.2.2.2.2.1
  have y1 := HX.out.2.2.2.2.2
  go_upto_region 17 with fail
  obtain ⟨q, hq⟩ : ∃ q, q = X.heap.size := ⟨_, rfl⟩
  have hq2 : w.heap.size + 1 < q := by have := HX.out.2.2.1; omega
  refine wp_world (S := fun Y => GSt w Y q ⟨3, true, 0, 0, 0, []⟩ (.slice none 0 0)) ⟨(heap_alloc_old X _ (by omega)).trans HX.out.1, (heap_alloc_old X _ (by omega)).trans HX.out.2.1, by rw [hq]; exact heap_alloc_new X _, hq2, HX.out.2.2.2.1.alloc _⟩ ?_
  rw [← hq]
  clear hq HX r0 r1 r2 r3 r4 r5 rf q0 q1 q2 q3 q4 q5 qf y0 y1
  intro Y0 hY
  have HY := Lib.hid hY
  clear hY
  have nq : w.heap.size ≤ q := by omega
  have nq1 : w.heap.size ≠ q := by omega
  have nq2 : q ≠ w.heap.size := by omega
  have nq3 : w.heap.size + 1 ≠ q := by omega
  have nq4 : q ≠ w.heap.size + 1 := by omega
  have H2 := Lib.hid (show ∀ W, Keep (fun _ => False) w W → Calls Try.prog 61 #[.slice (some ⟨g, o + a, none⟩) (n - a) (c - a), .int .i64 (2), .int .i64 8] W (fun e w' => e = .returned (.tuple #[.int .i64 idx, .bool k1]) ∧ W = w') from G2)
  obtain ⟨r0, r1, r2, r3, r4, r5, rf⟩ := cells6 HY.out.2.2.1
  have hK := HY.out.2.2.2.2
  go_upto_region 21 with (first | (go_at_call 61; (with_reducible refine (H2.out _ (by exact (by repeat first | assumption | exact Keep.refl _ _ | refine Keep.alloc ?_ _ | refine Keep.drew ?_ | refine Keep.drewN ?_ _ | refine Keep.setCell ?_ (.inl (by first | omega | (simp; done) | (simp; omega))) _))).mono ?_); rintro e w1 ⟨rfl, rfl⟩) | fail)
  refine wp_world (S := fun Y => GSt w Y q ⟨3, true, idx, 0, 0, []⟩ (.slice none 0 0)) (by first | (with_reducible exact HY.out.set 2 (.int .i64 idx) ⟨3, true, idx, 0, 0, []⟩ (.slice none 0 0) rfl) | (with_reducible exact GSt.drew (HY.out.set 2 (.int .i64 idx) ⟨3, true, idx, 0, 0, []⟩ (.slice none 0 0) rfl)) | (with_reducible exact GSt.drew (GSt.drew (HY.out.set 2 (.int .i64 idx) ⟨3, true, idx, 0, 0, []⟩ (.slice none 0 0) rfl)))) ?_
  clear r0 r1 r2 r3 r4 r5 rf hK HY
  intro Y1 hY
  have HY := Lib.hid hY
  clear hY
  have H4 := Lib.hid (show ∀ W, Keep (fun _ => False) w W → Calls Try.prog 61 #[.slice (some ⟨g, o + a, none⟩) (n - a) (c - a), .int .i64 (10), .int .i64 8] W (fun e w' => e = .returned (.tuple #[.int .i64 comp, .bool k3]) ∧ W = w') from G4)
  obtain ⟨r0, r1, r2, r3, r4, r5, rf⟩ := cells6 HY.out.2.2.1
  have hK := HY.out.2.2.2.2
  go_upto_region 25 with (first | (go_at_call 61; (with_reducible refine (H4.out _ (by exact (by repeat first | assumption | exact Keep.refl _ _ | refine Keep.alloc ?_ _ | refine Keep.drew ?_ | refine Keep.drewN ?_ _ | refine Keep.setCell ?_ (.inl (by first | omega | (simp; done) | (simp; omega))) _))).mono ?_); rintro e w1 ⟨rfl, rfl⟩) | fail)
  refine wp_world (S := fun Y => GSt w Y q ⟨3, true, idx, 0, comp, []⟩ (.slice none 0 0)) (by first | (with_reducible exact HY.out.set 4 (.int .i64 comp) ⟨3, true, idx, 0, comp, []⟩ (.slice none 0 0) rfl) | (with_reducible exact GSt.drew (HY.out.set 4 (.int .i64 comp) ⟨3, true, idx, 0, comp, []⟩ (.slice none 0 0) rfl)) | (with_reducible exact GSt.drew (GSt.drew (HY.out.set 4 (.int .i64 comp) ⟨3, true, idx, 0, comp, []⟩ (.slice none 0 0) rfl)))) ?_
  clear r0 r1 r2 r3 r4 r5 rf hK HY
  intro Y2 hY
  have HY := Lib.hid hY
  clear hY
  obtain ⟨r0, r1, r2, r3, r4, r5, rf⟩ := cells6 HY.out.2.2.1
  have hK := HY.out.2.2.2.2
  obtain ⟨s0, s1, s2, s3, s4, s5, sf⟩ := cells6 HY.out.1
  obtain ⟨u0, u1, u2, u3, u4, u5, uf⟩ := cells6 HY.out.2.1
  have ew : IntKind.i64.wrap ((a : Int) + 18) = (a : Int) + 18 := IntWalk.i64_in _ (by omega)
  go_wp2_with fail
  have KK := keepS6 Y2 w.heap.size (.int .i64 0) (.bool false) (.int .i64 0) (.int .i64 0) (.int .i64 0) (.slice none 0 0)
  have HS := stored6 (HY.out.1) (.int .i64 0) (.bool false) (.int .i64 0) (.int .i64 0) (.int .i64 0) (.slice none 0 0)
  generalize ((((((Y2.setCell ⟨w.heap.size, 0, none⟩ (.int .i64 0)).setCell ⟨w.heap.size, 1, none⟩ (.bool false)).setCell ⟨w.heap.size, 2, none⟩ (.int .i64 0)).setCell ⟨w.heap.size, 3, none⟩ (.int .i64 0)).setCell ⟨w.heap.size, 4, none⟩ (.int .i64 0)).setCell ⟨w.heap.size, 5, none⟩ (.slice none 0 0)) = W7 at KK HS ⊢
  exact bodyPost_ret (results_cmd3 rfl _ _ w.heap.size _ _ _ _ _ _ rfl (show W7.heap[w.heap.size]? = _ from HS) _ _ rfl rfl) rfl ⟨none, 0, 0, rfl, By.nil _ _, ((HY.out.2.2.2.2).transQ KK (Nat.le_refl _)).to_below'⟩
set_option maxHeartbeats 4000000 in
theorem rg_g1_in (F : Nat → Prop) (a n c o g : Nat) (A : Option Addr) (hA : A = some ⟨g, o, none⟩) (w : World) (hn : n ≤ 1099511627776) (ha : a ≤ n) (hbc : n ≤ c) (hcm : c ≤ maxLen) (hc : ¬ c = a) (idx gen comp z : Int) (k1 k2 k3 : Bool) (h1 : a < n) (x0 : w.cell? ⟨g, o + a, none⟩ = some (.int .u8 (1))) (h2 : a + 1 < n) (x1 : w.cell? ⟨g, o + a + 1, none⟩ = some (.int .u8 (0))) (G2 : GetC w g (o + a) (n - a) (c - a) 2 8 idx k1) (G3 : GetC w g (o + a) (n - a) (c - a) 10 8 gen k2) (hE : ¬ (n : Int) < (a : Int) + 18) :
    Calls Try.prog 62 #[.slice A n c, .int .i64 (a : Nat)] w (RGPost F w (⟨1, false, idx, gen, 0, []⟩, (a : Int) + 18, 0)) := by
  have f0 : (0 : Int) ≤ (a : Int) := by omega
  have f1 : (a : Int) ≤ (n : Int) := by omega
  have f2 : (a : Int) ≤ (c : Int) := by omega
  have f3 : a ≤ c := by omega
  have m0 : (a : Int) < (n : Int) := by omega
  have m1 : (a : Int) + 1 < (n : Int) := by omega
  go_enter Try.func62, Try.ntmps62
  go_upto_region 5 with fail
  subst hA
  refine wp_world (S := fun X => X.heap[w.heap.size]? = some (.cells #[.int .i64 0, .bool false, .int .i64 0, .int .i64 0, .int .i64 0, .slice none 0 0] 83 (0, 0)) ∧ X.heap[w.heap.size + 1]? = some (.cells #[.int .i64 0, .bool false, .int .i64 0, .int .i64 0, .int .i64 0, .slice none 0 0] 83 (0, 0)) ∧ X.heap.size = w.heap.size + 2 ∧ Keep (fun _ => False) w X ∧ X.cell? ⟨g, o + a, none⟩ = some (.int .u8 (1)) ∧ X.cell? ⟨g, o + a + 1, none⟩ = some (.int .u8 (0))) ⟨(heap_alloc_old (w.alloc _) _ (by simp)).trans (heap_alloc_new w _), (by have := heap_alloc_new (w.alloc (.cells #[.int .i64 0, .bool false, .int .i64 0, .int .i64 0, .int .i64 0, .slice none 0 0] 83)) (.cells #[.int .i64 0, .bool false, .int .i64 0, .int .i64 0, .int .i64 0, .slice none 0 0] 83 (0, 0)); simpa using this), by simp, ((Keep.refl (fun _ => False) w).alloc _).alloc _, ((Keep.refl (fun _ => False) w).alloc _).alloc _ |>.cell (fun h => h) x0, ((Keep.refl (fun _ => False) w).alloc _).alloc _ |>.cell (fun h => h) x1⟩ ?_
  rintro X hX
  have HX := Lib.hid hX
  clear hX
  obtain ⟨r0, r1, r2, r3, r4, r5, rf⟩ := cells6 HX.out.1
  obtain ⟨q0, q1, q2, q3, q4, q5, qf⟩ := cells6 HX.out.2.1
  have y0 := HX.out.2.2.2.2.1
  have y1 := HX.out.2.2.2.2.2
  go_upto_region 17 with fail
  obtain ⟨q, hq⟩ : ∃ q, q = X.heap.size := ⟨_, rfl⟩
  have hq2 : w.heap.size + 1 < q := by have := HX.out.2.2.1; omega
  refine wp_world (S := fun Y => GSt w Y q ⟨1, false, 0, 0, 0, []⟩ (.slice none 0 0)) ⟨(heap_alloc_old X _ (by omega)).trans HX.out.1, (heap_alloc_old X _ (by omega)).trans HX.out.2.1, by rw [hq]; exact heap_alloc_new X _, hq2, HX.out.2.2.2.1.alloc _⟩ ?_
  rw [← hq]
  clear hq HX r0 r1 r2 r3 r4 r5 rf q0 q1 q2 q3 q4 q5 qf y0 y1
  intro Y0 hY
  have HY := Lib.hid hY
  clear hY
  have nq : w.heap.size ≤ q := by omega
  have nq1 : w.heap.size ≠ q := by omega
  have nq2 : q ≠ w.heap.size := by omega
  have nq3 : w.heap.size + 1 ≠ q := by omega
  have nq4 : q ≠ w.heap.size + 1 := by omega
  have H2 := Lib.hid (show ∀ W, Keep (fun _ => False) w W → Calls Try.prog 61 #[.slice (some ⟨g, o + a, none⟩) (n - a) (c - a), .int .i64 (2), .int .i64 8] W (fun e w' => e = .returned (.tuple #[.int .i64 idx, .bool k1]) ∧ W = w') from G2)
  obtain ⟨r0, r1, r2, r3, r4, r5, rf⟩ := cells6 HY.out.2.2.1
  have hK := HY.out.2.2.2.2
  go_upto_region 21 with (first | (go_at_call 61; (with_reducible refine (H2.out _ (by exact (by repeat first | assumption | exact Keep.refl _ _ | refine Keep.alloc ?_ _ | refine Keep.drew ?_ | refine Keep.drewN ?_ _ | refine Keep.setCell ?_ (.inl (by first | omega | (simp; done) | (simp; omega))) _))).mono ?_); rintro e w1 ⟨rfl, rfl⟩) | fail)
  refine wp_world (S := fun Y => GSt w Y q ⟨1, false, idx, 0, 0, []⟩ (.slice none 0 0)) (by first | (with_reducible exact HY.out.set 2 (.int .i64 idx) ⟨1, false, idx, 0, 0, []⟩ (.slice none 0 0) rfl) | (with_reducible exact GSt.drew (HY.out.set 2 (.int .i64 idx) ⟨1, false, idx, 0, 0, []⟩ (.slice none 0 0) rfl)) | (with_reducible exact GSt.drew (GSt.drew (HY.out.set 2 (.int .i64 idx) ⟨1, false, idx, 0, 0, []⟩ (.slice none 0 0) rfl)))) ?_
  clear r0 r1 r2 r3 r4 r5 rf hK HY
  intro Y1 hY
  have HY := Lib.hid hY
  clear hY
  have H3 := Lib.hid (show ∀ W, Keep (fun _ => False) w W → Calls Try.prog 61 #[.slice (some ⟨g, o + a, none⟩) (n - a) (c - a), .int .i64 (10), .int .i64 8] W (fun e w' => e = .returned (.tuple #[.int .i64 gen, .bool k2]) ∧ W = w') from G3)
  obtain ⟨r0, r1, r2, r3, r4, r5, rf⟩ := cells6 HY.out.2.2.1
  have hK := HY.out.2.2.2.2
  go_upto_region 23 with (first | (go_at_call 61; (with_reducible refine (H3.out _ (by exact (by repeat first | assumption | exact Keep.refl _ _ | refine Keep.alloc ?_ _ | refine Keep.drew ?_ | refine Keep.drewN ?_ _ | refine Keep.setCell ?_ (.inl (by first | omega | (simp; done) | (simp; omega))) _))).mono ?_); rintro e w1 ⟨rfl, rfl⟩) | fail)
  refine wp_world (S := fun Y => GSt w Y q ⟨1, false, idx, gen, 0, []⟩ (.slice none 0 0)) (by first | (with_reducible exact HY.out.set 3 (.int .i64 gen) ⟨1, false, idx, gen, 0, []⟩ (.slice none 0 0) rfl) | (with_reducible exact GSt.drew (HY.out.set 3 (.int .i64 gen) ⟨1, false, idx, gen, 0, []⟩ (.slice none 0 0) rfl)) | (with_reducible exact GSt.drew (GSt.drew (HY.out.set 3 (.int .i64 gen) ⟨1, false, idx, gen, 0, []⟩ (.slice none 0 0) rfl)))) ?_
  clear r0 r1 r2 r3 r4 r5 rf hK HY
  intro Y2 hY
  have HY := Lib.hid hY
  clear hY
  obtain ⟨r0, r1, r2, r3, r4, r5, rf⟩ := cells6 HY.out.2.2.1
  have hK := HY.out.2.2.2.2
  obtain ⟨s0, s1, s2, s3, s4, s5, sf⟩ := cells6 HY.out.1
  obtain ⟨u0, u1, u2, u3, u4, u5, uf⟩ := cells6 HY.out.2.1
  have ew : IntKind.i64.wrap ((a : Int) + 18) = (a : Int) + 18 := IntWalk.i64_in _ (by omega)
  go_wp2_with fail
  have KK := keepS6 Y2 w.heap.size (.int .i64 1) (.bool false) (.int .i64 idx) (.int .i64 gen) (.int .i64 0) (.slice none 0 0)
  have HS := stored6 HY.out.1 (.int .i64 1) (.bool false) (.int .i64 idx) (.int .i64 gen) (.int .i64 0) (.slice none 0 0)
  generalize ((((((Y2.setCell ⟨w.heap.size, 0, none⟩ (.int .i64 1)).setCell ⟨w.heap.size, 1, none⟩ (.bool false)).setCell ⟨w.heap.size, 2, none⟩ (.int .i64 idx)).setCell ⟨w.heap.size, 3, none⟩ (.int .i64 gen)).setCell ⟨w.heap.size, 4, none⟩ (.int .i64 0)).setCell ⟨w.heap.size, 5, none⟩ (.slice none 0 0)) = W7 at KK HS ⊢
  exact bodyPost_ret (results_cmd3 rfl _ _ w.heap.size _ _ _ _ _ _ rfl (show W7.heap[w.heap.size]? = _ from HS) _ _ rfl rfl) rfl ⟨none, 0, 0, rfl, By.nil _ _, (HY.out.2.2.2.2.transQ KK (Nat.le_refl _)).to_below'⟩
set_option maxHeartbeats 4000000 in
theorem rg_g1_out (F : Nat → Prop) (a n c o g : Nat) (A : Option Addr) (hA : A = some ⟨g, o, none⟩) (w : World) (hn : n ≤ 1099511627776) (ha : a ≤ n) (hbc : n ≤ c) (hcm : c ≤ maxLen) (hc : ¬ c = a) (idx gen comp z : Int) (k1 k2 k3 : Bool) (h1 : a < n) (x0 : w.cell? ⟨g, o + a, none⟩ = some (.int .u8 (1))) (h2 : a + 1 < n) (x1 : w.cell? ⟨g, o + a + 1, none⟩ = some (.int .u8 (0))) (G2 : GetC w g (o + a) (n - a) (c - a) 2 8 idx k1) (G3 : GetC w g (o + a) (n - a) (c - a) 10 8 gen k2) (hE : (n : Int) < (a : Int) + 18) :
    Calls Try.prog 62 #[.slice A n c, .int .i64 (a : Nat)] w (RGPost F w (zeroC, 0, 12)) := by
  have f0 : (0 : Int) ≤ (a : Int) := by omega
  have f1 : (a : Int) ≤ (n : Int) := by omega
  have f2 : (a : Int) ≤ (c : Int) := by omega
  have f3 : a ≤ c := by omega
  have m0 : (a : Int) < (n : Int) := by omega
  have m1 : (a : Int) + 1 < (n : Int) := by omega
  go_enter Try.func62, Try.ntmps62
  go_upto_region 5 with fail
  subst hA
  refine wp_world (S := fun X => X.heap[w.heap.size]? = some (.cells #[.int .i64 0, .bool false, .int .i64 0, .int .i64 0, .int .i64 0, .slice none 0 0] 83 (0, 0)) ∧ X.heap[w.heap.size + 1]? = some (.cells #[.int .i64 0, .bool false, .int .i64 0, .int .i64 0, .int .i64 0, .slice none 0 0] 83 (0, 0)) ∧ X.heap.size = w.heap.size + 2 ∧ Keep (fun _ => False) w X ∧ X.cell? ⟨g, o + a, none⟩ = some (.int .u8 (1)) ∧ X.cell? ⟨g, o + a + 1, none⟩ = some (.int .u8 (0))) ⟨(heap_alloc_old (w.alloc _) _ (by simp)).trans (heap_alloc_new w _), (by have := heap_alloc_new (w.alloc (.cells #[.int .i64 0, .bool false, .int .i64 0, .int .i64 0, .int .i64 0, .slice none 0 0] 83)) (.cells #[.int .i64 0, .bool false, .int .i64 0, .int .i64 0, .int .i64 0, .slice none 0 0] 83 (0, 0)); simpa using this), by simp, ((Keep.refl (fun _ => False) w).alloc _).alloc _, ((Keep.refl (fun _ => False) w).alloc _).alloc _ |>.cell (fun h => h) x0, ((Keep.refl (fun _ => False) w).alloc _).alloc _ |>.cell (fun h => h) x1⟩ ?_
  rintro X hX
  have HX := Lib.hid hX
  clear hX
  obtain ⟨r0, r1, r2, r3, r4, r5, rf⟩ := cells6 HX.out.1
  obtain ⟨q0, q1, q2, q3, q4, q5, qf⟩ := cells6 HX.out.2.1
  have y0 := HX.out.2.2.2.2.1
  have y1 := HX.out.2.2.2.2.2
  go_upto_region 17 with fail
  obtain ⟨q, hq⟩ : ∃ q, q = X.heap.size := ⟨_, rfl⟩
  have hq2 : w.heap.size + 1 < q := by have := HX.out.2.2.1; omega
  refine wp_world (S := fun Y => GSt w Y q ⟨1, false, 0, 0, 0, []⟩ (.slice none 0 0)) ⟨(heap_alloc_old X _ (by omega)).trans HX.out.1, (heap_alloc_old X _ (by omega)).trans HX.out.2.1, by rw [hq]; exact heap_alloc_new X _, hq2, HX.out.2.2.2.1.alloc _⟩ ?_
  rw [← hq]
  clear hq HX r0 r1 r2 r3 r4 r5 rf q0 q1 q2 q3 q4 q5 qf y0 y1
  intro Y0 hY
  have HY := Lib.hid hY
  clear hY
  have nq : w.heap.size ≤ q := by omega
  have nq1 : w.heap.size ≠ q := by omega
  have nq2 : q ≠ w.heap.size := by omega
  have nq3 : w.heap.size + 1 ≠ q := by omega
  have nq4 : q ≠ w.heap.size + 1 := by omega
  have H2 := Lib.hid (show ∀ W, Keep (fun _ => False) w W → Calls Try.prog 61 #[.slice (some ⟨g, o + a, none⟩) (n - a) (c - a), .int .i64 (2), .int .i64 8] W (fun e w' => e = .returned (.tuple #[.int .i64 idx, .bool k1]) ∧ W = w') from G2)
  obtain ⟨r0, r1, r2, r3, r4, r5, rf⟩ := cells6 HY.out.2.2.1
  have hK := HY.out.2.2.2.2
  go_upto_region 21 with (first | (go_at_call 61; (with_reducible refine (H2.out _ (by exact (by repeat first | assumption | exact Keep.refl _ _ | refine Keep.alloc ?_ _ | refine Keep.drew ?_ | refine Keep.drewN ?_ _ | refine Keep.setCell ?_ (.inl (by first | omega | (simp; done) | (simp; omega))) _))).mono ?_); rintro e w1 ⟨rfl, rfl⟩) | fail)
  refine wp_world (S := fun Y => GSt w Y q ⟨1, false, idx, 0, 0, []⟩ (.slice none 0 0)) (by first | (with_reducible exact HY.out.set 2 (.int .i64 idx) ⟨1, false, idx, 0, 0, []⟩ (.slice none 0 0) rfl) | (with_reducible exact GSt.drew (HY.out.set 2 (.int .i64 idx) ⟨1, false, idx, 0, 0, []⟩ (.slice none 0 0) rfl)) | (with_reducible exact GSt.drew (GSt.drew (HY.out.set 2 (.int .i64 idx) ⟨1, false, idx, 0, 0, []⟩ (.slice none 0 0) rfl)))) ?_
  clear r0 r1 r2 r3 r4 r5 rf hK HY
  intro Y1 hY
  have HY := Lib.hid hY
  clear hY
  have H3 := Lib.hid (show ∀ W, Keep (fun _ => False) w W → Calls Try.prog 61 #[.slice (some ⟨g, o + a, none⟩) (n - a) (c - a), .int .i64 (10), .int .i64 8] W (fun e w' => e = .returned (.tuple #[.int .i64 gen, .bool k2]) ∧ W = w') from G3)
  obtain ⟨r0, r1, r2, r3, r4, r5, rf⟩ := cells6 HY.out.2.2.1
  have hK := HY.out.2.2.2.2
  go_upto_region 23 with (first | (go_at_call 61; (with_reducible refine (H3.out _ (by exact (by repeat first | assumption | exact Keep.refl _ _ | refine Keep.alloc ?_ _ | refine Keep.drew ?_ | refine Keep.drewN ?_ _ | refine Keep.setCell ?_ (.inl (by first | omega | (simp; done) | (simp; omega))) _))).mono ?_); rintro e w1 ⟨rfl, rfl⟩) | fail)
  refine wp_world (S := fun Y => GSt w Y q ⟨1, false, idx, gen, 0, []⟩ (.slice none 0 0)) (by first | (with_reducible exact HY.out.set 3 (.int .i64 gen) ⟨1, false, idx, gen, 0, []⟩ (.slice none 0 0) rfl) | (with_reducible exact GSt.drew (HY.out.set 3 (.int .i64 gen) ⟨1, false, idx, gen, 0, []⟩ (.slice none 0 0) rfl)) | (with_reducible exact GSt.drew (GSt.drew (HY.out.set 3 (.int .i64 gen) ⟨1, false, idx, gen, 0, []⟩ (.slice none 0 0) rfl)))) ?_
  clear r0 r1 r2 r3 r4 r5 rf hK HY
  intro Y2 hY
  have HY := Lib.hid hY
  clear hY
  obtain ⟨r0, r1, r2, r3, r4, r5, rf⟩ := cells6 HY.out.2.2.1
  have hK := HY.out.2.2.2.2
  obtain ⟨s0, s1, s2, s3, s4, s5, sf⟩ := cells6 HY.out.1
  obtain ⟨u0, u1, u2, u3, u4, u5, uf⟩ := cells6 HY.out.2.1
  have ew : IntKind.i64.wrap ((a : Int) + 18) = (a : Int) + 18 := IntWalk.i64_in _ (by omega)
  go_wp2_with fail
  have KK := keepS6 Y2 w.heap.size (.int .i64 0) (.bool false) (.int .i64 0) (.int .i64 0) (.int .i64 0) (.slice none 0 0)
  have HS := stored6 (HY.out.1) (.int .i64 0) (.bool false) (.int .i64 0) (.int .i64 0) (.int .i64 0) (.slice none 0 0)
  generalize ((((((Y2.setCell ⟨w.heap.size, 0, none⟩ (.int .i64 0)).setCell ⟨w.heap.size, 1, none⟩ (.bool false)).setCell ⟨w.heap.size, 2, none⟩ (.int .i64 0)).setCell ⟨w.heap.size, 3, none⟩ (.int .i64 0)).setCell ⟨w.heap.size, 4, none⟩ (.int .i64 0)).setCell ⟨w.heap.size, 5, none⟩ (.slice none 0 0)) = W7 at KK HS ⊢
  exact bodyPost_ret (results_cmd3 rfl _ _ w.heap.size _ _ _ _ _ _ rfl (show W7.heap[w.heap.size]? = _ from HS) _ _ rfl rfl) rfl ⟨none, 0, 0, rfl, By.nil _ _, ((HY.out.2.2.2.2).transQ KK (Nat.le_refl _)).to_below'⟩
set_option maxHeartbeats 4000000 in
theorem rg_g3_in (F : Nat → Prop) (a n c o g : Nat) (A : Option Addr) (hA : A = some ⟨g, o, none⟩) (w : World) (hn : n ≤ 1099511627776) (ha : a ≤ n) (hbc : n ≤ c) (hcm : c ≤ maxLen) (hc : ¬ c = a) (idx gen comp z : Int) (k1 k2 k3 : Bool) (h1 : a < n) (x0 : w.cell? ⟨g, o + a, none⟩ = some (.int .u8 (3))) (h2 : a + 1 < n) (x1 : w.cell? ⟨g, o + a + 1, none⟩ = some (.int .u8 (0))) (G2 : GetC w g (o + a) (n - a) (c - a) 2 8 idx k1) (G3 : GetC w g (o + a) (n - a) (c - a) 10 8 gen k2) (G4 : GetC w g (o + a) (n - a) (c - a) 18 8 comp k3) (hE : ¬ (n : Int) < (a : Int) + 26) :
    Calls Try.prog 62 #[.slice A n c, .int .i64 (a : Nat)] w (RGPost F w (⟨3, false, idx, gen, comp, []⟩, (a : Int) + 26, 0)) := by
  have f0 : (0 : Int) ≤ (a : Int) := by omega
  have f1 : (a : Int) ≤ (n : Int) := by omega
  have f2 : (a : Int) ≤ (c : Int) := by omega
  have f3 : a ≤ c := by omega
  have m0 : (a : Int) < (n : Int) := by omega
  have m1 : (a : Int) + 1 < (n : Int) := by omega
  go_enter Try.func62, Try.ntmps62
  go_upto_region 5 with fail
  subst hA
  refine wp_world (S := fun X => X.heap[w.heap.size]? = some (.cells #[.int .i64 0, .bool false, .int .i64 0, .int .i64 0, .int .i64 0, .slice none 0 0] 83 (0, 0)) ∧ X.heap[w.heap.size + 1]? = some (.cells #[.int .i64 0, .bool false, .int .i64 0, .int .i64 0, .int .i64 0, .slice none 0 0] 83 (0, 0)) ∧ X.heap.size = w.heap.size + 2 ∧ Keep (fun _ => False) w X ∧ X.cell? ⟨g, o + a, none⟩ = some (.int .u8 (3)) ∧ X.cell? ⟨g, o + a + 1, none⟩ = some (.int .u8 (0))) ⟨(heap_alloc_old (w.alloc _) _ (by simp)).trans (heap_alloc_new w _), (by have := heap_alloc_new (w.alloc (.cells #[.int .i64 0, .bool false, .int .i64 0, .int .i64 0, .int .i64 0, .slice none 0 0] 83)) (.cells #[.int .i64 0, .bool false, .int .i64 0, .int .i64 0, .int .i64 0, .slice none 0 0] 83 (0, 0)); simpa using this), by simp, ((Keep.refl (fun _ => False) w).alloc _).alloc _, ((Keep.refl (fun _ => False) w).alloc _).alloc _ |>.cell (fun h => h) x0, ((Keep.refl (fun _ => False) w).alloc _).alloc _ |>.cell (fun h => h) x1⟩ ?_
  rintro X hX
  have HX := Lib.hid hX
  clear hX
  obtain ⟨r0, r1, r2, r3, r4, r5, rf⟩ := cells6 HX.out.1
  obtain ⟨q0, q1, q2, q3, q4, q5, qf⟩ := cells6 HX.out.2.1
  have y0 := HX.out.2.2.2.2.1
  have y1 := HX.out.2.2.2.2.2
  go_upto_region 17 with fail
  obtain ⟨q, hq⟩ : ∃ q, q = X.heap.size := ⟨_, rfl⟩
  have hq2 : w.heap.size + 1 < q := by have := HX.out.2.2.1; omega
  refine wp_world (S := fun Y => GSt w Y q ⟨3, false, 0, 0, 0, []⟩ (.slice none 0 0)) ⟨(heap_alloc_old X _ (by omega)).trans HX.out.1, (heap_alloc_old X _ (by omega)).trans HX.out.2.1, by rw [hq]; exact heap_alloc_new X _, hq2, HX.out.2.2.2.1.alloc _⟩ ?_
  rw [← hq]
  clear hq HX r0 r1 r2 r3 r4 r5 rf q0 q1 q2 q3 q4 q5 qf y0 y1
  intro Y0 hY
  have HY := Lib.hid hY
  clear hY
  have nq : w.heap.size ≤ q := by omega
  have nq1 : w.heap.size ≠ q := by omega
  have nq2 : q ≠ w.heap.size := by omega
  have nq3 : w.heap.size + 1 ≠ q := by omega
  have nq4 : q ≠ w.heap.size + 1 := by omega
  have H2 := Lib.hid (show ∀ W, Keep (fun _ => False) w W → Calls Try.prog 61 #[.slice (some ⟨g, o + a, none⟩) (n - a) (c - a), .int .i64 (2), .int .i64 8] W (fun e w' => e = .returned (.tuple #[.int .i64 idx, .bool k1]) ∧ W = w') from G2)
  obtain ⟨r0, r1, r2, r3, r4, r5, rf⟩ := cells6 HY.out.2.2.1
  have hK := HY.out.2.2.2.2
  go_upto_region 21 with (first | (go_at_call 61; (with_reducible refine (H2.out _ (by exact (by repeat first | assumption | exact Keep.refl _ _ | refine Keep.alloc ?_ _ | refine Keep.drew ?_ | refine Keep.drewN ?_ _ | refine Keep.setCell ?_ (.inl (by first | omega | (simp; done) | (simp; omega))) _))).mono ?_); rintro e w1 ⟨rfl, rfl⟩) | fail)
  refine wp_world (S := fun Y => GSt w Y q ⟨3, false, idx, 0, 0, []⟩ (.slice none 0 0)) (by first | (with_reducible exact HY.out.set 2 (.int .i64 idx) ⟨3, false, idx, 0, 0, []⟩ (.slice none 0 0) rfl) | (with_reducible exact GSt.drew (HY.out.set 2 (.int .i64 idx) ⟨3, false, idx, 0, 0, []⟩ (.slice none 0 0) rfl)) | (with_reducible exact GSt.drew (GSt.drew (HY.out.set 2 (.int .i64 idx) ⟨3, false, idx, 0, 0, []⟩ (.slice none 0 0) rfl)))) ?_
  clear r0 r1 r2 r3 r4 r5 rf hK HY
  intro Y1 hY
  have HY := Lib.hid hY
  clear hY
  have H3 := Lib.hid (show ∀ W, Keep (fun _ => False) w W → Calls Try.prog 61 #[.slice (some ⟨g, o + a, none⟩) (n - a) (c - a), .int .i64 (10), .int .i64 8] W (fun e w' => e = .returned (.tuple #[.int .i64 gen, .bool k2]) ∧ W = w') from G3)
  obtain ⟨r0, r1, r2, r3, r4, r5, rf⟩ := cells6 HY.out.2.2.1
  have hK := HY.out.2.2.2.2
  go_upto_region 23 with (first | (go_at_call 61; (with_reducible refine (H3.out _ (by exact (by repeat first | assumption | exact Keep.refl _ _ | refine Keep.alloc ?_ _ | refine Keep.drew ?_ | refine Keep.drewN ?_ _ | refine Keep.setCell ?_ (.inl (by first | omega | (simp; done) | (simp; omega))) _))).mono ?_); rintro e w1 ⟨rfl, rfl⟩) | fail)
  refine wp_world (S := fun Y => GSt w Y q ⟨3, false, idx, gen, 0, []⟩ (.slice none 0 0)) (by first | (with_reducible exact HY.out.set 3 (.int .i64 gen) ⟨3, false, idx, gen, 0, []⟩ (.slice none 0 0) rfl) | (with_reducible exact GSt.drew (HY.out.set 3 (.int .i64 gen) ⟨3, false, idx, gen, 0, []⟩ (.slice none 0 0) rfl)) | (with_reducible exact GSt.drew (GSt.drew (HY.out.set 3 (.int .i64 gen) ⟨3, false, idx, gen, 0, []⟩ (.slice none 0 0) rfl)))) ?_
  clear r0 r1 r2 r3 r4 r5 rf hK HY
  intro Y2 hY
  have HY := Lib.hid hY
  clear hY
  have H4 := Lib.hid (show ∀ W, Keep (fun _ => False) w W → Calls Try.prog 61 #[.slice (some ⟨g, o + a, none⟩) (n - a) (c - a), .int .i64 (18), .int .i64 8] W (fun e w' => e = .returned (.tuple #[.int .i64 comp, .bool k3]) ∧ W = w') from G4)
  obtain ⟨r0, r1, r2, r3, r4, r5, rf⟩ := cells6 HY.out.2.2.1
  have hK := HY.out.2.2.2.2
  go_upto_region 25 with (first | (go_at_call 61; (with_reducible refine (H4.out _ (by exact (by repeat first | assumption | exact Keep.refl _ _ | refine Keep.alloc ?_ _ | refine Keep.drew ?_ | refine Keep.drewN ?_ _ | refine Keep.setCell ?_ (.inl (by first | omega | (simp; done) | (simp; omega))) _))).mono ?_); rintro e w1 ⟨rfl, rfl⟩) | fail)
  refine wp_world (S := fun Y => GSt w Y q ⟨3, false, idx, gen, comp, []⟩ (.slice none 0 0)) (by first | (with_reducible exact HY.out.set 4 (.int .i64 comp) ⟨3, false, idx, gen, comp, []⟩ (.slice none 0 0) rfl) | (with_reducible exact GSt.drew (HY.out.set 4 (.int .i64 comp) ⟨3, false, idx, gen, comp, []⟩ (.slice none 0 0) rfl)) | (with_reducible exact GSt.drew (GSt.drew (HY.out.set 4 (.int .i64 comp) ⟨3, false, idx, gen, comp, []⟩ (.slice none 0 0) rfl)))) ?_
  clear r0 r1 r2 r3 r4 r5 rf hK HY
  intro Y3 hY
  have HY := Lib.hid hY
  clear hY
  obtain ⟨r0, r1, r2, r3, r4, r5, rf⟩ := cells6 HY.out.2.2.1
  have hK := HY.out.2.2.2.2
  obtain ⟨s0, s1, s2, s3, s4, s5, sf⟩ := cells6 HY.out.1
  obtain ⟨u0, u1, u2, u3, u4, u5, uf⟩ := cells6 HY.out.2.1
  have ew : IntKind.i64.wrap ((a : Int) + 26) = (a : Int) + 26 := IntWalk.i64_in _ (by omega)
  go_wp2_with fail
  have KK := keepS6 Y3 w.heap.size (.int .i64 3) (.bool false) (.int .i64 idx) (.int .i64 gen) (.int .i64 comp) (.slice none 0 0)
  have HS := stored6 HY.out.1 (.int .i64 3) (.bool false) (.int .i64 idx) (.int .i64 gen) (.int .i64 comp) (.slice none 0 0)
  generalize ((((((Y3.setCell ⟨w.heap.size, 0, none⟩ (.int .i64 3)).setCell ⟨w.heap.size, 1, none⟩ (.bool false)).setCell ⟨w.heap.size, 2, none⟩ (.int .i64 idx)).setCell ⟨w.heap.size, 3, none⟩ (.int .i64 gen)).setCell ⟨w.heap.size, 4, none⟩ (.int .i64 comp)).setCell ⟨w.heap.size, 5, none⟩ (.slice none 0 0)) = W7 at KK HS ⊢
  exact bodyPost_ret (results_cmd3 rfl _ _ w.heap.size _ _ _ _ _ _ rfl (show W7.heap[w.heap.size]? = _ from HS) _ _ rfl rfl) rfl ⟨none, 0, 0, rfl, By.nil _ _, (HY.out.2.2.2.2.transQ KK (Nat.le_refl _)).to_below'⟩
set_option maxHeartbeats 4000000 in
theorem rg_g3_out (F : Nat → Prop) (a n c o g : Nat) (A : Option Addr) (hA : A = some ⟨g, o, none⟩) (w : World) (hn : n ≤ 1099511627776) (ha : a ≤ n) (hbc : n ≤ c) (hcm : c ≤ maxLen) (hc : ¬ c = a) (idx gen comp z : Int) (k1 k2 k3 : Bool) (h1 : a < n) (x0 : w.cell? ⟨g, o + a, none⟩ = some (.int .u8 (3))) (h2 : a + 1 < n) (x1 : w.cell? ⟨g, o + a + 1, none⟩ = some (.int .u8 (0))) (G2 : GetC w g (o + a) (n - a) (c - a) 2 8 idx k1) (G3 : GetC w g (o + a) (n - a) (c - a) 10 8 gen k2) (G4 : GetC w g (o + a) (n - a) (c - a) 18 8 comp k3) (hE : (n : Int) < (a : Int) + 26) :
    Calls Try.prog 62 #[.slice A n c, .int .i64 (a : Nat)] w (RGPost F w (zeroC, 0, 12)) := by
  have f0 : (0 : Int) ≤ (a : Int) := by omega
  have f1 : (a : Int) ≤ (n : Int) := by omega
  have f2 : (a : Int) ≤ (c : Int) := by omega
  have f3 : a ≤ c := by omega
  have m0 : (a : Int) < (n : Int) := by omega
  have m1 : (a : Int) + 1 < (n : Int) := by omega
  go_enter Try.func62, Try.ntmps62
  go_upto_region 5 with fail
  subst hA
  refine wp_world (S := fun X => X.heap[w.heap.size]? = some (.cells #[.int .i64 0, .bool false, .int .i64 0, .int .i64 0, .int .i64 0, .slice none 0 0] 83 (0, 0)) ∧ X.heap[w.heap.size + 1]? = some (.cells #[.int .i64 0, .bool false, .int .i64 0, .int .i64 0, .int .i64 0, .slice none 0 0] 83 (0, 0)) ∧ X.heap.size = w.heap.size + 2 ∧ Keep (fun _ => False) w X ∧ X.cell? ⟨g, o + a, none⟩ = some (.int .u8 (3)) ∧ X.cell? ⟨g, o + a + 1, none⟩ = some (.int .u8 (0))) ⟨(heap_alloc_old (w.alloc _) _ (by simp)).trans (heap_alloc_new w _), (by have := heap_alloc_new (w.alloc (.cells #[.int .i64 0, .bool false, .int .i64 0, .int .i64 0, .int .i64 0, .slice none 0 0] 83)) (.cells #[.int .i64 0, .bool false, .int .i64 0, .int .i64 0, .int .i64 0, .slice none 0 0] 83 (0, 0)); simpa using this), by simp, ((Keep.refl (fun _ => False) w).alloc _).alloc _, ((Keep.refl (fun _ => False) w).alloc _).alloc _ |>.cell (fun h => h) x0, ((Keep.refl (fun _ => False) w).alloc _).alloc _ |>.cell (fun h => h) x1⟩ ?_
  rintro X hX
  have HX := Lib.hid hX
  clear hX
  obtain ⟨r0, r1, r2, r3, r4, r5, rf⟩ := cells6 HX.out.1
  obtain ⟨q0, q1, q2, q3, q4, q5, qf⟩ := cells6 HX.out.2.1
  have y0 := HX.out.2.2.2.2.1
  have y1 := HX.out.2.2.2.2.2
  go_upto_region 17 with fail
  obtain ⟨q, hq⟩ : ∃ q, q = X.heap.size := ⟨_, rfl⟩
  have hq2 : w.heap.size + 1 < q := by have := HX.out.2.2.1; omega
  refine wp_world (S := fun Y => GSt w Y q ⟨3, false, 0, 0, 0, []⟩ (.slice none 0 0)) ⟨(heap_alloc_old X _ (by omega)).trans HX.out.1, (heap_alloc_old X _ (by omega)).trans HX.out.2.1, by rw [hq]; exact heap_alloc_new X _, hq2, HX.out.2.2.2.1.alloc _⟩ ?_
  rw [← hq]
  clear hq HX r0 r1 r2 r3 r4 r5 rf q0 q1 q2 q3 q4 q5 qf y0 y1
  intro Y0 hY
  have HY := Lib.hid hY
  clear hY
  have nq : w.heap.size ≤ q := by omega
  have nq1 : w.heap.size ≠ q := by omega
  have nq2 : q ≠ w.heap.size := by omega
  have nq3 : w.heap.size + 1 ≠ q := by omega
  have nq4 : q ≠ w.heap.size + 1 := by omega
  have H2 := Lib.hid (show ∀ W, Keep (fun _ => False) w W → Calls Try.prog 61 #[.slice (some ⟨g, o + a, none⟩) (n - a) (c - a), .int .i64 (2), .int .i64 8] W (fun e w' => e = .returned (.tuple #[.int .i64 idx, .bool k1]) ∧ W = w') from G2)
  obtain ⟨r0, r1, r2, r3, r4, r5, rf⟩ := cells6 HY.out.2.2.1
  have hK := HY.out.2.2.2.2
  go_upto_region 21 with (first | (go_at_call 61; (with_reducible refine (H2.out _ (by exact (by repeat first | assumption | exact Keep.refl _ _ | refine Keep.alloc ?_ _ | refine Keep.drew ?_ | refine Keep.drewN ?_ _ | refine Keep.setCell ?_ (.inl (by first | omega | (simp; done) | (simp; omega))) _))).mono ?_); rintro e w1 ⟨rfl, rfl⟩) | fail)
  refine wp_world (S := fun Y => GSt w Y q ⟨3, false, idx, 0, 0, []⟩ (.slice none 0 0)) (by first | (with_reducible exact HY.out.set 2 (.int .i64 idx) ⟨3, false, idx, 0, 0, []⟩ (.slice none 0 0) rfl) | (with_reducible exact GSt.drew (HY.out.set 2 (.int .i64 idx) ⟨3, false, idx, 0, 0, []⟩ (.slice none 0 0) rfl)) | (with_reducible exact GSt.drew (GSt.drew (HY.out.set 2 (.int .i64 idx) ⟨3, false, idx, 0, 0, []⟩ (.slice none 0 0) rfl)))) ?_
  clear r0 r1 r2 r3 r4 r5 rf hK HY
  intro Y1 hY
  have HY := Lib.hid hY
  clear hY
  have H3 := Lib.hid (show ∀ W, Keep (fun _ => False) w W → Calls Try.prog 61 #[.slice (some ⟨g, o + a, none⟩) (n - a) (c - a), .int .i64 (10), .int .i64 8] W (fun e w' => e = .returned (.tuple #[.int .i64 gen, .bool k2]) ∧ W = w') from G3)
  obtain ⟨r0, r1, r2, r3, r4, r5, rf⟩ := cells6 HY.out.2.2.1
  have hK := HY.out.2.2.2.2
  go_upto_region 23 with (first | (go_at_call 61; (with_reducible refine (H3.out _ (by exact (by repeat first | assumption | exact Keep.refl _ _ | refine Keep.alloc ?_ _ | refine Keep.drew ?_ | refine Keep.drewN ?_ _ | refine Keep.setCell ?_ (.inl (by first | omega | (simp; done) | (simp; omega))) _))).mono ?_); rintro e w1 ⟨rfl, rfl⟩) | fail)
  refine wp_world (S := fun Y => GSt w Y q ⟨3, false, idx, gen, 0, []⟩ (.slice none 0 0)) (by first | (with_reducible exact HY.out.set 3 (.int .i64 gen) ⟨3, false, idx, gen, 0, []⟩ (.slice none 0 0) rfl) | (with_reducible exact GSt.drew (HY.out.set 3 (.int .i64 gen) ⟨3, false, idx, gen, 0, []⟩ (.slice none 0 0) rfl)) | (with_reducible exact GSt.drew (GSt.drew (HY.out.set 3 (.int .i64 gen) ⟨3, false, idx, gen, 0, []⟩ (.slice none 0 0) rfl)))) ?_
  clear r0 r1 r2 r3 r4 r5 rf hK HY
  intro Y2 hY
  have HY := Lib.hid hY
  clear hY
  have H4 := Lib.hid (show ∀ W, Keep (fun _ => False) w W → Calls Try.prog 61 #[.slice (some ⟨g, o + a, none⟩) (n - a) (c - a), .int .i64 (18), .int .i64 8] W (fun e w' => e = .returned (.tuple #[.int .i64 comp, .bool k3]) ∧ W = w') from G4)
  obtain ⟨r0, r1, r2, r3, r4, r5, rf⟩ := cells6 HY.out.2.2.1
  have hK := HY.out.2.2.2.2
  go_upto_region 25 with (first | (go_at_call 61; (with_reducible refine (H4.out _ (by exact (by repeat first | assumption | exact Keep.refl _ _ | refine Keep.alloc ?_ _ | refine Keep.drew ?_ | refine Keep.drewN ?_ _ | refine Keep.setCell ?_ (.inl (by first | omega | (simp; done) | (simp; omega))) _))).mono ?_); rintro e w1 ⟨rfl, rfl⟩) | fail)
  refine wp_world (S := fun Y => GSt w Y q ⟨3, false, idx, gen, comp, []⟩ (.slice none 0 0)) (by first | (with_reducible exact HY.out.set 4 (.int .i64 comp) ⟨3, false, idx, gen, comp, []⟩ (.slice none 0 0) rfl) | (with_reducible exact GSt.drew (HY.out.set 4 (.int .i64 comp) ⟨3, false, idx, gen, comp, []⟩ (.slice none 0 0) rfl)) | (with_reducible exact GSt.drew (GSt.drew (HY.out.set 4 (.int .i64 comp) ⟨3, false, idx, gen, comp, []⟩ (.slice none 0 0) rfl)))) ?_
  clear r0 r1 r2 r3 r4 r5 rf hK HY
  intro Y3 hY
  have HY := Lib.hid hY
  clear hY
  obtain ⟨r0, r1, r2, r3, r4, r5, rf⟩ := cells6 HY.out.2.2.1
  have hK := HY.out.2.2.2.2
  obtain ⟨s0, s1, s2, s3, s4, s5, sf⟩ := cells6 HY.out.1
  obtain ⟨u0, u1, u2, u3, u4, u5, uf⟩ := cells6 HY.out.2.1
  have ew : IntKind.i64.wrap ((a : Int) + 26) = (a : Int) + 26 := IntWalk.i64_in _ (by omega)
  go_wp2_with fail
  have KK := keepS6 Y3 w.heap.size (.int .i64 0) (.bool false) (.int .i64 0) (.int .i64 0) (.int .i64 0) (.slice none 0 0)
  have HS := stored6 (HY.out.1) (.int .i64 0) (.bool false) (.int .i64 0) (.int .i64 0) (.int .i64 0) (.slice none 0 0)
  generalize ((((((Y3.setCell ⟨w.heap.size, 0, none⟩ (.int .i64 0)).setCell ⟨w.heap.size, 1, none⟩ (.bool false)).setCell ⟨w.heap.size, 2, none⟩ (.int .i64 0)).setCell ⟨w.heap.size, 3, none⟩ (.int .i64 0)).setCell ⟨w.heap.size, 4, none⟩ (.int .i64 0)).setCell ⟨w.heap.size, 5, none⟩ (.slice none 0 0)) = W7 at KK HS ⊢
  exact bodyPost_ret (results_cmd3 rfl _ _ w.heap.size _ _ _ _ _ _ rfl (show W7.heap[w.heap.size]? = _ from HS) _ _ rfl rfl) rfl ⟨none, 0, 0, rfl, By.nil _ _, ((HY.out.2.2.2.2).transQ KK (Nat.le_refl _)).to_below'⟩
end Go.Proofs.Ytfjgbnnjfapcmaa
namespace Go.Proofs.Ytfjgbnnjfapcmaa
open Go.RowKit
set_option maxRecDepth 100000
set_option linter.unusedVariables false

set_option maxHeartbeats 4000000 in
theorem rg_l2_big (F : Nat → Prop) (a n c o g : Nat) (A : Option Addr) (hA : A = some ⟨g, o, none⟩) (w : World) (hn : n ≤ 1099511627776) (ha : a ≤ n) (hbc : n ≤ c) (hcm : c ≤ maxLen) (hc : ¬ c = a) (idx gen comp z : Int) (k1 k2 k3 : Bool) (h1 : a < n) (x0 : w.cell? ⟨g, o + a, none⟩ = some (.int .u8 (2))) (h2 : a + 1 < n) (x1 : w.cell? ⟨g, o + a + 1, none⟩ = some (.int .u8 (1))) (G2 : GetC w g (o + a) (n - a) (c - a) 2 8 idx k1) (G4 : GetC w g (o + a) (n - a) (c - a) 10 8 comp k3) (G5 : GetC w g (o + a) (n - a) (c - a) 18 2 (z) true) (hz : 64 < z) :
    Calls Try.prog 62 #[.slice A n c, .int .i64 (a : Nat)] w (RGPost F w (zeroC, 0, 13)) := by
  have f0 : (0 : Int) ≤ (a : Int) := by omega
  have f1 : (a : Int) ≤ (n : Int) := by omega
  have f2 : (a : Int) ≤ (c : Int) := by omega
  have f3 : a ≤ c := by omega
  have m0 : (a : Int) < (n : Int) := by omega
  have m1 : (a : Int) + 1 < (n : Int) := by omega
  go_enter Try.func62, Try.ntmps62
  go_upto_region 5 with fail
  subst hA
  refine wp_world (S := fun X => X.heap[w.heap.size]? = some (.cells #[.int .i64 0, .bool false, .int .i64 0, .int .i64 0, .int .i64 0, .slice none 0 0] 83 (0, 0)) ∧ X.heap[w.heap.size + 1]? = some (.cells #[.int .i64 0, .bool false, .int .i64 0, .int .i64 0, .int .i64 0, .slice none 0 0] 83 (0, 0)) ∧ X.heap.size = w.heap.size + 2 ∧ Keep (fun _ => False) w X ∧ X.cell? ⟨g, o + a, none⟩ = some (.int .u8 (2)) ∧ X.cell? ⟨g, o + a + 1, none⟩ = some (.int .u8 (1))) ⟨(heap_alloc_old (w.alloc _) _ (by simp)).trans (heap_alloc_new w _), (by have := heap_alloc_new (w.alloc (.cells #[.int .i64 0, .bool false, .int .i64 0, .int .i64 0, .int .i64 0, .slice none 0 0] 83)) (.cells #[.int .i64 0, .bool false, .int .i64 0, .int .i64 0, .int .i64 0, .slice none 0 0] 83 (0, 0)); simpa using this), by simp, ((Keep.refl (fun _ => False) w).alloc _).alloc _, ((Keep.refl (fun _ => False) w).alloc _).alloc _ |>.cell (fun h => h) x0, ((Keep.refl (fun _ => False) w).alloc _).alloc _ |>.cell (fun h => h) x1⟩ ?_
  rintro X hX
  have HX := Lib.hid hX
  clear hX
  obtain ⟨r0, r1, r2, r3, r4, r5, rf⟩ := cells6 HX.out.1
  obtain ⟨q0, q1, q2, q3, q4, q5, qf⟩ := cells6 HX.out.2.1
  have y0 := HX.out.2.2.2.2.1
  have y1 := HX.out.2.2.2.2.2
  go_upto_region 17 with fail
  obtain ⟨q, hq⟩ : ∃ q, q = X.heap.size := ⟨_, rfl⟩
  have hq2 : w.heap.size + 1 < q := by have := HX.out.2.2.1; omega
  refine wp_world (S := fun Y => GSt w Y q ⟨2, true, 0, 0, 0, []⟩ (.slice none 0 0)) ⟨(heap_alloc_old X _ (by omega)).trans HX.out.1, (heap_alloc_old X _ (by omega)).trans HX.out.2.1, by rw [hq]; exact heap_alloc_new X _, hq2, HX.out.2.2.2.1.alloc _⟩ ?_
  rw [← hq]
  clear hq HX r0 r1 r2 r3 r4 r5 rf q0 q1 q2 q3 q4 q5 qf y0 y1
  intro Y0 hY
  have HY := Lib.hid hY
  clear hY
  have nq : w.heap.size ≤ q := by omega
  have nq1 : w.heap.size ≠ q := by omega
  have nq2 : q ≠ w.heap.size := by omega
  have nq3 : w.heap.size + 1 ≠ q := by omega
  have nq4 : q ≠ w.heap.size + 1 := by omega
  have H2 := Lib.hid (show ∀ W, Keep (fun _ => False) w W → Calls Try.prog 61 #[.slice (some ⟨g, o + a, none⟩) (n - a) (c - a), .int .i64 (2), .int .i64 8] W (fun e w' => e = .returned (.tuple #[.int .i64 idx, .bool k1]) ∧ W = w') from G2)
  obtain ⟨r0, r1, r2, r3, r4, r5, rf⟩ := cells6 HY.out.2.2.1
  have hK := HY.out.2.2.2.2
  go_upto_region 21 with (first | (go_at_call 61; (with_reducible refine (H2.out _ (by exact (by repeat first | assumption | exact Keep.refl _ _ | refine Keep.alloc ?_ _ | refine Keep.drew ?_ | refine Keep.drewN ?_ _ | refine Keep.setCell ?_ (.inl (by first | omega | (simp; done) | (simp; omega))) _))).mono ?_); rintro e w1 ⟨rfl, rfl⟩) | fail)
  refine wp_world (S := fun Y => GSt w Y q ⟨2, true, idx, 0, 0, []⟩ (.slice none 0 0)) (by first | (with_reducible exact HY.out.set 2 (.int .i64 idx) ⟨2, true, idx, 0, 0, []⟩ (.slice none 0 0) rfl) | (with_reducible exact GSt.drew (HY.out.set 2 (.int .i64 idx) ⟨2, true, idx, 0, 0, []⟩ (.slice none 0 0) rfl)) | (with_reducible exact GSt.drew (GSt.drew (HY.out.set 2 (.int .i64 idx) ⟨2, true, idx, 0, 0, []⟩ (.slice none 0 0) rfl)))) ?_
  clear r0 r1 r2 r3 r4 r5 rf hK HY
  intro Y1 hY
  have HY := Lib.hid hY
  clear hY
  have H4 := Lib.hid (show ∀ W, Keep (fun _ => False) w W → Calls Try.prog 61 #[.slice (some ⟨g, o + a, none⟩) (n - a) (c - a), .int .i64 (10), .int .i64 8] W (fun e w' => e = .returned (.tuple #[.int .i64 comp, .bool k3]) ∧ W = w') from G4)
  obtain ⟨r0, r1, r2, r3, r4, r5, rf⟩ := cells6 HY.out.2.2.1
  have hK := HY.out.2.2.2.2
  go_upto_region 25 with (first | (go_at_call 61; (with_reducible refine (H4.out _ (by exact (by repeat first | assumption | exact Keep.refl _ _ | refine Keep.alloc ?_ _ | refine Keep.drew ?_ | refine Keep.drewN ?_ _ | refine Keep.setCell ?_ (.inl (by first | omega | (simp; done) | (simp; omega))) _))).mono ?_); rintro e w1 ⟨rfl, rfl⟩) | fail)
  refine wp_world (S := fun Y => GSt w Y q ⟨2, true, idx, 0, comp, []⟩ (.slice none 0 0)) (by first | (with_reducible exact HY.out.set 4 (.int .i64 comp) ⟨2, true, idx, 0, comp, []⟩ (.slice none 0 0) rfl) | (with_reducible exact GSt.drew (HY.out.set 4 (.int .i64 comp) ⟨2, true, idx, 0, comp, []⟩ (.slice none 0 0) rfl)) | (with_reducible exact GSt.drew (GSt.drew (HY.out.set 4 (.int .i64 comp) ⟨2, true, idx, 0, comp, []⟩ (.slice none 0 0) rfl)))) ?_
  clear r0 r1 r2 r3 r4 r5 rf hK HY
  intro Y2 hY
  have HY := Lib.hid hY
  clear hY
  obtain ⟨r0, r1, r2, r3, r4, r5, rf⟩ := cells6 HY.out.2.2.1
  have hK := HY.out.2.2.2.2
  obtain ⟨s0, s1, s2, s3, s4, s5, sf⟩ := cells6 HY.out.1
  obtain ⟨u0, u1, u2, u3, u4, u5, uf⟩ := cells6 HY.out.2.1
  have H5 := Lib.hid (show ∀ W, Keep (fun _ => False) w W → Calls Try.prog 61 #[.slice (some ⟨g, o + a, none⟩) (n - a) (c - a), .int .i64 (18), .int .i64 2] W (fun e w' => e = .returned (.tuple #[.int .i64 z, .bool true]) ∧ W = w') from G5)
  have hs1 : IntKind.i64.wrap (18 : Int) = 18 := IntWalk.i64_in _ (by omega)
  have hs2 : IntKind.i64.wrap (((n - a : Nat) : Int) - 20) = ((n - a : Nat) : Int) - 20 := IntWalk.i64_in _ (by omega)
  go_wp2_with (first | (go_at_call 61; (with_reducible refine (H5.out _ (by exact (by repeat first | assumption | exact Keep.refl _ _ | refine Keep.alloc ?_ _ | refine Keep.drew ?_ | refine Keep.drewN ?_ _ | refine Keep.setCell ?_ (.inl (by first | omega | (simp; done) | (simp; omega))) _))).mono ?_); rintro e w1 ⟨rfl, rfl⟩) | fail)
  have KK := keepS6 Y2 w.heap.size (.int .i64 0) (.bool false) (.int .i64 0) (.int .i64 0) (.int .i64 0) (.slice none 0 0)
  have HS := stored6 (HY.out.1) (.int .i64 0) (.bool false) (.int .i64 0) (.int .i64 0) (.int .i64 0) (.slice none 0 0)
  generalize ((((((Y2.setCell ⟨w.heap.size, 0, none⟩ (.int .i64 0)).setCell ⟨w.heap.size, 1, none⟩ (.bool false)).setCell ⟨w.heap.size, 2, none⟩ (.int .i64 0)).setCell ⟨w.heap.size, 3, none⟩ (.int .i64 0)).setCell ⟨w.heap.size, 4, none⟩ (.int .i64 0)).setCell ⟨w.heap.size, 5, none⟩ (.slice none 0 0)) = W7 at KK HS ⊢
  exact bodyPost_ret (results_cmd3 rfl _ _ w.heap.size _ _ _ _ _ _ rfl (show W7.heap[w.heap.size]? = _ from HS) _ _ rfl rfl) rfl ⟨none, 0, 0, rfl, By.nil _ _, ((HY.out.2.2.2.2).transQ KK (Nat.le_refl _)).to_below'⟩
set_option maxHeartbeats 4000000 in
theorem rg_l2_in (F : Nat → Prop) (a n c o g : Nat) (A : Option Addr) (hA : A = some ⟨g, o, none⟩) (w : World) (hn : n ≤ 1099511627776) (ha : a ≤ n) (hbc : n ≤ c) (hcm : c ≤ maxLen) (hc : ¬ c = a) (zn : Nat) (dat : List UInt8) (idx gen comp : Int) (k1 k2 k3 : Bool) (h1 : a < n) (x0 : w.cell? ⟨g, o + a, none⟩ = some (.int .u8 (2))) (h2 : a + 1 < n) (x1 : w.cell? ⟨g, o + a + 1, none⟩ = some (.int .u8 (1))) (G2 : GetC w g (o + a) (n - a) (c - a) 2 8 idx k1) (G4 : GetC w g (o + a) (n - a) (c - a) 10 8 comp k3) (G5 : GetC w g (o + a) (n - a) (c - a) 18 2 (((zn : Nat) : Int)) true) (hz : (zn : Int) ≤ 64) (hE : (a : Int) + 20 + zn ≤ n) (hcE : ¬ c - a = 20) (hB : ∀ W, Keep (fun _ => False) w W → By W F (.slice (some ⟨g, o + a + 20, none⟩) zn (c - a - 20)) dat) :
    Calls Try.prog 62 #[.slice A n c, .int .i64 (a : Nat)] w (RGPost F w (⟨2, true, idx, 0, comp, dat⟩, (a : Int) + (20 + zn), 0)) := by
  have f0 : (0 : Int) ≤ (a : Int) := by omega
  have f1 : (a : Int) ≤ (n : Int) := by omega
  have f2 : (a : Int) ≤ (c : Int) := by omega
  have f3 : a ≤ c := by omega
  have m0 : (a : Int) < (n : Int) := by omega
  have m1 : (a : Int) + 1 < (n : Int) := by omega
  go_enter Try.func62, Try.ntmps62
  go_upto_region 5 with fail
  subst hA
  refine wp_world (S := fun X => X.heap[w.heap.size]? = some (.cells #[.int .i64 0, .bool false, .int .i64 0, .int .i64 0, .int .i64 0, .slice none 0 0] 83 (0, 0)) ∧ X.heap[w.heap.size + 1]? = some (.cells #[.int .i64 0, .bool false, .int .i64 0, .int .i64 0, .int .i64 0, .slice none 0 0] 83 (0, 0)) ∧ X.heap.size = w.heap.size + 2 ∧ Keep (fun _ => False) w X ∧ X.cell? ⟨g, o + a, none⟩ = some (.int .u8 (2)) ∧ X.cell? ⟨g, o + a + 1, none⟩ = some (.int .u8 (1))) ⟨(heap_alloc_old (w.alloc _) _ (by simp)).trans (heap_alloc_new w _), (by have := heap_alloc_new (w.alloc (.cells #[.int .i64 0, .bool false, .int .i64 0, .int .i64 0, .int .i64 0, .slice none 0 0] 83)) (.cells #[.int .i64 0, .bool false, .int .i64 0, .int .i64 0, .int .i64 0, .slice none 0 0] 83 (0, 0)); simpa using this), by simp, ((Keep.refl (fun _ => False) w).alloc _).alloc _, ((Keep.refl (fun _ => False) w).alloc _).alloc _ |>.cell (fun h => h) x0, ((Keep.refl (fun _ => False) w).alloc _).alloc _ |>.cell (fun h => h) x1⟩ ?_
  rintro X hX
  have HX := Lib.hid hX
  clear hX
  obtain ⟨r0, r1, r2, r3, r4, r5, rf⟩ := cells6 HX.out.1
  obtain ⟨q0, q1, q2, q3, q4, q5, qf⟩ := cells6 HX.out.2.1
  have y0 := HX.out.2.2.2.2.1
  have y1 := HX.out.2.2.2.2.2
  go_upto_region 17 with fail
  obtain ⟨q, hq⟩ : ∃ q, q = X.heap.size := ⟨_, rfl⟩
  have hq2 : w.heap.size + 1 < q := by have := HX.out.2.2.1; omega
  refine wp_world (S := fun Y => GSt w Y q ⟨2, true, 0, 0, 0, []⟩ (.slice none 0 0)) ⟨(heap_alloc_old X _ (by omega)).trans HX.out.1, (heap_alloc_old X _ (by omega)).trans HX.out.2.1, by rw [hq]; exact heap_alloc_new X _, hq2, HX.out.2.2.2.1.alloc _⟩ ?_
  rw [← hq]
  clear hq HX r0 r1 r2 r3 r4 r5 rf q0 q1 q2 q3 q4 q5 qf y0 y1
  intro Y0 hY
  have HY := Lib.hid hY
  clear hY
  have nq : w.heap.size ≤ q := by omega
  have nq1 : w.heap.size ≠ q := by omega
  have nq2 : q ≠ w.heap.size := by omega
  have nq3 : w.heap.size + 1 ≠ q := by omega
  have nq4 : q ≠ w.heap.size + 1 := by omega
  have H2 := Lib.hid (show ∀ W, Keep (fun _ => False) w W → Calls Try.prog 61 #[.slice (some ⟨g, o + a, none⟩) (n - a) (c - a), .int .i64 (2), .int .i64 8] W (fun e w' => e = .returned (.tuple #[.int .i64 idx, .bool k1]) ∧ W = w') from G2)
  obtain ⟨r0, r1, r2, r3, r4, r5, rf⟩ := cells6 HY.out.2.2.1
  have hK := HY.out.2.2.2.2
  go_upto_region 21 with (first | (go_at_call 61; (with_reducible refine (H2.out _ (by exact (by repeat first | assumption | exact Keep.refl _ _ | refine Keep.alloc ?_ _ | refine Keep.drew ?_ | refine Keep.drewN ?_ _ | refine Keep.setCell ?_ (.inl (by first | omega | (simp; done) | (simp; omega))) _))).mono ?_); rintro e w1 ⟨rfl, rfl⟩) | fail)
  refine wp_world (S := fun Y => GSt w Y q ⟨2, true, idx, 0, 0, []⟩ (.slice none 0 0)) (by first | (with_reducible exact HY.out.set 2 (.int .i64 idx) ⟨2, true, idx, 0, 0, []⟩ (.slice none 0 0) rfl) | (with_reducible exact GSt.drew (HY.out.set 2 (.int .i64 idx) ⟨2, true, idx, 0, 0, []⟩ (.slice none 0 0) rfl)) | (with_reducible exact GSt.drew (GSt.drew (HY.out.set 2 (.int .i64 idx) ⟨2, true, idx, 0, 0, []⟩ (.slice none 0 0) rfl)))) ?_
  clear r0 r1 r2 r3 r4 r5 rf hK HY
  intro Y1 hY
  have HY := Lib.hid hY
  clear hY
  have H4 := Lib.hid (show ∀ W, Keep (fun _ => False) w W → Calls Try.prog 61 #[.slice (some ⟨g, o + a, none⟩) (n - a) (c - a), .int .i64 (10), .int .i64 8] W (fun e w' => e = .returned (.tuple #[.int .i64 comp, .bool k3]) ∧ W = w') from G4)
  obtain ⟨r0, r1, r2, r3, r4, r5, rf⟩ := cells6 HY.out.2.2.1
  have hK := HY.out.2.2.2.2
  go_upto_region 25 with (first | (go_at_call 61; (with_reducible refine (H4.out _ (by exact (by repeat first | assumption | exact Keep.refl _ _ | refine Keep.alloc ?_ _ | refine Keep.drew ?_ | refine Keep.drewN ?_ _ | refine Keep.setCell ?_ (.inl (by first | omega | (simp; done) | (simp; omega))) _))).mono ?_); rintro e w1 ⟨rfl, rfl⟩) | fail)
  refine wp_world (S := fun Y => GSt w Y q ⟨2, true, idx, 0, comp, []⟩ (.slice none 0 0)) (by first | (with_reducible exact HY.out.set 4 (.int .i64 comp) ⟨2, true, idx, 0, comp, []⟩ (.slice none 0 0) rfl) | (with_reducible exact GSt.drew (HY.out.set 4 (.int .i64 comp) ⟨2, true, idx, 0, comp, []⟩ (.slice none 0 0) rfl)) | (with_reducible exact GSt.drew (GSt.drew (HY.out.set 4 (.int .i64 comp) ⟨2, true, idx, 0, comp, []⟩ (.slice none 0 0) rfl)))) ?_
  clear r0 r1 r2 r3 r4 r5 rf hK HY
  intro Y2 hY
  have HY := Lib.hid hY
  clear hY
  obtain ⟨r0, r1, r2, r3, r4, r5, rf⟩ := cells6 HY.out.2.2.1
  have hK := HY.out.2.2.2.2
  obtain ⟨s0, s1, s2, s3, s4, s5, sf⟩ := cells6 HY.out.1
  obtain ⟨u0, u1, u2, u3, u4, u5, uf⟩ := cells6 HY.out.2.1
  have H5 := Lib.hid (show ∀ W, Keep (fun _ => False) w W → Calls Try.prog 61 #[.slice (some ⟨g, o + a, none⟩) (n - a) (c - a), .int .i64 (18), .int .i64 2] W (fun e w' => e = .returned (.tuple #[.int .i64 ((zn : Nat) : Int), .bool true]) ∧ W = w') from G5)
  have hs1 : IntKind.i64.wrap (18 : Int) = 18 := IntWalk.i64_in _ (by omega)
  have hs2 : IntKind.i64.wrap (((n - a : Nat) : Int) - 20) = ((n - a : Nat) : Int) - 20 := IntWalk.i64_in _ (by omega)
  have hs3 : IntKind.i64.wrap (20 + ((zn : Nat) : Int)) = 20 + ((zn : Nat) : Int) := IntWalk.i64_in _ (by omega)
  go_wp2_with (first | (go_at_call 61; (with_reducible refine (H5.out _ (by exact (by repeat first | assumption | exact Keep.refl _ _ | refine Keep.alloc ?_ _ | refine Keep.drew ?_ | refine Keep.drewN ?_ _ | refine Keep.setCell ?_ (.inl (by first | omega | (simp; done) | (simp; omega))) _))).mono ?_); rintro e w1 ⟨rfl, rfl⟩) | fail)
  have HG := HY.out.set 5 (.slice (some ⟨g, o + a + 20, none⟩) zn (c - a - 20)) ⟨2, true, idx, 0, comp, []⟩ (.slice (some ⟨g, o + a + 20, none⟩) zn (c - a - 20)) rfl
  have KK := keepS6 (Y2.setCell ⟨q, 5, none⟩ (.slice (some ⟨g, o + a + 20, none⟩) zn (c - a - 20))) w.heap.size (.int .i64 2) (.bool true) (.int .i64 idx) (.int .i64 0) (.int .i64 comp) (.slice (some ⟨g, o + a + 20, none⟩) zn (c - a - 20))
  have HS := stored6 HG.1 (.int .i64 2) (.bool true) (.int .i64 idx) (.int .i64 0) (.int .i64 comp) (.slice (some ⟨g, o + a + 20, none⟩) zn (c - a - 20))
  have HF := HG.2.2.2.2.transQ KK (Nat.le_refl _)
  generalize (((((((Y2.setCell ⟨q, 5, none⟩ (.slice (some ⟨g, o + a + 20, none⟩) zn (c - a - 20))).setCell ⟨w.heap.size, 0, none⟩ (.int .i64 2)).setCell ⟨w.heap.size, 1, none⟩ (.bool true)).setCell ⟨w.heap.size, 2, none⟩ (.int .i64 idx)).setCell ⟨w.heap.size, 3, none⟩ (.int .i64 0)).setCell ⟨w.heap.size, 4, none⟩ (.int .i64 comp)).setCell ⟨w.heap.size, 5, none⟩ (.slice (some ⟨g, o + a + 20, none⟩) zn (c - a - 20))) = W7 at KK HS HF ⊢
  exact bodyPost_ret (results_cmd3 rfl _ _ w.heap.size _ _ _ _ _ _ rfl (show W7.heap[w.heap.size]? = _ from HS) _ _ rfl rfl) rfl ⟨_, _, _, rfl, hB W7 HF, HF.to_below'⟩
set_option maxHeartbeats 4000000 in
theorem rg_l2_inz (F : Nat → Prop) (a n c o g : Nat) (A : Option Addr) (hA : A = some ⟨g, o, none⟩) (w : World) (hn : n ≤ 1099511627776) (ha : a ≤ n) (hbc : n ≤ c) (hcm : c ≤ maxLen) (hc : ¬ c = a) (idx gen comp z : Int) (k1 k2 k3 : Bool) (h1 : a < n) (x0 : w.cell? ⟨g, o + a, none⟩ = some (.int .u8 (2))) (h2 : a + 1 < n) (x1 : w.cell? ⟨g, o + a + 1, none⟩ = some (.int .u8 (1))) (G2 : GetC w g (o + a) (n - a) 20 2 8 idx k1) (G4 : GetC w g (o + a) (n - a) 20 10 8 comp k3) (G5 : GetC w g (o + a) (n - a) 20 18 2 (0) true) (hE : (a : Int) + 20 ≤ n) (hcE : c - a = 20) :
    Calls Try.prog 62 #[.slice A n c, .int .i64 (a : Nat)] w (RGPost F w (⟨2, true, idx, 0, comp, []⟩, (a : Int) + 20, 0)) := by
  have f0 : (0 : Int) ≤ (a : Int) := by omega
  have f1 : (a : Int) ≤ (n : Int) := by omega
  have f2 : (a : Int) ≤ (c : Int) := by omega
  have f3 : a ≤ c := by omega
  have m0 : (a : Int) < (n : Int) := by omega
  have m1 : (a : Int) + 1 < (n : Int) := by omega
  go_enter Try.func62, Try.ntmps62
  go_upto_region 5 with fail
  subst hA
  refine wp_world (S := fun X => X.heap[w.heap.size]? = some (.cells #[.int .i64 0, .bool false, .int .i64 0, .int .i64 0, .int .i64 0, .slice none 0 0] 83 (0, 0)) ∧ X.heap[w.heap.size + 1]? = some (.cells #[.int .i64 0, .bool false, .int .i64 0, .int .i64 0, .int .i64 0, .slice none 0 0] 83 (0, 0)) ∧ X.heap.size = w.heap.size + 2 ∧ Keep (fun _ => False) w X ∧ X.cell? ⟨g, o + a, none⟩ = some (.int .u8 (2)) ∧ X.cell? ⟨g, o + a + 1, none⟩ = some (.int .u8 (1))) ⟨(heap_alloc_old (w.alloc _) _ (by simp)).trans (heap_alloc_new w _), (by have := heap_alloc_new (w.alloc (.cells #[.int .i64 0, .bool false, .int .i64 0, .int .i64 0, .int .i64 0, .slice none 0 0] 83)) (.cells #[.int .i64 0, .bool false, .int .i64 0, .int .i64 0, .int .i64 0, .slice none 0 0] 83 (0, 0)); simpa using this), by simp, ((Keep.refl (fun _ => False) w).alloc _).alloc _, ((Keep.refl (fun _ => False) w).alloc _).alloc _ |>.cell (fun h => h) x0, ((Keep.refl (fun _ => False) w).alloc _).alloc _ |>.cell (fun h => h) x1⟩ ?_
  rintro X hX
  have HX := Lib.hid hX
  clear hX
  obtain ⟨r0, r1, r2, r3, r4, r5, rf⟩ := cells6 HX.out.1
  obtain ⟨q0, q1, q2, q3, q4, q5, qf⟩ := cells6 HX.out.2.1
  have y0 := HX.out.2.2.2.2.1
  have y1 := HX.out.2.2.2.2.2
  go_upto_region 17 with fail
  obtain ⟨q, hq⟩ : ∃ q, q = X.heap.size := ⟨_, rfl⟩
  have hq2 : w.heap.size + 1 < q := by have := HX.out.2.2.1; omega
  refine wp_world (S := fun Y => GSt w Y q ⟨2, true, 0, 0, 0, []⟩ (.slice none 0 0)) ⟨(heap_alloc_old X _ (by omega)).trans HX.out.1, (heap_alloc_old X _ (by omega)).trans HX.out.2.1, by rw [hq]; exact heap_alloc_new X _, hq2, HX.out.2.2.2.1.alloc _⟩ ?_
  rw [← hq]
  clear hq HX r0 r1 r2 r3 r4 r5 rf q0 q1 q2 q3 q4 q5 qf y0 y1
  intro Y0 hY
  have HY := Lib.hid hY
  clear hY
  have nq : w.heap.size ≤ q := by omega
  have nq1 : w.heap.size ≠ q := by omega
  have nq2 : q ≠ w.heap.size := by omega
  have nq3 : w.heap.size + 1 ≠ q := by omega
  have nq4 : q ≠ w.heap.size + 1 := by omega
  have H2 := Lib.hid (show ∀ W, Keep (fun _ => False) w W → Calls Try.prog 61 #[.slice (some ⟨g, o + a, none⟩) (n - a) 20, .int .i64 (2), .int .i64 8] W (fun e w' => e = .returned (.tuple #[.int .i64 idx, .bool k1]) ∧ W = w') from G2)
  obtain ⟨r0, r1, r2, r3, r4, r5, rf⟩ := cells6 HY.out.2.2.1
  have hK := HY.out.2.2.2.2
  go_upto_region 21 with (first | (go_at_call 61; (with_reducible refine (H2.out _ (by exact (by repeat first | assumption | exact Keep.refl _ _ | refine Keep.alloc ?_ _ | refine Keep.drew ?_ | refine Keep.drewN ?_ _ | refine Keep.setCell ?_ (.inl (by first | omega | (simp; done) | (simp; omega))) _))).mono ?_); rintro e w1 ⟨rfl, rfl⟩) | fail)
  refine wp_world (S := fun Y => GSt w Y q ⟨2, true, idx, 0, 0, []⟩ (.slice none 0 0)) (by first | (with_reducible exact HY.out.set 2 (.int .i64 idx) ⟨2, true, idx, 0, 0, []⟩ (.slice none 0 0) rfl) | (with_reducible exact GSt.drew (HY.out.set 2 (.int .i64 idx) ⟨2, true, idx, 0, 0, []⟩ (.slice none 0 0) rfl)) | (with_reducible exact GSt.drew (GSt.drew (HY.out.set 2 (.int .i64 idx) ⟨2, true, idx, 0, 0, []⟩ (.slice none 0 0) rfl)))) ?_
  clear r0 r1 r2 r3 r4 r5 rf hK HY
  intro Y1 hY
  have HY := Lib.hid hY
  clear hY
  have H4 := Lib.hid (show ∀ W, Keep (fun _ => False) w W → Calls Try.prog 61 #[.slice (some ⟨g, o + a, none⟩) (n - a) 20, .int .i64 (10), .int .i64 8] W (fun e w' => e = .returned (.tuple #[.int .i64 comp, .bool k3]) ∧ W = w') from G4)
  obtain ⟨r0, r1, r2, r3, r4, r5, rf⟩ := cells6 HY.out.2.2.1
  have hK := HY.out.2.2.2.2
  go_upto_region 25 with (first | (go_at_call 61; (with_reducible refine (H4.out _ (by exact (by repeat first | assumption | exact Keep.refl _ _ | refine Keep.alloc ?_ _ | refine Keep.drew ?_ | refine Keep.drewN ?_ _ | refine Keep.setCell ?_ (.inl (by first | omega | (simp; done) | (simp; omega))) _))).mono ?_); rintro e w1 ⟨rfl, rfl⟩) | fail)
  refine wp_world (S := fun Y => GSt w Y q ⟨2, true, idx, 0, comp, []⟩ (.slice none 0 0)) (by first | (with_reducible exact HY.out.set 4 (.int .i64 comp) ⟨2, true, idx, 0, comp, []⟩ (.slice none 0 0) rfl) | (with_reducible exact GSt.drew (HY.out.set 4 (.int .i64 comp) ⟨2, true, idx, 0, comp, []⟩ (.slice none 0 0) rfl)) | (with_reducible exact GSt.drew (GSt.drew (HY.out.set 4 (.int .i64 comp) ⟨2, true, idx, 0, comp, []⟩ (.slice none 0 0) rfl)))) ?_
  clear r0 r1 r2 r3 r4 r5 rf hK HY
  intro Y2 hY
  have HY := Lib.hid hY
  clear hY
  obtain ⟨r0, r1, r2, r3, r4, r5, rf⟩ := cells6 HY.out.2.2.1
  have hK := HY.out.2.2.2.2
  obtain ⟨s0, s1, s2, s3, s4, s5, sf⟩ := cells6 HY.out.1
  obtain ⟨u0, u1, u2, u3, u4, u5, uf⟩ := cells6 HY.out.2.1
  have H5 := Lib.hid (show ∀ W, Keep (fun _ => False) w W → Calls Try.prog 61 #[.slice (some ⟨g, o + a, none⟩) (n - a) 20, .int .i64 (18), .int .i64 2] W (fun e w' => e = .returned (.tuple #[.int .i64 0, .bool true]) ∧ W = w') from G5)
  have hs1 : IntKind.i64.wrap (18 : Int) = 18 := IntWalk.i64_in _ (by omega)
  have hs2 : IntKind.i64.wrap (((n - a : Nat) : Int) - 20) = ((n - a : Nat) : Int) - 20 := IntWalk.i64_in _ (by omega)
  have hs3 : IntKind.i64.wrap (20 + 0) = 20 + 0 := IntWalk.i64_in _ (by omega)
  go_wp2_with (first | (go_at_call 61; (with_reducible refine (H5.out _ (by exact (by repeat first | assumption | exact Keep.refl _ _ | refine Keep.alloc ?_ _ | refine Keep.drew ?_ | refine Keep.drewN ?_ _ | refine Keep.setCell ?_ (.inl (by first | omega | (simp; done) | (simp; omega))) _))).mono ?_); rintro e w1 ⟨rfl, rfl⟩) | fail)
  have HG := HY.out.set 5 (.slice (some ⟨g, o + a, none⟩) 0 0) ⟨2, true, idx, 0, comp, []⟩ (.slice (some ⟨g, o + a, none⟩) 0 0) rfl
  have KK := keepS6 (Y2.setCell ⟨q, 5, none⟩ (.slice (some ⟨g, o + a, none⟩) 0 0)) w.heap.size (.int .i64 2) (.bool true) (.int .i64 idx) (.int .i64 0) (.int .i64 comp) (.slice (some ⟨g, o + a, none⟩) 0 0)
  have HS := stored6 HG.1 (.int .i64 2) (.bool true) (.int .i64 idx) (.int .i64 0) (.int .i64 comp) (.slice (some ⟨g, o + a, none⟩) 0 0)
  have HF := HG.2.2.2.2.transQ KK (Nat.le_refl _)
  generalize (((((((Y2.setCell ⟨q, 5, none⟩ (.slice (some ⟨g, o + a, none⟩) 0 0)).setCell ⟨w.heap.size, 0, none⟩ (.int .i64 2)).setCell ⟨w.heap.size, 1, none⟩ (.bool true)).setCell ⟨w.heap.size, 2, none⟩ (.int .i64 idx)).setCell ⟨w.heap.size, 3, none⟩ (.int .i64 0)).setCell ⟨w.heap.size, 4, none⟩ (.int .i64 comp)).setCell ⟨w.heap.size, 5, none⟩ (.slice (some ⟨g, o + a, none⟩) 0 0)) = W7 at KK HS HF ⊢
  exact bodyPost_ret (results_cmd3 rfl _ _ w.heap.size _ _ _ _ _ _ rfl (show W7.heap[w.heap.size]? = _ from HS) _ _ rfl rfl) rfl ⟨_, _, _, rfl, By.zero _ _ _, HF.to_below'⟩
set_option maxHeartbeats 4000000 in
theorem rg_l2_shorty (F : Nat → Prop) (a n c o g : Nat) (A : Option Addr) (hA : A = some ⟨g, o, none⟩) (w : World) (hn : n ≤ 1099511627776) (ha : a ≤ n) (hbc : n ≤ c) (hcm : c ≤ maxLen) (hc : ¬ c = a) (idx gen comp z : Int) (k1 k2 k3 : Bool) (h1 : a < n) (x0 : w.cell? ⟨g, o + a, none⟩ = some (.int .u8 (2))) (h2 : a + 1 < n) (x1 : w.cell? ⟨g, o + a + 1, none⟩ = some (.int .u8 (1))) (G2 : GetC w g (o + a) (n - a) (c - a) 2 8 idx k1) (G4 : GetC w g (o + a) (n - a) (c - a) 10 8 comp k3) (G5 : GetC w g (o + a) (n - a) (c - a) 18 2 (z) true) (hz0 : 0 ≤ z) (hz : z ≤ 64) (hE : (n : Int) < (a : Int) + 20 + z) :
    Calls Try.prog 62 #[.slice A n c, .int .i64 (a : Nat)] w (RGPost F w (zeroC, 0, 12)) := by
  have f0 : (0 : Int) ≤ (a : Int) := by omega
  have f1 : (a : Int) ≤ (n : Int) := by omega
  have f2 : (a : Int) ≤ (c : Int) := by omega
  have f3 : a ≤ c := by omega
  have m0 : (a : Int) < (n : Int) := by omega
  have m1 : (a : Int) + 1 < (n : Int) := by omega
  go_enter Try.func62, Try.ntmps62
  go_upto_region 5 with fail
  subst hA
  refine wp_world (S := fun X => X.heap[w.heap.size]? = some (.cells #[.int .i64 0, .bool false, .int .i64 0, .int .i64 0, .int .i64 0, .slice none 0 0] 83 (0, 0)) ∧ X.heap[w.heap.size + 1]? = some (.cells #[.int .i64 0, .bool false, .int .i64 0, .int .i64 0, .int .i64 0, .slice none 0 0] 83 (0, 0)) ∧ X.heap.size = w.heap.size + 2 ∧ Keep (fun _ => False) w X ∧ X.cell? ⟨g, o + a, none⟩ = some (.int .u8 (2)) ∧ X.cell? ⟨g, o + a + 1, none⟩ = some (.int .u8 (1))) ⟨(heap_alloc_old (w.alloc _) _ (by simp)).trans (heap_alloc_new w _), (by have := heap_alloc_new (w.alloc (.cells #[.int .i64 0, .bool false, .int .i64 0, .int .i64 0, .int .i64 0, .slice none 0 0] 83)) (.cells #[.int .i64 0, .bool false, .int .i64 0, .int .i64 0, .int .i64 0, .slice none 0 0] 83 (0, 0)); simpa using this), by simp, ((Keep.refl (fun _ => False) w).alloc _).alloc _, ((Keep.refl (fun _ => False) w).alloc _).alloc _ |>.cell (fun h => h) x0, ((Keep.refl (fun _ => False) w).alloc _).alloc _ |>.cell (fun h => h) x1⟩ ?_
  rintro X hX
  have HX := Lib.hid hX
  clear hX
  obtain ⟨r0, r1, r2, r3, r4, r5, rf⟩ := cells6 HX.out.1
  obtain ⟨q0, q1, q2, q3, q4, q5, qf⟩ := cells6 HX.out.2.1
  have y0 := HX.out.2.2.2.2.1
  have y1 := HX.out.2.2.2.2.2
  go_upto_region 17 with fail
  obtain ⟨q, hq⟩ : ∃ q, q = X.heap.size := ⟨_, rfl⟩
  have hq2 : w.heap.size + 1 < q := by have := HX.out.2.2.1; omega
  refine wp_world (S := fun Y => GSt w Y q ⟨2, true, 0, 0, 0, []⟩ (.slice none 0 0)) ⟨(heap_alloc_old X _ (by omega)).trans HX.out.1, (heap_alloc_old X _ (by omega)).trans HX.out.2.1, by rw [hq]; exact heap_alloc_new X _, hq2, HX.out.2.2.2.1.alloc _⟩ ?_
  rw [← hq]
  clear hq HX r0 r1 r2 r3 r4 r5 rf q0 q1 q2 q3 q4 q5 qf y0 y1
  intro Y0 hY
  have HY := Lib.hid hY
  clear hY
  have nq : w.heap.size ≤ q := by omega
  have nq1 : w.heap.size ≠ q := by omega
  have nq2 : q ≠ w.heap.size := by omega
  have nq3 : w.heap.size + 1 ≠ q := by omega
  have nq4 : q ≠ w.heap.size + 1 := by omega
  have H2 := Lib.hid (show ∀ W, Keep (fun _ => False) w W → Calls Try.prog 61 #[.slice (some ⟨g, o + a, none⟩) (n - a) (c - a), .int .i64 (2), .int .i64 8] W (fun e w' => e = .returned (.tuple #[.int .i64 idx, .bool k1]) ∧ W = w') from G2)
  obtain ⟨r0, r1, r2, r3, r4, r5, rf⟩ := cells6 HY.out.2.2.1
  have hK := HY.out.2.2.2.2
  go_upto_region 21 with (first | (go_at_call 61; (with_reducible refine (H2.out _ (by exact (by repeat first | assumption | exact Keep.refl _ _ | refine Keep.alloc ?_ _ | refine Keep.drew ?_ | refine Keep.drewN ?_ _ | refine Keep.setCell ?_ (.inl (by first | omega | (simp; done) | (simp; omega))) _))).mono ?_); rintro e w1 ⟨rfl, rfl⟩) | fail)
  refine wp_world (S := fun Y => GSt w Y q ⟨2, true, idx, 0, 0, []⟩ (.slice none 0 0)) (by first | (with_reducible exact HY.out.set 2 (.int .i64 idx) ⟨2, true, idx, 0, 0, []⟩ (.slice none 0 0) rfl) | (with_reducible exact GSt.drew (HY.out.set 2 (.int .i64 idx) ⟨2, true, idx, 0, 0, []⟩ (.slice none 0 0) rfl)) | (with_reducible exact GSt.drew (GSt.drew (HY.out.set 2 (.int .i64 idx) ⟨2, true, idx, 0, 0, []⟩ (.slice none 0 0) rfl)))) ?_
  clear r0 r1 r2 r3 r4 r5 rf hK HY
  intro Y1 hY
  have HY := Lib.hid hY
  clear hY
  have H4 := Lib.hid (show ∀ W, Keep (fun _ => False) w W → Calls Try.prog 61 #[.slice (some ⟨g, o + a, none⟩) (n - a) (c - a), .int .i64 (10), .int .i64 8] W (fun e w' => e = .returned (.tuple #[.int .i64 comp, .bool k3]) ∧ W = w') from G4)
  obtain ⟨r0, r1, r2, r3, r4, r5, rf⟩ := cells6 HY.out.2.2.1
  have hK := HY.out.2.2.2.2
  go_upto_region 25 with (first | (go_at_call 61; (with_reducible refine (H4.out _ (by exact (by repeat first | assumption | exact Keep.refl _ _ | refine Keep.alloc ?_ _ | refine Keep.drew ?_ | refine Keep.drewN ?_ _ | refine Keep.setCell ?_ (.inl (by first | omega | (simp; done) | (simp; omega))) _))).mono ?_); rintro e w1 ⟨rfl, rfl⟩) | fail)
  refine wp_world (S := fun Y => GSt w Y q ⟨2, true, idx, 0, comp, []⟩ (.slice none 0 0)) (by first | (with_reducible exact HY.out.set 4 (.int .i64 comp) ⟨2, true, idx, 0, comp, []⟩ (.slice none 0 0) rfl) | (with_reducible exact GSt.drew (HY.out.set 4 (.int .i64 comp) ⟨2, true, idx, 0, comp, []⟩ (.slice none 0 0) rfl)) | (with_reducible exact GSt.drew (GSt.drew (HY.out.set 4 (.int .i64 comp) ⟨2, true, idx, 0, comp, []⟩ (.slice none 0 0) rfl)))) ?_
  clear r0 r1 r2 r3 r4 r5 rf hK HY
  intro Y2 hY
  have HY := Lib.hid hY
  clear hY
  obtain ⟨r0, r1, r2, r3, r4, r5, rf⟩ := cells6 HY.out.2.2.1
  have hK := HY.out.2.2.2.2
  obtain ⟨s0, s1, s2, s3, s4, s5, sf⟩ := cells6 HY.out.1
  obtain ⟨u0, u1, u2, u3, u4, u5, uf⟩ := cells6 HY.out.2.1
  have H5 := Lib.hid (show ∀ W, Keep (fun _ => False) w W → Calls Try.prog 61 #[.slice (some ⟨g, o + a, none⟩) (n - a) (c - a), .int .i64 (18), .int .i64 2] W (fun e w' => e = .returned (.tuple #[.int .i64 z, .bool true]) ∧ W = w') from G5)
  have hs1 : IntKind.i64.wrap (18 : Int) = 18 := IntWalk.i64_in _ (by omega)
  have hs2 : IntKind.i64.wrap (((n - a : Nat) : Int) - 20) = ((n - a : Nat) : Int) - 20 := IntWalk.i64_in _ (by omega)
  have hs3 : IntKind.i64.wrap (20 + z) = 20 + z := IntWalk.i64_in _ (by omega)
  go_wp2_with (first | (go_at_call 61; (with_reducible refine (H5.out _ (by exact (by repeat first | assumption | exact Keep.refl _ _ | refine Keep.alloc ?_ _ | refine Keep.drew ?_ | refine Keep.drewN ?_ _ | refine Keep.setCell ?_ (.inl (by first | omega | (simp; done) | (simp; omega))) _))).mono ?_); rintro e w1 ⟨rfl, rfl⟩) | fail)
  have KK := keepS6 Y2 w.heap.size (.int .i64 0) (.bool false) (.int .i64 0) (.int .i64 0) (.int .i64 0) (.slice none 0 0)
  have HS := stored6 (HY.out.1) (.int .i64 0) (.bool false) (.int .i64 0) (.int .i64 0) (.int .i64 0) (.slice none 0 0)
  generalize ((((((Y2.setCell ⟨w.heap.size, 0, none⟩ (.int .i64 0)).setCell ⟨w.heap.size, 1, none⟩ (.bool false)).setCell ⟨w.heap.size, 2, none⟩ (.int .i64 0)).setCell ⟨w.heap.size, 3, none⟩ (.int .i64 0)).setCell ⟨w.heap.size, 4, none⟩ (.int .i64 0)).setCell ⟨w.heap.size, 5, none⟩ (.slice none 0 0)) = W7 at KK HS ⊢
  exact bodyPost_ret (results_cmd3 rfl _ _ w.heap.size _ _ _ _ _ _ rfl (show W7.heap[w.heap.size]? = _ from HS) _ _ rfl rfl) rfl ⟨none, 0, 0, rfl, By.nil _ _, ((HY.out.2.2.2.2).transQ KK (Nat.le_refl _)).to_below'⟩
set_option maxHeartbeats 4000000 in
theorem rg_l2_shortn (F : Nat → Prop) (a n c o g : Nat) (A : Option Addr) (hA : A = some ⟨g, o, none⟩) (w : World) (hn : n ≤ 1099511627776) (ha : a ≤ n) (hbc : n ≤ c) (hcm : c ≤ maxLen) (hc : ¬ c = a) (idx gen comp z : Int) (k1 k2 k3 : Bool) (h1 : a < n) (x0 : w.cell? ⟨g, o + a, none⟩ = some (.int .u8 (2))) (h2 : a + 1 < n) (x1 : w.cell? ⟨g, o + a + 1, none⟩ = some (.int .u8 (1))) (G2 : GetC w g (o + a) (n - a) (c - a) 2 8 idx k1) (G4 : GetC w g (o + a) (n - a) (c - a) 10 8 comp k3) (G5 : GetC w g (o + a) (n - a) (c - a) 18 2 (0) false) (hE : (n : Int) < (a : Int) + 20) :
    Calls Try.prog 62 #[.slice A n c, .int .i64 (a : Nat)] w (RGPost F w (zeroC, 0, 12)) := by
  have f0 : (0 : Int) ≤ (a : Int) := by omega
  have f1 : (a : Int) ≤ (n : Int) := by omega
  have f2 : (a : Int) ≤ (c : Int) := by omega
  have f3 : a ≤ c := by omega
  have m0 : (a : Int) < (n : Int) := by omega
  have m1 : (a : Int) + 1 < (n : Int) := by omega
  go_enter Try.func62, Try.ntmps62
  go_upto_region 5 with fail
  subst hA
  refine wp_world (S := fun X => X.heap[w.heap.size]? = some (.cells #[.int .i64 0, .bool false, .int .i64 0, .int .i64 0, .int .i64 0, .slice none 0 0] 83 (0, 0)) ∧ X.heap[w.heap.size + 1]? = some (.cells #[.int .i64 0, .bool false, .int .i64 0, .int .i64 0, .int .i64 0, .slice none 0 0] 83 (0, 0)) ∧ X.heap.size = w.heap.size + 2 ∧ Keep (fun _ => False) w X ∧ X.cell? ⟨g, o + a, none⟩ = some (.int .u8 (2)) ∧ X.cell? ⟨g, o + a + 1, none⟩ = some (.int .u8 (1))) ⟨(heap_alloc_old (w.alloc _) _ (by simp)).trans (heap_alloc_new w _), (by have := heap_alloc_new (w.alloc (.cells #[.int .i64 0, .bool false, .int .i64 0, .int .i64 0, .int .i64 0, .slice none 0 0] 83)) (.cells #[.int .i64 0, .bool false, .int .i64 0, .int .i64 0, .int .i64 0, .slice none 0 0] 83 (0, 0)); simpa using this), by simp, ((Keep.refl (fun _ => False) w).alloc _).alloc _, ((Keep.refl (fun _ => False) w).alloc _).alloc _ |>.cell (fun h => h) x0, ((Keep.refl (fun _ => False) w).alloc _).alloc _ |>.cell (fun h => h) x1⟩ ?_
  rintro X hX
  have HX := Lib.hid hX
  clear hX
  obtain ⟨r0, r1, r2, r3, r4, r5, rf⟩ := cells6 HX.out.1
  obtain ⟨q0, q1, q2, q3, q4, q5, qf⟩ := cells6 HX.out.2.1
  have y0 := HX.out.2.2.2.2.1
  have y1 := HX.out.2.2.2.2.2
  go_upto_region 17 with fail
  obtain ⟨q, hq⟩ : ∃ q, q = X.heap.size := ⟨_, rfl⟩
  have hq2 : w.heap.size + 1 < q := by have := HX.out.2.2.1; omega
  refine wp_world (S := fun Y => GSt w Y q ⟨2, true, 0, 0, 0, []⟩ (.slice none 0 0)) ⟨(heap_alloc_old X _ (by omega)).trans HX.out.1, (heap_alloc_old X _ (by omega)).trans HX.out.2.1, by rw [hq]; exact heap_alloc_new X _, hq2, HX.out.2.2.2.1.alloc _⟩ ?_
  rw [← hq]
  clear hq HX r0 r1 r2 r3 r4 r5 rf q0 q1 q2 q3 q4 q5 qf y0 y1
  intro Y0 hY
  have HY := Lib.hid hY
  clear hY
  have nq : w.heap.size ≤ q := by omega
  have nq1 : w.heap.size ≠ q := by omega
  have nq2 : q ≠ w.heap.size := by omega
  have nq3 : w.heap.size + 1 ≠ q := by omega
  have nq4 : q ≠ w.heap.size + 1 := by omega
  have H2 := Lib.hid (show ∀ W, Keep (fun _ => False) w W → Calls Try.prog 61 #[.slice (some ⟨g, o + a, none⟩) (n - a) (c - a), .int .i64 (2), .int .i64 8] W (fun e w' => e = .returned (.tuple #[.int .i64 idx, .bool k1]) ∧ W = w') from G2)
  obtain ⟨r0, r1, r2, r3, r4, r5, rf⟩ := cells6 HY.out.2.2.1
  have hK := HY.out.2.2.2.2
  go_upto_region 21 with (first | (go_at_call 61; (with_reducible refine (H2.out _ (by exact (by repeat first | assumption | exact Keep.refl _ _ | refine Keep.alloc ?_ _ | refine Keep.drew ?_ | refine Keep.drewN ?_ _ | refine Keep.setCell ?_ (.inl (by first | omega | (simp; done) | (simp; omega))) _))).mono ?_); rintro e w1 ⟨rfl, rfl⟩) | fail)
  refine wp_world (S := fun Y => GSt w Y q ⟨2, true, idx, 0, 0, []⟩ (.slice none 0 0)) (by first | (with_reducible exact HY.out.set 2 (.int .i64 idx) ⟨2, true, idx, 0, 0, []⟩ (.slice none 0 0) rfl) | (with_reducible exact GSt.drew (HY.out.set 2 (.int .i64 idx) ⟨2, true, idx, 0, 0, []⟩ (.slice none 0 0) rfl)) | (with_reducible exact GSt.drew (GSt.drew (HY.out.set 2 (.int .i64 idx) ⟨2, true, idx, 0, 0, []⟩ (.slice none 0 0) rfl)))) ?_
  clear r0 r1 r2 r3 r4 r5 rf hK HY
  intro Y1 hY
  have HY := Lib.hid hY
  clear hY
  have H4 := Lib.hid (show ∀ W, Keep (fun _ => False) w W → Calls Try.prog 61 #[.slice (some ⟨g, o + a, none⟩) (n - a) (c - a), .int .i64 (10), .int .i64 8] W (fun e w' => e = .returned (.tuple #[.int .i64 comp, .bool k3]) ∧ W = w') from G4)
  obtain ⟨r0, r1, r2, r3, r4, r5, rf⟩ := cells6 HY.out.2.2.1
  have hK := HY.out.2.2.2.2
  go_upto_region 25 with (first | (go_at_call 61; (with_reducible refine (H4.out _ (by exact (by repeat first | assumption | exact Keep.refl _ _ | refine Keep.alloc ?_ _ | refine Keep.drew ?_ | refine Keep.drewN ?_ _ | refine Keep.setCell ?_ (.inl (by first | omega | (simp; done) | (simp; omega))) _))).mono ?_); rintro e w1 ⟨rfl, rfl⟩) | fail)
  refine wp_world (S := fun Y => GSt w Y q ⟨2, true, idx, 0, comp, []⟩ (.slice none 0 0)) (by first | (with_reducible exact HY.out.set 4 (.int .i64 comp) ⟨2, true, idx, 0, comp, []⟩ (.slice none 0 0) rfl) | (with_reducible exact GSt.drew (HY.out.set 4 (.int .i64 comp) ⟨2, true, idx, 0, comp, []⟩ (.slice none 0 0) rfl)) | (with_reducible exact GSt.drew (GSt.drew (HY.out.set 4 (.int .i64 comp) ⟨2, true, idx, 0, comp, []⟩ (.slice none 0 0) rfl)))) ?_
  clear r0 r1 r2 r3 r4 r5 rf hK HY
  intro Y2 hY
  have HY := Lib.hid hY
  clear hY
  obtain ⟨r0, r1, r2, r3, r4, r5, rf⟩ := cells6 HY.out.2.2.1
  have hK := HY.out.2.2.2.2
  obtain ⟨s0, s1, s2, s3, s4, s5, sf⟩ := cells6 HY.out.1
  obtain ⟨u0, u1, u2, u3, u4, u5, uf⟩ := cells6 HY.out.2.1
  have H5 := Lib.hid (show ∀ W, Keep (fun _ => False) w W → Calls Try.prog 61 #[.slice (some ⟨g, o + a, none⟩) (n - a) (c - a), .int .i64 (18), .int .i64 2] W (fun e w' => e = .returned (.tuple #[.int .i64 0, .bool false]) ∧ W = w') from G5)
  have hs1 : IntKind.i64.wrap (18 : Int) = 18 := IntWalk.i64_in _ (by omega)
  have hs2 : IntKind.i64.wrap (((n - a : Nat) : Int) - 20) = ((n - a : Nat) : Int) - 20 := IntWalk.i64_in _ (by omega)
  have hs3 : IntKind.i64.wrap (20 + 0) = 20 + 0 := IntWalk.i64_in _ (by omega)
  go_wp2_with (first | (go_at_call 61; (with_reducible refine (H5.out _ (by exact (by repeat first | assumption | exact Keep.refl _ _ | refine Keep.alloc ?_ _ | refine Keep.drew ?_ | refine Keep.drewN ?_ _ | refine Keep.setCell ?_ (.inl (by first | omega | (simp; done) | (simp; omega))) _))).mono ?_); rintro e w1 ⟨rfl, rfl⟩) | fail)
  have KK := keepS6 Y2 w.heap.size (.int .i64 0) (.bool false) (.int .i64 0) (.int .i64 0) (.int .i64 0) (.slice none 0 0)
  have HS := stored6 (HY.out.1) (.int .i64 0) (.bool false) (.int .i64 0) (.int .i64 0) (.int .i64 0) (.slice none 0 0)
  generalize ((((((Y2.setCell ⟨w.heap.size, 0, none⟩ (.int .i64 0)).setCell ⟨w.heap.size, 1, none⟩ (.bool false)).setCell ⟨w.heap.size, 2, none⟩ (.int .i64 0)).setCell ⟨w.heap.size, 3, none⟩ (.int .i64 0)).setCell ⟨w.heap.size, 4, none⟩ (.int .i64 0)).setCell ⟨w.heap.size, 5, none⟩ (.slice none 0 0)) = W7 at KK HS ⊢
  exact bodyPost_ret (results_cmd3 rfl _ _ w.heap.size _ _ _ _ _ _ rfl (show W7.heap[w.heap.size]? = _ from HS) _ _ rfl rfl) rfl ⟨none, 0, 0, rfl, By.nil _ _, ((HY.out.2.2.2.2).transQ KK (Nat.le_refl _)).to_below'⟩
set_option maxHeartbeats 4000000 in
theorem rg_g2_big (F : Nat → Prop) (a n c o g : Nat) (A : Option Addr) (hA : A = some ⟨g, o, none⟩) (w : World) (hn : n ≤ 1099511627776) (ha : a ≤ n) (hbc : n ≤ c) (hcm : c ≤ maxLen) (hc : ¬ c = a) (idx gen comp z : Int) (k1 k2 k3 : Bool) (h1 : a < n) (x0 : w.cell? ⟨g, o + a, none⟩ = some (.int .u8 (2))) (h2 : a + 1 < n) (x1 : w.cell? ⟨g, o + a + 1, none⟩ = some (.int .u8 (0))) (G2 : GetC w g (o + a) (n - a) (c - a) 2 8 idx k1) (G3 : GetC w g (o + a) (n - a) (c - a) 10 8 gen k2) (G4 : GetC w g (o + a) (n - a) (c - a) 18 8 comp k3) (G5 : GetC w g (o + a) (n - a) (c - a) 26 2 (z) true) (hz : 64 < z) :
    Calls Try.prog 62 #[.slice A n c, .int .i64 (a : Nat)] w (RGPost F w (zeroC, 0, 13)) := by
  have f0 : (0 : Int) ≤ (a : Int) := by omega
  have f1 : (a : Int) ≤ (n : Int) := by omega
  have f2 : (a : Int) ≤ (c : Int) := by omega
  have f3 : a ≤ c := by omega
  have m0 : (a : Int) < (n : Int) := by omega
  have m1 : (a : Int) + 1 < (n : Int) := by omega
  go_enter Try.func62, Try.ntmps62
  go_upto_region 5 with fail
  subst hA
  refine wp_world (S := fun X => X.heap[w.heap.size]? = some (.cells #[.int .i64 0, .bool false, .int .i64 0, .int .i64 0, .int .i64 0, .slice none 0 0] 83 (0, 0)) ∧ X.heap[w.heap.size + 1]? = some (.cells #[.int .i64 0, .bool false, .int .i64 0, .int .i64 0, .int .i64 0, .slice none 0 0] 83 (0, 0)) ∧ X.heap.size = w.heap.size + 2 ∧ Keep (fun _ => False) w X ∧ X.cell? ⟨g, o + a, none⟩ = some (.int .u8 (2)) ∧ X.cell? ⟨g, o + a + 1, none⟩ = some (.int .u8 (0))) ⟨(heap_alloc_old (w.alloc _) _ (by simp)).trans (heap_alloc_new w _), (by have := heap_alloc_new (w.alloc (.cells #[.int .i64 0, .bool false, .int .i64 0, .int .i64 0, .int .i64 0, .slice none 0 0] 83)) (.cells #[.int .i64 0, .bool false, .int .i64 0, .int .i64 0, .int .i64 0, .slice none 0 0] 83 (0, 0)); simpa using this), by simp, ((Keep.refl (fun _ => False) w).alloc _).alloc _, ((Keep.refl (fun _ => False) w).alloc _).alloc _ |>.cell (fun h => h) x0, ((Keep.refl (fun _ => False) w).alloc _).alloc _ |>.cell (fun h => h) x1⟩ ?_
  rintro X hX
  have HX := Lib.hid hX
  clear hX
  obtain ⟨r0, r1, r2, r3, r4, r5, rf⟩ := cells6 HX.out.1
  obtain ⟨q0, q1, q2, q3, q4, q5, qf⟩ := cells6 HX.out.2.1
  have y0 := HX.out.2.2.2.2.1
  have y1 := HX.out.2.2.2.2.2
  go_upto_region 17 with fail
  obtain ⟨q, hq⟩ : ∃ q, q = X.heap.size := ⟨_, rfl⟩
  have hq2 : w.heap.size + 1 < q := by have := HX.out.2.2.1; omega
  refine wp_world (S := fun Y => GSt w Y q ⟨2, false, 0, 0, 0, []⟩ (.slice none 0 0)) ⟨(heap_alloc_old X _ (by omega)).trans HX.out.1, (heap_alloc_old X _ (by omega)).trans HX.out.2.1, by rw [hq]; exact heap_alloc_new X _, hq2, HX.out.2.2.2.1.alloc _⟩ ?_
  rw [← hq]
  clear hq HX r0 r1 r2 r3 r4 r5 rf q0 q1 q2 q3 q4 q5 qf y0 y1
  intro Y0 hY
  have HY := Lib.hid hY
  clear hY
  have nq : w.heap.size ≤ q := by omega
  have nq1 : w.heap.size ≠ q := by omega
  have nq2 : q ≠ w.heap.size := by omega
  have nq3 : w.heap.size + 1 ≠ q := by omega
  have nq4 : q ≠ w.heap.size + 1 := by omega
  have H2 := Lib.hid (show ∀ W, Keep (fun _ => False) w W → Calls Try.prog 61 #[.slice (some ⟨g, o + a, none⟩) (n - a) (c - a), .int .i64 (2), .int .i64 8] W (fun e w' => e = .returned (.tuple #[.int .i64 idx, .bool k1]) ∧ W = w') from G2)
  obtain ⟨r0, r1, r2, r3, r4, r5, rf⟩ := cells6 HY.out.2.2.1
  have hK := HY.out.2.2.2.2
  go_upto_region 21 with (first | (go_at_call 61; (with_reducible refine (H2.out _ (by exact (by repeat first | assumption | exact Keep.refl _ _ | refine Keep.alloc ?_ _ | refine Keep.drew ?_ | refine Keep.drewN ?_ _ | refine Keep.setCell ?_ (.inl (by first | omega | (simp; done) | (simp; omega))) _))).mono ?_); rintro e w1 ⟨rfl, rfl⟩) | fail)
  refine wp_world (S := fun Y => GSt w Y q ⟨2, false, idx, 0, 0, []⟩ (.slice none 0 0)) (by first | (with_reducible exact HY.out.set 2 (.int .i64 idx) ⟨2, false, idx, 0, 0, []⟩ (.slice none 0 0) rfl) | (with_reducible exact GSt.drew (HY.out.set 2 (.int .i64 idx) ⟨2, false, idx, 0, 0, []⟩ (.slice none 0 0) rfl)) | (with_reducible exact GSt.drew (GSt.drew (HY.out.set 2 (.int .i64 idx) ⟨2, false, idx, 0, 0, []⟩ (.slice none 0 0) rfl)))) ?_
  clear r0 r1 r2 r3 r4 r5 rf hK HY
  intro Y1 hY
  have HY := Lib.hid hY
  clear hY
  have H3 := Lib.hid (show ∀ W, Keep (fun _ => False) w W → Calls Try.prog 61 #[.slice (some ⟨g, o + a, none⟩) (n - a) (c - a), .int .i64 (10), .int .i64 8] W (fun e w' => e = .returned (.tuple #[.int .i64 gen, .bool k2]) ∧ W = w') from G3)
  obtain ⟨r0, r1, r2, r3, r4, r5, rf⟩ := cells6 HY.out.2.2.1
  have hK := HY.out.2.2.2.2
  go_upto_region 23 with (first | (go_at_call 61; (with_reducible refine (H3.out _ (by exact (by repeat first | assumption | exact Keep.refl _ _ | refine Keep.alloc ?_ _ | refine Keep.drew ?_ | refine Keep.drewN ?_ _ | refine Keep.setCell ?_ (.inl (by first | omega | (simp; done) | (simp; omega))) _))).mono ?_); rintro e w1 ⟨rfl, rfl⟩) | fail)
  refine wp_world (S := fun Y => GSt w Y q ⟨2, false, idx, gen, 0, []⟩ (.slice none 0 0)) (by first | (with_reducible exact HY.out.set 3 (.int .i64 gen) ⟨2, false, idx, gen, 0, []⟩ (.slice none 0 0) rfl) | (with_reducible exact GSt.drew (HY.out.set 3 (.int .i64 gen) ⟨2, false, idx, gen, 0, []⟩ (.slice none 0 0) rfl)) | (with_reducible exact GSt.drew (GSt.drew (HY.out.set 3 (.int .i64 gen) ⟨2, false, idx, gen, 0, []⟩ (.slice none 0 0) rfl)))) ?_
  clear r0 r1 r2 r3 r4 r5 rf hK HY
  intro Y2 hY
  have HY := Lib.hid hY
  clear hY
  have H4 := Lib.hid (show ∀ W, Keep (fun _ => False) w W → Calls Try.prog 61 #[.slice (some ⟨g, o + a, none⟩) (n - a) (c - a), .int .i64 (18), .int .i64 8] W (fun e w' => e = .returned (.tuple #[.int .i64 comp, .bool k3]) ∧ W = w') from G4)
  obtain ⟨r0, r1, r2, r3, r4, r5, rf⟩ := cells6 HY.out.2.2.1
  have hK := HY.out.2.2.2.2
  go_upto_region 25 with (first | (go_at_call 61; (with_reducible refine (H4.out _ (by exact (by repeat first | assumption | exact Keep.refl _ _ | refine Keep.alloc ?_ _ | refine Keep.drew ?_ | refine Keep.drewN ?_ _ | refine Keep.setCell ?_ (.inl (by first | omega | (simp; done) | (simp; omega))) _))).mono ?_); rintro e w1 ⟨rfl, rfl⟩) | fail)
  refine wp_world (S := fun Y => GSt w Y q ⟨2, false, idx, gen, comp, []⟩ (.slice none 0 0)) (by first | (with_reducible exact HY.out.set 4 (.int .i64 comp) ⟨2, false, idx, gen, comp, []⟩ (.slice none 0 0) rfl) | (with_reducible exact GSt.drew (HY.out.set 4 (.int .i64 comp) ⟨2, false, idx, gen, comp, []⟩ (.slice none 0 0) rfl)) | (with_reducible exact GSt.drew (GSt.drew (HY.out.set 4 (.int .i64 comp) ⟨2, false, idx, gen, comp, []⟩ (.slice none 0 0) rfl)))) ?_
  clear r0 r1 r2 r3 r4 r5 rf hK HY
  intro Y3 hY
  have HY := Lib.hid hY
  clear hY
  obtain ⟨r0, r1, r2, r3, r4, r5, rf⟩ := cells6 HY.out.2.2.1
  have hK := HY.out.2.2.2.2
  obtain ⟨s0, s1, s2, s3, s4, s5, sf⟩ := cells6 HY.out.1
  obtain ⟨u0, u1, u2, u3, u4, u5, uf⟩ := cells6 HY.out.2.1
  have H5 := Lib.hid (show ∀ W, Keep (fun _ => False) w W → Calls Try.prog 61 #[.slice (some ⟨g, o + a, none⟩) (n - a) (c - a), .int .i64 (26), .int .i64 2] W (fun e w' => e = .returned (.tuple #[.int .i64 z, .bool true]) ∧ W = w') from G5)
  have hs1 : IntKind.i64.wrap (26 : Int) = 26 := IntWalk.i64_in _ (by omega)
  have hs2 : IntKind.i64.wrap (((n - a : Nat) : Int) - 28) = ((n - a : Nat) : Int) - 28 := IntWalk.i64_in _ (by omega)
  go_wp2_with (first | (go_at_call 61; (with_reducible refine (H5.out _ (by exact (by repeat first | assumption | exact Keep.refl _ _ | refine Keep.alloc ?_ _ | refine Keep.drew ?_ | refine Keep.drewN ?_ _ | refine Keep.setCell ?_ (.inl (by first | omega | (simp; done) | (simp; omega))) _))).mono ?_); rintro e w1 ⟨rfl, rfl⟩) | fail)
  have KK := keepS6 Y3 w.heap.size (.int .i64 0) (.bool false) (.int .i64 0) (.int .i64 0) (.int .i64 0) (.slice none 0 0)
  have HS := stored6 (HY.out.1) (.int .i64 0) (.bool false) (.int .i64 0) (.int .i64 0) (.int .i64 0) (.slice none 0 0)
  generalize ((((((Y3.setCell ⟨w.heap.size, 0, none⟩ (.int .i64 0)).setCell ⟨w.heap.size, 1, none⟩ (.bool false)).setCell ⟨w.heap.size, 2, none⟩ (.int .i64 0)).setCell ⟨w.heap.size, 3, none⟩ (.int .i64 0)).setCell ⟨w.heap.size, 4, none⟩ (.int .i64 0)).setCell ⟨w.heap.size, 5, none⟩ (.slice none 0 0)) = W7 at KK HS ⊢
  exact bodyPost_ret (results_cmd3 rfl _ _ w.heap.size _ _ _ _ _ _ rfl (show W7.heap[w.heap.size]? = _ from HS) _ _ rfl rfl) rfl ⟨none, 0, 0, rfl, By.nil _ _, ((HY.out.2.2.2.2).transQ KK (Nat.le_refl _)).to_below'⟩
set_option maxHeartbeats 4000000 in
theorem rg_g2_in (F : Nat → Prop) (a n c o g : Nat) (A : Option Addr) (hA : A = some ⟨g, o, none⟩) (w : World) (hn : n ≤ 1099511627776) (ha : a ≤ n) (hbc : n ≤ c) (hcm : c ≤ maxLen) (hc : ¬ c = a) (zn : Nat) (dat : List UInt8) (idx gen comp : Int) (k1 k2 k3 : Bool) (h1 : a < n) (x0 : w.cell? ⟨g, o + a, none⟩ = some (.int .u8 (2))) (h2 : a + 1 < n) (x1 : w.cell? ⟨g, o + a + 1, none⟩ = some (.int .u8 (0))) (G2 : GetC w g (o + a) (n - a) (c - a) 2 8 idx k1) (G3 : GetC w g (o + a) (n - a) (c - a) 10 8 gen k2) (G4 : GetC w g (o + a) (n - a) (c - a) 18 8 comp k3) (G5 : GetC w g (o + a) (n - a) (c - a) 26 2 (((zn : Nat) : Int)) true) (hz : (zn : Int) ≤ 64) (hE : (a : Int) + 28 + zn ≤ n) (hcE : ¬ c - a = 28) (hB : ∀ W, Keep (fun _ => False) w W → By W F (.slice (some ⟨g, o + a + 28, none⟩) zn (c - a - 28)) dat) :
    Calls Try.prog 62 #[.slice A n c, .int .i64 (a : Nat)] w (RGPost F w (⟨2, false, idx, gen, comp, dat⟩, (a : Int) + (28 + zn), 0)) := by
  have f0 : (0 : Int) ≤ (a : Int) := by omega
  have f1 : (a : Int) ≤ (n : Int) := by omega
  have f2 : (a : Int) ≤ (c : Int) := by omega
  have f3 : a ≤ c := by omega
  have m0 : (a : Int) < (n : Int) := by omega
  have m1 : (a : Int) + 1 < (n : Int) := by omega
  go_enter Try.func62, Try.ntmps62
  go_upto_region 5 with fail
  subst hA
  refine wp_world (S := fun X => X.heap[w.heap.size]? = some (.cells #[.int .i64 0, .bool false, .int .i64 0, .int .i64 0, .int .i64 0, .slice none 0 0] 83 (0, 0)) ∧ X.heap[w.heap.size + 1]? = some (.cells #[.int .i64 0, .bool false, .int .i64 0, .int .i64 0, .int .i64 0, .slice none 0 0] 83 (0, 0)) ∧ X.heap.size = w.heap.size + 2 ∧ Keep (fun _ => False) w X ∧ X.cell? ⟨g, o + a, none⟩ = some (.int .u8 (2)) ∧ X.cell? ⟨g, o + a + 1, none⟩ = some (.int .u8 (0))) ⟨(heap_alloc_old (w.alloc _) _ (by simp)).trans (heap_alloc_new w _), (by have := heap_alloc_new (w.alloc (.cells #[.int .i64 0, .bool false, .int .i64 0, .int .i64 0, .int .i64 0, .slice none 0 0] 83)) (.cells #[.int .i64 0, .bool false, .int .i64 0, .int .i64 0, .int .i64 0, .slice none 0 0] 83 (0, 0)); simpa using this), by simp, ((Keep.refl (fun _ => False) w).alloc _).alloc _, ((Keep.refl (fun _ => False) w).alloc _).alloc _ |>.cell (fun h => h) x0, ((Keep.refl (fun _ => False) w).alloc _).alloc _ |>.cell (fun h => h) x1⟩ ?_
  rintro X hX
  have HX := Lib.hid hX
  clear hX
  obtain ⟨r0, r1, r2, r3, r4, r5, rf⟩ := cells6 HX.out.1
  obtain ⟨q0, q1, q2, q3, q4, q5, qf⟩ := cells6 HX.out.2.1
  have y0 := HX.out.2.2.2.2.1
  have y1 := HX.out.2.2.2.2.2
  go_upto_region 17 with fail
  obtain ⟨q, hq⟩ : ∃ q, q = X.heap.size := ⟨_, rfl⟩
  have hq2 : w.heap.size + 1 < q := by have := HX.out.2.2.1; omega
  refine wp_world (S := fun Y => GSt w Y q ⟨2, false, 0, 0, 0, []⟩ (.slice none 0 0)) ⟨(heap_alloc_old X _ (by omega)).trans HX.out.1, (heap_alloc_old X _ (by omega)).trans HX.out.2.1, by rw [hq]; exact heap_alloc_new X _, hq2, HX.out.2.2.2.1.alloc _⟩ ?_
  rw [← hq]
  clear hq HX r0 r1 r2 r3 r4 r5 rf q0 q1 q2 q3 q4 q5 qf y0 y1
  intro Y0 hY
  have HY := Lib.hid hY
  clear hY
  have nq : w.heap.size ≤ q := by omega
  have nq1 : w.heap.size ≠ q := by omega
  have nq2 : q ≠ w.heap.size := by omega
  have nq3 : w.heap.size + 1 ≠ q := by omega
  have nq4 : q ≠ w.heap.size + 1 := by omega
  have H2 := Lib.hid (show ∀ W, Keep (fun _ => False) w W → Calls Try.prog 61 #[.slice (some ⟨g, o + a, none⟩) (n - a) (c - a), .int .i64 (2), .int .i64 8] W (fun e w' => e = .returned (.tuple #[.int .i64 idx, .bool k1]) ∧ W = w') from G2)
  obtain ⟨r0, r1, r2, r3, r4, r5, rf⟩ := cells6 HY.out.2.2.1
  have hK := HY.out.2.2.2.2
  go_upto_region 21 with (first | (go_at_call 61; (with_reducible refine (H2.out _ (by exact (by repeat first | assumption | exact Keep.refl _ _ | refine Keep.alloc ?_ _ | refine Keep.drew ?_ | refine Keep.drewN ?_ _ | refine Keep.setCell ?_ (.inl (by first | omega | (simp; done) | (simp; omega))) _))).mono ?_); rintro e w1 ⟨rfl, rfl⟩) | fail)
  refine wp_world (S := fun Y => GSt w Y q ⟨2, false, idx, 0, 0, []⟩ (.slice none 0 0)) (by first | (with_reducible exact HY.out.set 2 (.int .i64 idx) ⟨2, false, idx, 0, 0, []⟩ (.slice none 0 0) rfl) | (with_reducible exact GSt.drew (HY.out.set 2 (.int .i64 idx) ⟨2, false, idx, 0, 0, []⟩ (.slice none 0 0) rfl)) | (with_reducible exact GSt.drew (GSt.drew (HY.out.set 2 (.int .i64 idx) ⟨2, false, idx, 0, 0, []⟩ (.slice none 0 0) rfl)))) ?_
  clear r0 r1 r2 r3 r4 r5 rf hK HY
  intro Y1 hY
  have HY := Lib.hid hY
  clear hY
  have H3 := Lib.hid (show ∀ W, Keep (fun _ => False) w W → Calls Try.prog 61 #[.slice (some ⟨g, o + a, none⟩) (n - a) (c - a), .int .i64 (10), .int .i64 8] W (fun e w' => e = .returned (.tuple #[.int .i64 gen, .bool k2]) ∧ W = w') from G3)
  obtain ⟨r0, r1, r2, r3, r4, r5, rf⟩ := cells6 HY.out.2.2.1
  have hK := HY.out.2.2.2.2
  go_upto_region 23 with (first | (go_at_call 61; (with_reducible refine (H3.out _ (by exact (by repeat first | assumption | exact Keep.refl _ _ | refine Keep.alloc ?_ _ | refine Keep.drew ?_ | refine Keep.drewN ?_ _ | refine Keep.setCell ?_ (.inl (by first | omega | (simp; done) | (simp; omega))) _))).mono ?_); rintro e w1 ⟨rfl, rfl⟩) | fail)
  refine wp_world (S := fun Y => GSt w Y q ⟨2, false, idx, gen, 0, []⟩ (.slice none 0 0)) (by first | (with_reducible exact HY.out.set 3 (.int .i64 gen) ⟨2, false, idx, gen, 0, []⟩ (.slice none 0 0) rfl) | (with_reducible exact GSt.drew (HY.out.set 3 (.int .i64 gen) ⟨2, false, idx, gen, 0, []⟩ (.slice none 0 0) rfl)) | (with_reducible exact GSt.drew (GSt.drew (HY.out.set 3 (.int .i64 gen) ⟨2, false, idx, gen, 0, []⟩ (.slice none 0 0) rfl)))) ?_
  clear r0 r1 r2 r3 r4 r5 rf hK HY
  intro Y2 hY
  have HY := Lib.hid hY
  clear hY
  have H4 := Lib.hid (show ∀ W, Keep (fun _ => False) w W → Calls Try.prog 61 #[.slice (some ⟨g, o + a, none⟩) (n - a) (c - a), .int .i64 (18), .int .i64 8] W (fun e w' => e = .returned (.tuple #[.int .i64 comp, .bool k3]) ∧ W = w') from G4)
  obtain ⟨r0, r1, r2, r3, r4, r5, rf⟩ := cells6 HY.out.2.2.1
  have hK := HY.out.2.2.2.2
  go_upto_region 25 with (first | (go_at_call 61; (with_reducible refine (H4.out _ (by exact (by repeat first | assumption | exact Keep.refl _ _ | refine Keep.alloc ?_ _ | refine Keep.drew ?_ | refine Keep.drewN ?_ _ | refine Keep.setCell ?_ (.inl (by first | omega | (simp; done) | (simp; omega))) _))).mono ?_); rintro e w1 ⟨rfl, rfl⟩) | fail)
  refine wp_world (S := fun Y => GSt w Y q ⟨2, false, idx, gen, comp, []⟩ (.slice none 0 0)) (by first | (with_reducible exact HY.out.set 4 (.int .i64 comp) ⟨2, false, idx, gen, comp, []⟩ (.slice none 0 0) rfl) | (with_reducible exact GSt.drew (HY.out.set 4 (.int .i64 comp) ⟨2, false, idx, gen, comp, []⟩ (.slice none 0 0) rfl)) | (with_reducible exact GSt.drew (GSt.drew (HY.out.set 4 (.int .i64 comp) ⟨2, false, idx, gen, comp, []⟩ (.slice none 0 0) rfl)))) ?_
  clear r0 r1 r2 r3 r4 r5 rf hK HY
  intro Y3 hY
  have HY := Lib.hid hY
  clear hY
  obtain ⟨r0, r1, r2, r3, r4, r5, rf⟩ := cells6 HY.out.2.2.1
  have hK := HY.out.2.2.2.2
  obtain ⟨s0, s1, s2, s3, s4, s5, sf⟩ := cells6 HY.out.1
  obtain ⟨u0, u1, u2, u3, u4, u5, uf⟩ := cells6 HY.out.2.1
  have H5 := Lib.hid (show ∀ W, Keep (fun _ => False) w W → Calls Try.prog 61 #[.slice (some ⟨g, o + a, none⟩) (n - a) (c - a), .int .i64 (26), .int .i64 2] W (fun e w' => e = .returned (.tuple #[.int .i64 ((zn : Nat) : Int), .bool true]) ∧ W = w') from G5)
  have hs1 : IntKind.i64.wrap (26 : Int) = 26 := IntWalk.i64_in _ (by omega)
  have hs2 : IntKind.i64.wrap (((n - a : Nat) : Int) - 28) = ((n - a : Nat) : Int) - 28 := IntWalk.i64_in _ (by omega)
  have hs3 : IntKind.i64.wrap (28 + ((zn : Nat) : Int)) = 28 + ((zn : Nat) : Int) := IntWalk.i64_in _ (by omega)
  go_wp2_with (first | (go_at_call 61; (with_reducible refine (H5.out _ (by exact (by repeat first | assumption | exact Keep.refl _ _ | refine Keep.alloc ?_ _ | refine Keep.drew ?_ | refine Keep.drewN ?_ _ | refine Keep.setCell ?_ (.inl (by first | omega | (simp; done) | (simp; omega))) _))).mono ?_); rintro e w1 ⟨rfl, rfl⟩) | fail)
  have HG := HY.out.set 5 (.slice (some ⟨g, o + a + 28, none⟩) zn (c - a - 28)) ⟨2, false, idx, gen, comp, []⟩ (.slice (some ⟨g, o + a + 28, none⟩) zn (c - a - 28)) rfl
  have KK := keepS6 (Y3.setCell ⟨q, 5, none⟩ (.slice (some ⟨g, o + a + 28, none⟩) zn (c - a - 28))) w.heap.size (.int .i64 2) (.bool false) (.int .i64 idx) (.int .i64 gen) (.int .i64 comp) (.slice (some ⟨g, o + a + 28, none⟩) zn (c - a - 28))
  have HS := stored6 HG.1 (.int .i64 2) (.bool false) (.int .i64 idx) (.int .i64 gen) (.int .i64 comp) (.slice (some ⟨g, o + a + 28, none⟩) zn (c - a - 28))
  have HF := HG.2.2.2.2.transQ KK (Nat.le_refl _)
  generalize (((((((Y3.setCell ⟨q, 5, none⟩ (.slice (some ⟨g, o + a + 28, none⟩) zn (c - a - 28))).setCell ⟨w.heap.size, 0, none⟩ (.int .i64 2)).setCell ⟨w.heap.size, 1, none⟩ (.bool false)).setCell ⟨w.heap.size, 2, none⟩ (.int .i64 idx)).setCell ⟨w.heap.size, 3, none⟩ (.int .i64 gen)).setCell ⟨w.heap.size, 4, none⟩ (.int .i64 comp)).setCell ⟨w.heap.size, 5, none⟩ (.slice (some ⟨g, o + a + 28, none⟩) zn (c - a - 28))) = W7 at KK HS HF ⊢
  exact bodyPost_ret (results_cmd3 rfl _ _ w.heap.size _ _ _ _ _ _ rfl (show W7.heap[w.heap.size]? = _ from HS) _ _ rfl rfl) rfl ⟨_, _, _, rfl, hB W7 HF, HF.to_below'⟩
set_option maxHeartbeats 4000000 in
theorem rg_g2_inz (F : Nat → Prop) (a n c o g : Nat) (A : Option Addr) (hA : A = some ⟨g, o, none⟩) (w : World) (hn : n ≤ 1099511627776) (ha : a ≤ n) (hbc : n ≤ c) (hcm : c ≤ maxLen) (hc : ¬ c = a) (idx gen comp z : Int) (k1 k2 k3 : Bool) (h1 : a < n) (x0 : w.cell? ⟨g, o + a, none⟩ = some (.int .u8 (2))) (h2 : a + 1 < n) (x1 : w.cell? ⟨g, o + a + 1, none⟩ = some (.int .u8 (0))) (G2 : GetC w g (o + a) (n - a) 28 2 8 idx k1) (G3 : GetC w g (o + a) (n - a) 28 10 8 gen k2) (G4 : GetC w g (o + a) (n - a) 28 18 8 comp k3) (G5 : GetC w g (o + a) (n - a) 28 26 2 (0) true) (hE : (a : Int) + 28 ≤ n) (hcE : c - a = 28) :
    Calls Try.prog 62 #[.slice A n c, .int .i64 (a : Nat)] w (RGPost F w (⟨2, false, idx, gen, comp, []⟩, (a : Int) + 28, 0)) := by
  have f0 : (0 : Int) ≤ (a : Int) := by omega
  have f1 : (a : Int) ≤ (n : Int) := by omega
  have f2 : (a : Int) ≤ (c : Int) := by omega
  have f3 : a ≤ c := by omega
  have m0 : (a : Int) < (n : Int) := by omega
  have m1 : (a : Int) + 1 < (n : Int) := by omega
  go_enter Try.func62, Try.ntmps62
  go_upto_region 5 with fail
  subst hA
  refine wp_world (S := fun X => X.heap[w.heap.size]? = some (.cells #[.int .i64 0, .bool false, .int .i64 0, .int .i64 0, .int .i64 0, .slice none 0 0] 83 (0, 0)) ∧ X.heap[w.heap.size + 1]? = some (.cells #[.int .i64 0, .bool false, .int .i64 0, .int .i64 0, .int .i64 0, .slice none 0 0] 83 (0, 0)) ∧ X.heap.size = w.heap.size + 2 ∧ Keep (fun _ => False) w X ∧ X.cell? ⟨g, o + a, none⟩ = some (.int .u8 (2)) ∧ X.cell? ⟨g, o + a + 1, none⟩ = some (.int .u8 (0))) ⟨(heap_alloc_old (w.alloc _) _ (by simp)).trans (heap_alloc_new w _), (by have := heap_alloc_new (w.alloc (.cells #[.int .i64 0, .bool false, .int .i64 0, .int .i64 0, .int .i64 0, .slice none 0 0] 83)) (.cells #[.int .i64 0, .bool false, .int .i64 0, .int .i64 0, .int .i64 0, .slice none 0 0] 83 (0, 0)); simpa using this), by simp, ((Keep.refl (fun _ => False) w).alloc _).alloc _, ((Keep.refl (fun _ => False) w).alloc _).alloc _ |>.cell (fun h => h) x0, ((Keep.refl (fun _ => False) w).alloc _).alloc _ |>.cell (fun h => h) x1⟩ ?_
  rintro X hX
  have HX := Lib.hid hX
  clear hX
  obtain ⟨r0, r1, r2, r3, r4, r5, rf⟩ := cells6 HX.out.1
  obtain ⟨q0, q1, q2, q3, q4, q5, qf⟩ := cells6 HX.out.2.1
  have y0 := HX.out.2.2.2.2.1
  have y1 := HX.out.2.2.2.2.2
  go_upto_region 17 with fail
  obtain ⟨q, hq⟩ : ∃ q, q = X.heap.size := ⟨_, rfl⟩
  have hq2 : w.heap.size + 1 < q := by have := HX.out.2.2.1; omega
  refine wp_world (S := fun Y => GSt w Y q ⟨2, false, 0, 0, 0, []⟩ (.slice none 0 0)) ⟨(heap_alloc_old X _ (by omega)).trans HX.out.1, (heap_alloc_old X _ (by omega)).trans HX.out.2.1, by rw [hq]; exact heap_alloc_new X _, hq2, HX.out.2.2.2.1.alloc _⟩ ?_
  rw [← hq]
  clear hq HX r0 r1 r2 r3 r4 r5 rf q0 q1 q2 q3 q4 q5 qf y0 y1
  intro Y0 hY
  have HY := Lib.hid hY
  clear hY
  have nq : w.heap.size ≤ q := by omega
  have nq1 : w.heap.size ≠ q := by omega
  have nq2 : q ≠ w.heap.size := by omega
  have nq3 : w.heap.size + 1 ≠ q := by omega
  have nq4 : q ≠ w.heap.size + 1 := by omega
  have H2 := Lib.hid (show ∀ W, Keep (fun _ => False) w W → Calls Try.prog 61 #[.slice (some ⟨g, o + a, none⟩) (n - a) 28, .int .i64 (2), .int .i64 8] W (fun e w' => e = .returned (.tuple #[.int .i64 idx, .bool k1]) ∧ W = w') from G2)
  obtain ⟨r0, r1, r2, r3, r4, r5, rf⟩ := cells6 HY.out.2.2.1
  have hK := HY.out.2.2.2.2
  go_upto_region 21 with (first | (go_at_call 61; (with_reducible refine (H2.out _ (by exact (by repeat first | assumption | exact Keep.refl _ _ | refine Keep.alloc ?_ _ | refine Keep.drew ?_ | refine Keep.drewN ?_ _ | refine Keep.setCell ?_ (.inl (by first | omega | (simp; done) | (simp; omega))) _))).mono ?_); rintro e w1 ⟨rfl, rfl⟩) | fail)
  refine wp_world (S := fun Y => GSt w Y q ⟨2, false, idx, 0, 0, []⟩ (.slice none 0 0)) (by first | (with_reducible exact HY.out.set 2 (.int .i64 idx) ⟨2, false, idx, 0, 0, []⟩ (.slice none 0 0) rfl) | (with_reducible exact GSt.drew (HY.out.set 2 (.int .i64 idx) ⟨2, false, idx, 0, 0, []⟩ (.slice none 0 0) rfl)) | (with_reducible exact GSt.drew (GSt.drew (HY.out.set 2 (.int .i64 idx) ⟨2, false, idx, 0, 0, []⟩ (.slice none 0 0) rfl)))) ?_
  clear r0 r1 r2 r3 r4 r5 rf hK HY
  intro Y1 hY
  have HY := Lib.hid hY
  clear hY
  have H3 := Lib.hid (show ∀ W, Keep (fun _ => False) w W → Calls Try.prog 61 #[.slice (some ⟨g, o + a, none⟩) (n - a) 28, .int .i64 (10), .int .i64 8] W (fun e w' => e = .returned (.tuple #[.int .i64 gen, .bool k2]) ∧ W = w') from G3)
  obtain ⟨r0, r1, r2, r3, r4, r5, rf⟩ := cells6 HY.out.2.2.1
  have hK := HY.out.2.2.2.2
  go_upto_region 23 with (first | (go_at_call 61; (with_reducible refine (H3.out _ (by exact (by repeat first | assumption | exact Keep.refl _ _ | refine Keep.alloc ?_ _ | refine Keep.drew ?_ | refine Keep.drewN ?_ _ | refine Keep.setCell ?_ (.inl (by first | omega | (simp; done) | (simp; omega))) _))).mono ?_); rintro e w1 ⟨rfl, rfl⟩) | fail)
  refine wp_world (S := fun Y => GSt w Y q ⟨2, false, idx, gen, 0, []⟩ (.slice none 0 0)) (by first | (with_reducible exact HY.out.set 3 (.int .i64 gen) ⟨2, false, idx, gen, 0, []⟩ (.slice none 0 0) rfl) | (with_reducible exact GSt.drew (HY.out.set 3 (.int .i64 gen) ⟨2, false, idx, gen, 0, []⟩ (.slice none 0 0) rfl)) | (with_reducible exact GSt.drew (GSt.drew (HY.out.set 3 (.int .i64 gen) ⟨2, false, idx, gen, 0, []⟩ (.slice none 0 0) rfl)))) ?_
  clear r0 r1 r2 r3 r4 r5 rf hK HY
  intro Y2 hY
  have HY := Lib.hid hY
  clear hY
  have H4 := Lib.hid (show ∀ W, Keep (fun _ => False) w W → Calls Try.prog 61 #[.slice (some ⟨g, o + a, none⟩) (n - a) 28, .int .i64 (18), .int .i64 8] W (fun e w' => e = .returned (.tuple #[.int .i64 comp, .bool k3]) ∧ W = w') from G4)
  obtain ⟨r0, r1, r2, r3, r4, r5, rf⟩ := cells6 HY.out.2.2.1
  have hK := HY.out.2.2.2.2
  go_upto_region 25 with (first | (go_at_call 61; (with_reducible refine (H4.out _ (by exact (by repeat first | assumption | exact Keep.refl _ _ | refine Keep.alloc ?_ _ | refine Keep.drew ?_ | refine Keep.drewN ?_ _ | refine Keep.setCell ?_ (.inl (by first | omega | (simp; done) | (simp; omega))) _))).mono ?_); rintro e w1 ⟨rfl, rfl⟩) | fail)
  refine wp_world (S := fun Y => GSt w Y q ⟨2, false, idx, gen, comp, []⟩ (.slice none 0 0)) (by first | (with_reducible exact HY.out.set 4 (.int .i64 comp) ⟨2, false, idx, gen, comp, []⟩ (.slice none 0 0) rfl) | (with_reducible exact GSt.drew (HY.out.set 4 (.int .i64 comp) ⟨2, false, idx, gen, comp, []⟩ (.slice none 0 0) rfl)) | (with_reducible exact GSt.drew (GSt.drew (HY.out.set 4 (.int .i64 comp) ⟨2, false, idx, gen, comp, []⟩ (.slice none 0 0) rfl)))) ?_
  clear r0 r1 r2 r3 r4 r5 rf hK HY
  intro Y3 hY
  have HY := Lib.hid hY
  clear hY
  obtain ⟨r0, r1, r2, r3, r4, r5, rf⟩ := cells6 HY.out.2.2.1
  have hK := HY.out.2.2.2.2
  obtain ⟨s0, s1, s2, s3, s4, s5, sf⟩ := cells6 HY.out.1
  obtain ⟨u0, u1, u2, u3, u4, u5, uf⟩ := cells6 HY.out.2.1
  have H5 := Lib.hid (show ∀ W, Keep (fun _ => False) w W → Calls Try.prog 61 #[.slice (some ⟨g, o + a, none⟩) (n - a) 28, .int .i64 (26), .int .i64 2] W (fun e w' => e = .returned (.tuple #[.int .i64 0, .bool true]) ∧ W = w') from G5)
  have hs1 : IntKind.i64.wrap (26 : Int) = 26 := IntWalk.i64_in _ (by omega)
  have hs2 : IntKind.i64.wrap (((n - a : Nat) : Int) - 28) = ((n - a : Nat) : Int) - 28 := IntWalk.i64_in _ (by omega)
  have hs3 : IntKind.i64.wrap (28 + 0) = 28 + 0 := IntWalk.i64_in _ (by omega)
  go_wp2_with (first | (go_at_call 61; (with_reducible refine (H5.out _ (by exact (by repeat first | assumption | exact Keep.refl _ _ | refine Keep.alloc ?_ _ | refine Keep.drew ?_ | refine Keep.drewN ?_ _ | refine Keep.setCell ?_ (.inl (by first | omega | (simp; done) | (simp; omega))) _))).mono ?_); rintro e w1 ⟨rfl, rfl⟩) | fail)
  have HG := HY.out.set 5 (.slice (some ⟨g, o + a, none⟩) 0 0) ⟨2, false, idx, gen, comp, []⟩ (.slice (some ⟨g, o + a, none⟩) 0 0) rfl
  have KK := keepS6 (Y3.setCell ⟨q, 5, none⟩ (.slice (some ⟨g, o + a, none⟩) 0 0)) w.heap.size (.int .i64 2) (.bool false) (.int .i64 idx) (.int .i64 gen) (.int .i64 comp) (.slice (some ⟨g, o + a, none⟩) 0 0)
  have HS := stored6 HG.1 (.int .i64 2) (.bool false) (.int .i64 idx) (.int .i64 gen) (.int .i64 comp) (.slice (some ⟨g, o + a, none⟩) 0 0)
  have HF := HG.2.2.2.2.transQ KK (Nat.le_refl _)
  generalize (((((((Y3.setCell ⟨q, 5, none⟩ (.slice (some ⟨g, o + a, none⟩) 0 0)).setCell ⟨w.heap.size, 0, none⟩ (.int .i64 2)).setCell ⟨w.heap.size, 1, none⟩ (.bool false)).setCell ⟨w.heap.size, 2, none⟩ (.int .i64 idx)).setCell ⟨w.heap.size, 3, none⟩ (.int .i64 gen)).setCell ⟨w.heap.size, 4, none⟩ (.int .i64 comp)).setCell ⟨w.heap.size, 5, none⟩ (.slice (some ⟨g, o + a, none⟩) 0 0)) = W7 at KK HS HF ⊢
  exact bodyPost_ret (results_cmd3 rfl _ _ w.heap.size _ _ _ _ _ _ rfl (show W7.heap[w.heap.size]? = _ from HS) _ _ rfl rfl) rfl ⟨_, _, _, rfl, By.zero _ _ _, HF.to_below'⟩
set_option maxHeartbeats 4000000 in
theorem rg_g2_shorty (F : Nat → Prop) (a n c o g : Nat) (A : Option Addr) (hA : A = some ⟨g, o, none⟩) (w : World) (hn : n ≤ 1099511627776) (ha : a ≤ n) (hbc : n ≤ c) (hcm : c ≤ maxLen) (hc : ¬ c = a) (idx gen comp z : Int) (k1 k2 k3 : Bool) (h1 : a < n) (x0 : w.cell? ⟨g, o + a, none⟩ = some (.int .u8 (2))) (h2 : a + 1 < n) (x1 : w.cell? ⟨g, o + a + 1, none⟩ = some (.int .u8 (0))) (G2 : GetC w g (o + a) (n - a) (c - a) 2 8 idx k1) (G3 : GetC w g (o + a) (n - a) (c - a) 10 8 gen k2) (G4 : GetC w g (o + a) (n - a) (c - a) 18 8 comp k3) (G5 : GetC w g (o + a) (n - a) (c - a) 26 2 (z) true) (hz0 : 0 ≤ z) (hz : z ≤ 64) (hE : (n : Int) < (a : Int) + 28 + z) :
    Calls Try.prog 62 #[.slice A n c, .int .i64 (a : Nat)] w (RGPost F w (zeroC, 0, 12)) := by
  have f0 : (0 : Int) ≤ (a : Int) := by omega
  have f1 : (a : Int) ≤ (n : Int) := by omega
  have f2 : (a : Int) ≤ (c : Int) := by omega
  have f3 : a ≤ c := by omega
  have m0 : (a : Int) < (n : Int) := by omega
  have m1 : (a : Int) + 1 < (n : Int) := by omega
  go_enter Try.func62, Try.ntmps62
  go_upto_region 5 with fail
  subst hA
  refine wp_world (S := fun X => X.heap[w.heap.size]? = some (.cells #[.int .i64 0, .bool false, .int .i64 0, .int .i64 0, .int .i64 0, .slice none 0 0] 83 (0, 0)) ∧ X.heap[w.heap.size + 1]? = some (.cells #[.int .i64 0, .bool false, .int .i64 0, .int .i64 0, .int .i64 0, .slice none 0 0] 83 (0, 0)) ∧ X.heap.size = w.heap.size + 2 ∧ Keep (fun _ => False) w X ∧ X.cell? ⟨g, o + a, none⟩ = some (.int .u8 (2)) ∧ X.cell? ⟨g, o + a + 1, none⟩ = some (.int .u8 (0))) ⟨(heap_alloc_old (w.alloc _) _ (by simp)).trans (heap_alloc_new w _), (by have := heap_alloc_new (w.alloc (.cells #[.int .i64 0, .bool false, .int .i64 0, .int .i64 0, .int .i64 0, .slice none 0 0] 83)) (.cells #[.int .i64 0, .bool false, .int .i64 0, .int .i64 0, .int .i64 0, .slice none 0 0] 83 (0, 0)); simpa using this), by simp, ((Keep.refl (fun _ => False) w).alloc _).alloc _, ((Keep.refl (fun _ => False) w).alloc _).alloc _ |>.cell (fun h => h) x0, ((Keep.refl (fun _ => False) w).alloc _).alloc _ |>.cell (fun h => h) x1⟩ ?_
  rintro X hX
  have HX := Lib.hid hX
  clear hX
  obtain ⟨r0, r1, r2, r3, r4, r5, rf⟩ := cells6 HX.out.1
  obtain ⟨q0, q1, q2, q3, q4, q5, qf⟩ := cells6 HX.out.2.1
  have y0 := HX.out.2.2.2.2.1
  have y1 := HX.out.2.2.2.2.2
  go_upto_region 17 with fail
  obtain ⟨q, hq⟩ : ∃ q, q = X.heap.size := ⟨_, rfl⟩
  have hq2 : w.heap.size + 1 < q := by have := HX.out.2.2.1; omega
  refine wp_world (S := fun Y => GSt w Y q ⟨2, false, 0, 0, 0, []⟩ (.slice none 0 0)) ⟨(heap_alloc_old X _ (by omega)).trans HX.out.1, (heap_alloc_old X _ (by omega)).trans HX.out.2.1, by rw [hq]; exact heap_alloc_new X _, hq2, HX.out.2.2.2.1.alloc _⟩ ?_
  rw [← hq]
  clear hq HX r0 r1 r2 r3 r4 r5 rf q0 q1 q2 q3 q4 q5 qf y0 y1
  intro Y0 hY
  have HY := Lib.hid hY
  clear hY
  have nq : w.heap.size ≤ q := by omega
  have nq1 : w.heap.size ≠ q := by omega
  have nq2 : q ≠ w.heap.size := by omega
  have nq3 : w.heap.size + 1 ≠ q := by omega
  have nq4 : q ≠ w.heap.size + 1 := by omega
  have H2 := Lib.hid (show ∀ W, Keep (fun _ => False) w W → Calls Try.prog 61 #[.slice (some ⟨g, o + a, none⟩) (n - a) (c - a), .int .i64 (2), .int .i64 8] W (fun e w' => e = .returned (.tuple #[.int .i64 idx, .bool k1]) ∧ W = w') from G2)
  obtain ⟨r0, r1, r2, r3, r4, r5, rf⟩ := cells6 HY.out.2.2.1
  have hK := HY.out.2.2.2.2
  go_upto_region 21 with (first | (go_at_call 61; (with_reducible refine (H2.out _ (by exact (by repeat first | assumption | exact Keep.refl _ _ | refine Keep.alloc ?_ _ | refine Keep.drew ?_ | refine Keep.drewN ?_ _ | refine Keep.setCell ?_ (.inl (by first | omega | (simp; done) | (simp; omega))) _))).mono ?_); rintro e w1 ⟨rfl, rfl⟩) | fail)
  refine wp_world (S := fun Y => GSt w Y q ⟨2, false, idx, 0, 0, []⟩ (.slice none 0 0)) (by first | (with_reducible exact HY.out.set 2 (.int .i64 idx) ⟨2, false, idx, 0, 0, []⟩ (.slice none 0 0) rfl) | (with_reducible exact GSt.drew (HY.out.set 2 (.int .i64 idx) ⟨2, false, idx, 0, 0, []⟩ (.slice none 0 0) rfl)) | (with_reducible exact GSt.drew (GSt.drew (HY.out.set 2 (.int .i64 idx) ⟨2, false, idx, 0, 0, []⟩ (.slice none 0 0) rfl)))) ?_
  clear r0 r1 r2 r3 r4 r5 rf hK HY
  intro Y1 hY
  have HY := Lib.hid hY
  clear hY
  have H3 := Lib.hid (show ∀ W, Keep (fun _ => False) w W → Calls Try.prog 61 #[.slice (some ⟨g, o + a, none⟩) (n - a) (c - a), .int .i64 (10), .int .i64 8] W (fun e w' => e = .returned (.tuple #[.int .i64 gen, .bool k2]) ∧ W = w') from G3)
  obtain ⟨r0, r1, r2, r3, r4, r5, rf⟩ := cells6 HY.out.2.2.1
  have hK := HY.out.2.2.2.2
  go_upto_region 23 with (first | (go_at_call 61; (with_reducible refine (H3.out _ (by exact (by repeat first | assumption | exact Keep.refl _ _ | refine Keep.alloc ?_ _ | refine Keep.drew ?_ | refine Keep.drewN ?_ _ | refine Keep.setCell ?_ (.inl (by first | omega | (simp; done) | (simp; omega))) _))).mono ?_); rintro e w1 ⟨rfl, rfl⟩) | fail)
  refine wp_world (S := fun Y => GSt w Y q ⟨2, false, idx, gen, 0, []⟩ (.slice none 0 0)) (by first | (with_reducible exact HY.out.set 3 (.int .i64 gen) ⟨2, false, idx, gen, 0, []⟩ (.slice none 0 0) rfl) | (with_reducible exact GSt.drew (HY.out.set 3 (.int .i64 gen) ⟨2, false, idx, gen, 0, []⟩ (.slice none 0 0) rfl)) | (with_reducible exact GSt.drew (GSt.drew (HY.out.set 3 (.int .i64 gen) ⟨2, false, idx, gen, 0, []⟩ (.slice none 0 0) rfl)))) ?_
  clear r0 r1 r2 r3 r4 r5 rf hK HY
  intro Y2 hY
  have HY := Lib.hid hY
  clear hY
  have H4 := Lib.hid (show ∀ W, Keep (fun _ => False) w W → Calls Try.prog 61 #[.slice (some ⟨g, o + a, none⟩) (n - a) (c - a), .int .i64 (18), .int .i64 8] W (fun e w' => e = .returned (.tuple #[.int .i64 comp, .bool k3]) ∧ W = w') from G4)
  obtain ⟨r0, r1, r2, r3, r4, r5, rf⟩ := cells6 HY.out.2.2.1
  have hK := HY.out.2.2.2.2
  go_upto_region 25 with (first | (go_at_call 61; (with_reducible refine (H4.out _ (by exact (by repeat first | assumption | exact Keep.refl _ _ | refine Keep.alloc ?_ _ | refine Keep.drew ?_ | refine Keep.drewN ?_ _ | refine Keep.setCell ?_ (.inl (by first | omega | (simp; done) | (simp; omega))) _))).mono ?_); rintro e w1 ⟨rfl, rfl⟩) | fail)
  refine wp_world (S := fun Y => GSt w Y q ⟨2, false, idx, gen, comp, []⟩ (.slice none 0 0)) (by first | (with_reducible exact HY.out.set 4 (.int .i64 comp) ⟨2, false, idx, gen, comp, []⟩ (.slice none 0 0) rfl) | (with_reducible exact GSt.drew (HY.out.set 4 (.int .i64 comp) ⟨2, false, idx, gen, comp, []⟩ (.slice none 0 0) rfl)) | (with_reducible exact GSt.drew (GSt.drew (HY.out.set 4 (.int .i64 comp) ⟨2, false, idx, gen, comp, []⟩ (.slice none 0 0) rfl)))) ?_
  clear r0 r1 r2 r3 r4 r5 rf hK HY
  intro Y3 hY
  have HY := Lib.hid hY
  clear hY
  obtain ⟨r0, r1, r2, r3, r4, r5, rf⟩ := cells6 HY.out.2.2.1
  have hK := HY.out.2.2.2.2
  obtain ⟨s0, s1, s2, s3, s4, s5, sf⟩ := cells6 HY.out.1
  obtain ⟨u0, u1, u2, u3, u4, u5, uf⟩ := cells6 HY.out.2.1
  have H5 := Lib.hid (show ∀ W, Keep (fun _ => False) w W → Calls Try.prog 61 #[.slice (some ⟨g, o + a, none⟩) (n - a) (c - a), .int .i64 (26), .int .i64 2] W (fun e w' => e = .returned (.tuple #[.int .i64 z, .bool true]) ∧ W = w') from G5)
  have hs1 : IntKind.i64.wrap (26 : Int) = 26 := IntWalk.i64_in _ (by omega)
  have hs2 : IntKind.i64.wrap (((n - a : Nat) : Int) - 28) = ((n - a : Nat) : Int) - 28 := IntWalk.i64_in _ (by omega)
  have hs3 : IntKind.i64.wrap (28 + z) = 28 + z := IntWalk.i64_in _ (by omega)
  go_wp2_with (first | (go_at_call 61; (with_reducible refine (H5.out _ (by exact (by repeat first | assumption | exact Keep.refl _ _ | refine Keep.alloc ?_ _ | refine Keep.drew ?_ | refine Keep.drewN ?_ _ | refine Keep.setCell ?_ (.inl (by first | omega | (simp; done) | (simp; omega))) _))).mono ?_); rintro e w1 ⟨rfl, rfl⟩) | fail)
  have KK := keepS6 Y3 w.heap.size (.int .i64 0) (.bool false) (.int .i64 0) (.int .i64 0) (.int .i64 0) (.slice none 0 0)
  have HS := stored6 (HY.out.1) (.int .i64 0) (.bool false) (.int .i64 0) (.int .i64 0) (.int .i64 0) (.slice none 0 0)
  generalize ((((((Y3.setCell ⟨w.heap.size, 0, none⟩ (.int .i64 0)).setCell ⟨w.heap.size, 1, none⟩ (.bool false)).setCell ⟨w.heap.size, 2, none⟩ (.int .i64 0)).setCell ⟨w.heap.size, 3, none⟩ (.int .i64 0)).setCell ⟨w.heap.size, 4, none⟩ (.int .i64 0)).setCell ⟨w.heap.size, 5, none⟩ (.slice none 0 0)) = W7 at KK HS ⊢
  exact bodyPost_ret (results_cmd3 rfl _ _ w.heap.size _ _ _ _ _ _ rfl (show W7.heap[w.heap.size]? = _ from HS) _ _ rfl rfl) rfl ⟨none, 0, 0, rfl, By.nil _ _, ((HY.out.2.2.2.2).transQ KK (Nat.le_refl _)).to_below'⟩
set_option maxHeartbeats 4000000 in
theorem rg_g2_shortn (F : Nat → Prop) (a n c o g : Nat) (A : Option Addr) (hA : A = some ⟨g, o, none⟩) (w : World) (hn : n ≤ 1099511627776) (ha : a ≤ n) (hbc : n ≤ c) (hcm : c ≤ maxLen) (hc : ¬ c = a) (idx gen comp z : Int) (k1 k2 k3 : Bool) (h1 : a < n) (x0 : w.cell? ⟨g, o + a, none⟩ = some (.int .u8 (2))) (h2 : a + 1 < n) (x1 : w.cell? ⟨g, o + a + 1, none⟩ = some (.int .u8 (0))) (G2 : GetC w g (o + a) (n - a) (c - a) 2 8 idx k1) (G3 : GetC w g (o + a) (n - a) (c - a) 10 8 gen k2) (G4 : GetC w g (o + a) (n - a) (c - a) 18 8 comp k3) (G5 : GetC w g (o + a) (n - a) (c - a) 26 2 (0) false) (hE : (n : Int) < (a : Int) + 28) :
    Calls Try.prog 62 #[.slice A n c, .int .i64 (a : Nat)] w (RGPost F w (zeroC, 0, 12)) := by
  have f0 : (0 : Int) ≤ (a : Int) := by omega
  have f1 : (a : Int) ≤ (n : Int) := by omega
  have f2 : (a : Int) ≤ (c : Int) := by omega
  have f3 : a ≤ c := by omega
  have m0 : (a : Int) < (n : Int) := by omega
  have m1 : (a : Int) + 1 < (n : Int) := by omega
  go_enter Try.func62, Try.ntmps62
  go_upto_region 5 with fail
  subst hA
  refine wp_world (S := fun X => X.heap[w.heap.size]? = some (.cells #[.int .i64 0, .bool false, .int .i64 0, .int .i64 0, .int .i64 0, .slice none 0 0] 83 (0, 0)) ∧ X.heap[w.heap.size + 1]? = some (.cells #[.int .i64 0, .bool false, .int .i64 0, .int .i64 0, .int .i64 0, .slice none 0 0] 83 (0, 0)) ∧ X.heap.size = w.heap.size + 2 ∧ Keep (fun _ => False) w X ∧ X.cell? ⟨g, o + a, none⟩ = some (.int .u8 (2)) ∧ X.cell? ⟨g, o + a + 1, none⟩ = some (.int .u8 (0))) ⟨(heap_alloc_old (w.alloc _) _ (by simp)).trans (heap_alloc_new w _), (by have := heap_alloc_new (w.alloc (.cells #[.int .i64 0, .bool false, .int .i64 0, .int .i64 0, .int .i64 0, .slice none 0 0] 83)) (.cells #[.int .i64 0, .bool false, .int .i64 0, .int .i64 0, .int .i64 0, .slice none 0 0] 83 (0, 0)); simpa using this), by simp, ((Keep.refl (fun _ => False) w).alloc _).alloc _, ((Keep.refl (fun _ => False) w).alloc _).alloc _ |>.cell (fun h => h) x0, ((Keep.refl (fun _ => False) w).alloc _).alloc _ |>.cell (fun h => h) x1⟩ ?_
  rintro X hX
  have HX := Lib.hid hX
  clear hX
  obtain ⟨r0, r1, r2, r3, r4, r5, rf⟩ := cells6 HX.out.1
  obtain ⟨q0, q1, q2, q3, q4, q5, qf⟩ := cells6 HX.out.2.1
  have y0 := HX.out.2.2.2.2.1
  have y1 := HX.out.2.2.2.2.2
  go_upto_region 17 with fail
  obtain ⟨q, hq⟩ : ∃ q, q = X.heap.size := ⟨_, rfl⟩
  have hq2 : w.heap.size + 1 < q := by have := HX.out.2.2.1; omega
  refine wp_world (S := fun Y => GSt w Y q ⟨2, false, 0, 0, 0, []⟩ (.slice none 0 0)) ⟨(heap_alloc_old X _ (by omega)).trans HX.out.1, (heap_alloc_old X _ (by omega)).trans HX.out.2.1, by rw [hq]; exact heap_alloc_new X _, hq2, HX.out.2.2.2.1.alloc _⟩ ?_
  rw [← hq]
  clear hq HX r0 r1 r2 r3 r4 r5 rf q0 q1 q2 q3 q4 q5 qf y0 y1
  intro Y0 hY
  have HY := Lib.hid hY
  clear hY
  have nq : w.heap.size ≤ q := by omega
  have nq1 : w.heap.size ≠ q := by omega
  have nq2 : q ≠ w.heap.size := by omega
  have nq3 : w.heap.size + 1 ≠ q := by omega
  have nq4 : q ≠ w.heap.size + 1 := by omega
  have H2 := Lib.hid (show ∀ W, Keep (fun _ => False) w W → Calls Try.prog 61 #[.slice (some ⟨g, o + a, none⟩) (n - a) (c - a), .int .i64 (2), .int .i64 8] W (fun e w' => e = .returned (.tuple #[.int .i64 idx, .bool k1]) ∧ W = w') from G2)
  obtain ⟨r0, r1, r2, r3, r4, r5, rf⟩ := cells6 HY.out.2.2.1
  have hK := HY.out.2.2.2.2
  go_upto_region 21 with (first | (go_at_call 61; (with_reducible refine (H2.out _ (by exact (by repeat first | assumption | exact Keep.refl _ _ | refine Keep.alloc ?_ _ | refine Keep.drew ?_ | refine Keep.drewN ?_ _ | refine Keep.setCell ?_ (.inl (by first | omega | (simp; done) | (simp; omega))) _))).mono ?_); rintro e w1 ⟨rfl, rfl⟩) | fail)
  refine wp_world (S := fun Y => GSt w Y q ⟨2, false, idx, 0, 0, []⟩ (.slice none 0 0)) (by first | (with_reducible exact HY.out.set 2 (.int .i64 idx) ⟨2, false, idx, 0, 0, []⟩ (.slice none 0 0) rfl) | (with_reducible exact GSt.drew (HY.out.set 2 (.int .i64 idx) ⟨2, false, idx, 0, 0, []⟩ (.slice none 0 0) rfl)) | (with_reducible exact GSt.drew (GSt.drew (HY.out.set 2 (.int .i64 idx) ⟨2, false, idx, 0, 0, []⟩ (.slice none 0 0) rfl)))) ?_
  clear r0 r1 r2 r3 r4 r5 rf hK HY
  intro Y1 hY
  have HY := Lib.hid hY
  clear hY
  have H3 := Lib.hid (show ∀ W, Keep (fun _ => False) w W → Calls Try.prog 61 #[.slice (some ⟨g, o + a, none⟩) (n - a) (c - a), .int .i64 (10), .int .i64 8] W (fun e w' => e = .returned (.tuple #[.int .i64 gen, .bool k2]) ∧ W = w') from G3)
  obtain ⟨r0, r1, r2, r3, r4, r5, rf⟩ := cells6 HY.out.2.2.1
  have hK := HY.out.2.2.2.2
  go_upto_region 23 with (first | (go_at_call 61; (with_reducible refine (H3.out _ (by exact (by repeat first | assumption | exact Keep.refl _ _ | refine Keep.alloc ?_ _ | refine Keep.drew ?_ | refine Keep.drewN ?_ _ | refine Keep.setCell ?_ (.inl (by first | omega | (simp; done) | (simp; omega))) _))).mono ?_); rintro e w1 ⟨rfl, rfl⟩) | fail)
  refine wp_world (S := fun Y => GSt w Y q ⟨2, false, idx, gen, 0, []⟩ (.slice none 0 0)) (by first | (with_reducible exact HY.out.set 3 (.int .i64 gen) ⟨2, false, idx, gen, 0, []⟩ (.slice none 0 0) rfl) | (with_reducible exact GSt.drew (HY.out.set 3 (.int .i64 gen) ⟨2, false, idx, gen, 0, []⟩ (.slice none 0 0) rfl)) | (with_reducible exact GSt.drew (GSt.drew (HY.out.set 3 (.int .i64 gen) ⟨2, false, idx, gen, 0, []⟩ (.slice none 0 0) rfl)))) ?_
  clear r0 r1 r2 r3 r4 r5 rf hK HY
  intro Y2 hY
  have HY := Lib.hid hY
  clear hY
  have H4 := Lib.hid (show ∀ W, Keep (fun _ => False) w W → Calls Try.prog 61 #[.slice (some ⟨g, o + a, none⟩) (n - a) (c - a), .int .i64 (18), .int .i64 8] W (fun e w' => e = .returned (.tuple #[.int .i64 comp, .bool k3]) ∧ W = w') from G4)
  obtain ⟨r0, r1, r2, r3, r4, r5, rf⟩ := cells6 HY.out.2.2.1
  have hK := HY.out.2.2.2.2
  go_upto_region 25 with (first | (go_at_call 61; (with_reducible refine (H4.out _ (by exact (by repeat first | assumption | exact Keep.refl _ _ | refine Keep.alloc ?_ _ | refine Keep.drew ?_ | refine Keep.drewN ?_ _ | refine Keep.setCell ?_ (.inl (by first | omega | (simp; done) | (simp; omega))) _))).mono ?_); rintro e w1 ⟨rfl, rfl⟩) | fail)
  refine wp_world (S := fun Y => GSt w Y q ⟨2, false, idx, gen, comp, []⟩ (.slice none 0 0)) (by first | (with_reducible exact HY.out.set 4 (.int .i64 comp) ⟨2, false, idx, gen, comp, []⟩ (.slice none 0 0) rfl) | (with_reducible exact GSt.drew (HY.out.set 4 (.int .i64 comp) ⟨2, false, idx, gen, comp, []⟩ (.slice none 0 0) rfl)) | (with_reducible exact GSt.drew (GSt.drew (HY.out.set 4 (.int .i64 comp) ⟨2, false, idx, gen, comp, []⟩ (.slice none 0 0) rfl)))) ?_
  clear r0 r1 r2 r3 r4 r5 rf hK HY
  intro Y3 hY
  have HY := Lib.hid hY
  clear hY
  obtain ⟨r0, r1, r2, r3, r4, r5, rf⟩ := cells6 HY.out.2.2.1
  have hK := HY.out.2.2.2.2
  obtain ⟨s0, s1, s2, s3, s4, s5, sf⟩ := cells6 HY.out.1
  obtain ⟨u0, u1, u2, u3, u4, u5, uf⟩ := cells6 HY.out.2.1
  have H5 := Lib.hid (show ∀ W, Keep (fun _ => False) w W → Calls Try.prog 61 #[.slice (some ⟨g, o + a, none⟩) (n - a) (c - a), .int .i64 (26), .int .i64 2] W (fun e w' => e = .returned (.tuple #[.int .i64 0, .bool false]) ∧ W = w') from G5)
  have hs1 : IntKind.i64.wrap (26 : Int) = 26 := IntWalk.i64_in _ (by omega)
  have hs2 : IntKind.i64.wrap (((n - a : Nat) : Int) - 28) = ((n - a : Nat) : Int) - 28 := IntWalk.i64_in _ (by omega)
  have hs3 : IntKind.i64.wrap (28 + 0) = 28 + 0 := IntWalk.i64_in _ (by omega)
  go_wp2_with (first | (go_at_call 61; (with_reducible refine (H5.out _ (by exact (by repeat first | assumption | exact Keep.refl _ _ | refine Keep.alloc ?_ _ | refine Keep.drew ?_ | refine Keep.drewN ?_ _ | refine Keep.setCell ?_ (.inl (by first | omega | (simp; done) | (simp; omega))) _))).mono ?_); rintro e w1 ⟨rfl, rfl⟩) | fail)
  have KK := keepS6 Y3 w.heap.size (.int .i64 0) (.bool false) (.int .i64 0) (.int .i64 0) (.int .i64 0) (.slice none 0 0)
  have HS := stored6 (HY.out.1) (.int .i64 0) (.bool false) (.int .i64 0) (.int .i64 0) (.int .i64 0) (.slice none 0 0)
  generalize ((((((Y3.setCell ⟨w.heap.size, 0, none⟩ (.int .i64 0)).setCell ⟨w.heap.size, 1, none⟩ (.bool false)).setCell ⟨w.heap.size, 2, none⟩ (.int .i64 0)).setCell ⟨w.heap.size, 3, none⟩ (.int .i64 0)).setCell ⟨w.heap.size, 4, none⟩ (.int .i64 0)).setCell ⟨w.heap.size, 5, none⟩ (.slice none 0 0)) = W7 at KK HS ⊢
  exact bodyPost_ret (results_cmd3 rfl _ _ w.heap.size _ _ _ _ _ _ rfl (show W7.heap[w.heap.size]? = _ from HS) _ _ rfl rfl) rfl ⟨none, 0, 0, rfl, By.nil _ _, ((HY.out.2.2.2.2).transQ KK (Nat.le_refl _)).to_below'⟩
end Go.Proofs.Ytfjgbnnjfapcmaa

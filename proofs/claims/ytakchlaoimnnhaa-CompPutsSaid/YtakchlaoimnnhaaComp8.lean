/- Contracts of vivariumlaw07.live and code. -/
import Derived.Test.YtakchlaoimnnhaaComp7
namespace Go.Proofs.Ytakchlaoimnnhaa
open Go.RowKit
set_option maxRecDepth 100000
set_option linter.unusedVariables false

theorem code07 (z : Int) (w : World) : Calls Try.prog 46 #[.int .i64 z] w fun e w' => e = .returned (.int .i64 z) ∧ w = w' := by
  go_enter Try.func46, Try.ntmps46
  go_wp2
  go_ret
  exact ⟨rfl, rfl⟩
def cf0 : Cf := ⟨2, 4, 1, 1, [⟨⟨#[97]⟩, 3⟩]⟩
theorem cf0_bytes : confB cf0 = [2, 0, 0, 0, 4, 0, 0, 0, 1, 0, 0, 0, 1, 0, 0, 0, 1, 1, 0, 97, 3] := by decide +kernel
theorem live07 (w : World) :
    Calls Try.prog 42 #[] w fun e w' => e = .returned (.bool true) ∧ Below w.heap.size w w' := by
  have P := Lib.hid (fun (W : World) u F (h : CL W F u cf0.l) => cputF_any cf0 u F W h (by decide) (fun x hx => by
    have : x = ⟨⟨#[97]⟩, 3⟩ := by simpa [cf0] using hx
    subst this
    decide))
  rw [cf0_bytes] at P
  have P : Hid (∀ (W : World) (u : Value) (F : Nat → Prop), CL W F u cf0.l → Calls Try.prog 47 #[.agg #[.int .i64 2, .int .i64 4, .int .i64 1, .int .i64 1, u]] W (BytesPost W [2, 0, 0, 0, 4, 0, 0, 0, 1, 0, 0, 0, 1, 0, 0, 0, 1, 1, 0, 97, 3])) := P
  have S0 := Lib.hid (fun (W : World) u (F : Nat → Prop) (h : By W F u [2, 0, 0, 0, 4, 0, 0, 0, 1, 0, 0, 0, 1, 0, 0, 0, 1, 1, 0, 97, 3]) => same_any [2, 0, 0, 0, 4, 0, 0, 0, 1, 0, 0, 0, 1, 0, 0, 0, 1, 1, 0, 97, 3] [2, 0, 0, 0, 4, 0, 0, 0, 1, 0, 0, 0, 1, 0, 0, 0, 1, 1, 0, 97, 3] u _ F _ (W.alloc (.cells (bv [2, 0, 0, 0, 4, 0, 0, 0, 1, 0, 0, 0, 1, 0, 0, 0, 1, 1, 0, 97, 3]).toArray 5)) (h.keep ((Keep.refl (fun _ => False) W).alloc _) (fun _ _ _ h => h)) (By.lit W 5 [2, 0, 0, 0, 4, 0, 0, 0, 1, 0, 0, 0, 1, 0, 0, 0, 1, 1, 0, 97, 3] (by decide)))
  rw [decide_eq_true rfl] at S0
  have CW := Lib.hid (show CL (w.alloc (.cells #[.string ⟨#[97]⟩, .int .i64 3] 108 (0, 0))) (fun b => b = w.heap.size) (.slice (some ⟨w.heap.size, 0, none⟩) 1 1) cf0.l from by
    obtain ⟨x0, x1, -⟩ := cells2 (heap_alloc_new w (.cells #[.string ⟨#[97]⟩, .int .i64 3] 108 (0, 0)))
    refine ⟨_, 1, rfl, Nat.le_refl _, by unfold maxLen; decide, ⟨rfl, fun _ => ⟨_, 0, rfl, rfl, fun i u hu => ?_⟩⟩, fun h => by cases h⟩
    match i, hu with
    | 0, hu => cases hu; exact x0
    | 1, hu => cases hu; exact x1
    | i + 2, hu => simp [cf0, ccells] at hu)
  go_enter Try.func42, Try.ntmps42
  go_wp2_with fail
  with_reducible refine (P.out _ _ _ (by exact CW.out.same (by exact (by repeat first | exact Keep.refl _ _ | refine Keep.alloc ?_ _ | refine Keep.drew ?_ | refine Keep.drewN ?_ _)))).mono ?_
  rintro e w1 ⟨A1, n1, c1, rfl, hby1, hb1⟩
  have H1 := Lib.hid (And.intro hby1 (show Keep (fun _ => False) w w1 from Keep.trans (T := fun _ => False) (by repeat first | exact Keep.refl _ _ | refine Keep.alloc ?_ _ | refine Keep.drew ?_ | refine Keep.drewN ?_ _) (Keep.of_below' hb1) (fun _ _ h => h)))
  clear hby1 hb1
  go_wp2_with fail
  refine (S0.out _ _ _ H1.out.1).mono ?_
  rintro e w2 ⟨rfl, rfl⟩
  go_wp2
  go_ret
  exact ⟨rfl, (H1.out.2.alloc _).to_below'⟩
end Go.Proofs.Ytakchlaoimnnhaa

/- The walk of vivariumlaw03.SealTears: it returns true, old memory unchanged. -/
import Derived.Test.YtakchlaoimnnhaaSealL
namespace Go.Proofs.Ytakchlaoimnnhaa
open Go.RowKit
set_option maxRecDepth 100000
set_option linter.unusedVariables false

set_option maxHeartbeats 2000000 in
theorem sealTears_walk (a b : List UInt8) (u v : Value) (k : Int) (F G : Nat → Prop) (w : World) (hu : By w F u a) (hv : By w G v b) (hk : -9223372036854775808 ≤ k ∧ k ≤ 9223372036854775807) :
    Calls Try.prog 9 #[u, v, .int .i64 k] w fun e w' => e = .returned (.bool true) ∧ Below w.heap.size w w' := by
  have S1 := Lib.hid (stear_any a b u v F G k w hu hv hk)
  have S2 := Lib.hid (fun W (h : Keep (fun _ => False) w W) => rtear_any a b u v F G k W (hu.same h) (hv.same h) hk)
  have LIV := Lib.hid live03
  obtain ⟨A, c, rfl, -, hcm, -⟩ := hu
  obtain ⟨B, d, rfl, -, hdm, -⟩ := hv
  generalize tearB (cutB a 512) (cutB b 512) k = t at *
  have SM := Lib.hid (fun W x y Fx Fy (hx : By W Fx x t) (hy : By W Fy y t) => same_any t t x y Fx Fy W hx hy)
  rw [decide_eq_true rfl] at SM
  generalize a.length = n1 at *
  generalize b.length = n2 at *
  rcases (show 600 < n1 ∨ (n1 ≤ 600 ∧ 600 < n2) ∨ (n1 ≤ 600 ∧ n2 ≤ 600) by omega) with h | ⟨h1, h2⟩ | ⟨h1, h2⟩
  · go_enter Try.func9, Try.ntmps9
    go_wp2_with (go_at_call 30; refine (LIV.out _).mono ?_; rintro e w4 ⟨rfl, hb4⟩)
    go_ret
    exact ⟨rfl, hb4⟩
  · go_enter Try.func9, Try.ntmps9
    go_wp2_with (go_at_call 30; refine (LIV.out _).mono ?_; rintro e w4 ⟨rfl, hb4⟩)
    go_ret
    exact ⟨rfl, hb4⟩
  · go_enter Try.func9, Try.ntmps9
    go_wp2_with fail
    refine S1.out.mono ?_
    rintro e w1 ⟨A1, m1, d1, rfl, hy1, hb1⟩
    have H1 := Lib.hid (And.intro hy1 (Keep.of_below' hb1))
    clear hy1 hb1
    go_wp2_with fail
    refine (S2.out _ H1.out.2).mono ?_
    rintro e w2 ⟨A2, m2, d2, rfl, hy2, hb2⟩
    have H2 := Lib.hid (And.intro (H1.out.1.below hb2) (And.intro hy2 (K.to H1.out.2 hb2)))
    clear hy2 hb2 H1
    go_wp2_with fail
    refine (SM.out _ _ _ _ _ H2.out.1 H2.out.2.1).mono ?_
    rintro e w3 ⟨rfl, rfl⟩
    go_wp2_with fail
    refine (LIV.out _).mono ?_
    rintro e w4 ⟨rfl, hb4⟩
    go_wp2
    go_ret
    exact ⟨rfl, H2.out.2.2.to_below'.trans (hb4.mono H2.out.2.2.size)⟩
end Go.Proofs.Ytakchlaoimnnhaa

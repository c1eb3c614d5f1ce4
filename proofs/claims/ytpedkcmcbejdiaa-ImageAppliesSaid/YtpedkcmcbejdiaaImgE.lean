/- Contracts of vivariumlaw38.live, code, image.Put of nil. -/
import Derived.Test.YtpedkcmcbejdiaaImgD
import Derived.Test.YtpedkcmcbejdiaaImgC
namespace Go.Proofs.Ytpedkcmcbejdiaa
open Go.RowKit
set_option maxRecDepth 100000
set_option linter.unusedVariables false
set_option linter.unusedSimpArgs false

theorem code38 (z : Int) (w : World) : Calls Try.prog 12 #[.int .i64 z] w fun e w' => e = .returned (.int .i64 z) ∧ w = w' := by
  go_enter Try.func12, Try.ntmps12
  go_wp2
  go_ret
  exact ⟨rfl, rfl⟩
theorem iput_nil (w : World) : Calls Try.prog 16 #[.pointer none] w fun e w' => e = .returned (.slice none 0 0) ∧ w = w' := by
  go_enter Try.func16, Try.ntmps16
  go_wp2
  go_ret
  exact ⟨rfl, rfl⟩
theorem live38 (w : World) : Calls Try.prog 7 #[] w fun e w' => e = .returned (.bool true) ∧ Below w.heap.size w w' := by
  have DN := Lib.hid (fun W => show Calls Try.prog 24 #[.int .i64 3] W fun e w' => ∃ p gs u, e = .returned (.pointer (some ⟨p, 0, none⟩)) ∧ DSt W w' p gs u (List.replicate 3 (zer 512)) from dnew_any 3 W (by decide))
  have LP := Lib.hid live_put
  go_enter Try.func7, Try.ntmps7
  go_wp2_with fail
  with_reducible refine (DN.out _).mono ?_
  rintro e w1 ⟨p, gs, u, rfl, hd⟩
  have PU := Lib.hid (iput_any _ _ _ w1 hd.dk (by simp) (by simp))
  rw [LP.out] at PU
  have HB := Lib.hid hd.below
  clear hd
  go_wp2_with fail
  with_reducible refine PU.out.mono ?_
  rintro e w2 ⟨A, n, c, rfl, ho, hb⟩
  have H2 := Lib.hid (And.intro ho.by_ (HB.out.trans (hb.mono HB.out.size)))
  have SM := Lib.hid (fun W G v (hk : Keep (fun _ => False) w2 W) (hv : By W G v [3, 0, 0, 3, 0]) => show Calls Try.prog 13 #[.slice A n c, v] W fun e w' => e = .returned (.bool true) ∧ W = w' from by
    have := same_any _ _ _ v _ G W (H2.out.1.keep hk (fun _ _ _ h => h)) hv
    rwa [decide_eq_true rfl] at this)
  have LT := Lib.hid (fun W => By.lit W 5 [3, 0, 0, 3, 0] (by decide))
  clear ho hb
  go_wp2_with fail
  refine (SM.out _ _ _ ((Keep.refl _ w2).alloc _) (LT.out w2)).mono ?_
  rintro e w3 ⟨rfl, rfl⟩
  go_wp2
  go_ret
  exact ⟨rfl, H2.out.2.trans (((Keep.refl (fun _ => False) w2).alloc _).to_below'.mono H2.out.2.size)⟩
end Go.Proofs.Ytpedkcmcbejdiaa

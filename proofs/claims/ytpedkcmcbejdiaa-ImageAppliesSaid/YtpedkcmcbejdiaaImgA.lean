/- Contracts of vivariumref38.at, empty, Whole. -/
import Derived.Test.YtpedkcmcbejdiaaImg9
namespace Go.Proofs.Ytpedkcmcbejdiaa
open Go.RowKit
set_option maxRecDepth 100000
set_option linter.unusedVariables false
set_option linter.unusedSimpArgs false

theorem rat_any (b : List UInt8) (v : Value) (F : Nat → Prop) (i : Nat) (w : World) (hv : By w F v b) (hi : 512 * i + 512 ≤ b.length) (hb : b.length ≤ 1099511627776) :
    Calls Try.prog 39 #[v, .int .i64 (i : Int)] w fun e w' => ∃ A c, e = .returned (.slice A 512 c) ∧ By w F (.slice A 512 c) ((b.drop (512 * i)).take 512) ∧ w = w' := by
  have HV := Lib.hid hv
  obtain ⟨A, c, rfl, h1, h2, h3, -⟩ := id hv
  obtain ⟨bb, oo, rfl, -, -⟩ := hv.range (m := 1) (by decide) (by omega)
  unfold maxLen at h2
  obtain ⟨j, hj⟩ : ∃ j, j = 512 * i := ⟨_, rfl⟩
  have PC := Lib.hid (show By w F (.slice (some ⟨bb, oo + j, none⟩) 512 (c - j)) ((b.drop (512 * i)).take 512) from by
    have := HV.out.piece (lo := j) (m := 512) (A' := some ⟨bb, oo + j, none⟩) (c' := c - j) (by omega) (fun h a e => by cases e; simp [Addr.add]) (by omega) (by unfold maxLen; omega) (fun e => by cases e)
    rwa [hj] at this ⊢)
  generalize b.length = n at *
  have ej : 512 * (i : Int) = (j : Int) := by omega
  have ew : IntKind.i64.wrap (j : Int) = (j : Int) := IntWalk.i64_in _ (by omega)
  obtain ⟨j2, hj2⟩ : ∃ j2, j2 = j + 512 := ⟨_, rfl⟩
  have ej2 : (j : Int) + 512 = (j2 : Int) := by omega
  have ej3 : j + 512 = j2 := by omega
  have ew2 : IntKind.i64.wrap (j2 : Int) = (j2 : Int) := IntWalk.i64_in _ (by omega)
  have g1 : j ≤ j2 := by omega
  have g2 : j2 ≤ n := by omega
  have g3 : j2 ≤ c := by omega
  have g4 : ¬ c = j := by omega
  have g5 : j ≤ c := by omega
  have g6 : j2 - j = 512 := by omega
  clear hv hi hj hj2 HV
  go_enter Try.func39, Try.ntmps39
  go_wp2
  go_ret
  exact ⟨_, _, rfl, PC.out, rfl⟩
theorem cutB_nil (n : Nat) : cutB [] n = zer n := by simp [cutB, zer]
theorem rempty_any (l : List UInt8) (v : Value) (F : Nat → Prop) (w : World) (hv : By w F v l) :
    Calls Try.prog 38 #[v] w fun e w' => e = .returned (.bool (emp l)) ∧ Keep (fun _ => False) w w' := by
  have CU := Lib.hid (refCut_any [] (.slice none 0 0) (fun _ => True) 512 w (By.nil _ _))
  rw [show cutN 512 = 512 from rfl, cutB_nil] at CU
  have SM := Lib.hid (fun W (hk : Keep (fun _ => False) w W) u G (hu : By W G u (zer 512)) => same_any l (zer 512) v u F G W (hv.keep hk (fun _ _ _ h => h)) hu)
  obtain ⟨A, c, rfl, -, -, -, -⟩ := hv
  change Hid (∀ W, Keep (fun _ => False) w W → ∀ u G, By W G u (zer 512) → Calls _ _ _ _ fun e w' => e = .returned (.bool (emp l)) ∧ W = w') at SM
  generalize l.length = n at *
  generalize emp l = b at *
  go_enter Try.func38, Try.ntmps38
  go_wp2_with fail
  with_reducible refine CU.out.mono ?_
  rintro e w1 ⟨u, rfl, ho, hb⟩
  have hz : By w1 (fun k => w.heap.size ≤ k) u (zer 512) := sl_by ho.sl
  have H1 := Lib.hid (And.intro hz (Keep.of_below' hb))
  obtain ⟨A1, c1, rfl, -⟩ := ho.form
  clear ho hb hz CU
  go_wp2_with fail
  with_reducible refine (SM.out _ H1.out.2 _ _ H1.out.1).mono ?_
  rintro e w2 ⟨rfl, rfl⟩
  go_wp2
  go_ret
  exact ⟨rfl, H1.out.2⟩
theorem rwhole_any (b : List UInt8) (v : Value) (F : Nat → Prop) (w : World) (hv : By w F v b) (hn : b.length / 512 ≤ 4096) :
    Calls Try.prog 11 #[v] w fun e w' => ∃ A c, e = .returned (.slice A (512 * (b.length / 512)) c) ∧ By w F (.slice A (512 * (b.length / 512)) c) (b.take (512 * (b.length / 512))) ∧ w = w' := by
  have HV := Lib.hid hv
  obtain ⟨A, c, rfl, h1, h2, h3, -⟩ := id hv
  unfold maxLen at h2
  obtain ⟨n, hN⟩ : ∃ n, b.length / 512 = n := ⟨_, rfl⟩
  rw [hN] at hn ⊢
  have PC := Lib.hid (show ∀ c', c' = c → By w F (.slice A (512 * n) c') (b.take (512 * n)) from fun c' e => by
    subst e
    have := HV.out.piece (lo := 0) (m := 512 * n) (A' := A) (c' := c') (by omega) (fun h a e => by rw [e]; simp [Addr.add]) (by omega) (by unfold maxLen; omega) h3
    simpa using this)
  generalize hL : b.length = L at *
  have hq : (L : Int).tdiv 512 = (n : Int) := by rw [Int.tdiv_eq_ediv_of_nonneg (by omega)]; omega
  have qw : IntKind.i64.wrap (n : Int) = (n : Int) := IntWalk.i64_in _ (by omega)
  have f1 : ¬ (4096 : Int) < (n : Int) := by omega
  obtain ⟨m, hm⟩ : ∃ m, m = 512 * n := ⟨_, rfl⟩
  rw [← hm] at PC ⊢
  have em : 512 * (n : Int) = (m : Int) := by omega
  have ew : IntKind.i64.wrap (m : Int) = (m : Int) := IntWalk.i64_in _ (by omega)
  have g1 : m ≤ L := by omega
  have g2 : m ≤ c := by omega
  clear hv hL hN hm HV
  go_enter Try.func11, Try.ntmps11
  go_wp2
  go_ret
  exact ⟨_, _, rfl, PC.out _ rfl, rfl⟩
end Go.Proofs.Ytpedkcmcbejdiaa

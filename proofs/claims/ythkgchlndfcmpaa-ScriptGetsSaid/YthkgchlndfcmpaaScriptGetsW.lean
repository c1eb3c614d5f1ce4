/- The walk of vivariumlaw31.ScriptGets: it returns true, old memory unchanged. -/
import Derived.Test.YthkgchlndfcmpaaScrM
import Derived.Test.YthkgchlndfcmpaaScrN
import Derived.Test.YthkgchlndfcmpaaScriptPutsW
namespace Go.Proofs.Ythkgchlndfcmpaa
open Go.RowKit
set_option maxRecDepth 100000
set_option linter.unusedVariables false
set_option linter.unusedSimpArgs false

set_option maxHeartbeats 8000000 in
theorem scriptGets_walk (b : List UInt8) (v : Value) (w : World) (h : By w (fun _ => True) v b) :
    Calls Try.prog 13 #[v] w fun e w' => e = .returned (.bool true) ∧ Below w.heap.size w w' := by
  have LV := Lib.hid (fun W => live31 W)
  have h0 := h
  obtain ⟨A, c, rfl, -, -⟩ := h
  by_cases hbig : 1000 < b.length
  · have h1 : (1000 : Int) < (b.length : Int) := by omega
    generalize b.length = n at *
    clear h0
    go_enter Try.func13, Try.ntmps13
    go_wp2_with fail
    refine (LV.out _).mono ?_
    rintro e w2 ⟨rfl, hb2⟩
    go_wp2
    go_ret
    exact ⟨rfl, hb2⟩
  have h1 : ¬ (1000 : Int) < (b.length : Int) := by omega
  obtain ⟨GD, PB⟩ := gets_all b
  have SG := Lib.hid (fun W (hk : Keep (fun _ => False) w W) => sgets_any b _ _ W (h0.keep hk (fun _ _ _ h => h)) (by omega))
  have RG := Lib.hid (fun W (hk : Keep (fun _ => False) w W) => rgets_any b _ _ W (h0.keep hk (fun _ _ _ h => h)) (by omega) (one_law b))
  have HB := Lib.hid (fun W (hk : Keep (fun _ => False) w W) => h0.keep hk (fun _ _ _ h => h))
  have PL : (getsP b (b.length + 1) 0 []).2 = 0 → ∀ k, (putsB (getsP b (b.length + 1) 0 []).1 k).length ≤ 1000000000 := fun h k => by
    have := putsB_pre (getsP b (b.length + 1) 0 []).1 k
    rw [PB h] at this
    omega
  generalize getsP b (b.length + 1) 0 [] = r at *
  obtain ⟨l, er⟩ := r
  dsimp only at GD PB PL
  have FU : ∀ x ∈ l, x.fu.length ≤ 1000000 := fun x hx => by have := (GD x hx).2.2.2; omega
  have SA : ∀ x ∈ l, smallA x := fun x hx => by
    obtain ⟨_, g1, g2, g3⟩ := GD x hx
    exact ⟨by omega, by omega, by omega⟩
  have SL := Lib.hid (fun W a b Fa Fb (ha : AS W Fa a l) (hb : AS W Fb b l) => sameL31 _ _ a b Fa Fb W ha hb FU FU)
  rw [(sameLA_iff _ _).2 rfl] at SL
  have PT := Lib.hid (fun (h : er = 0) W u G (hu : AS W G u l) => by
    have := sputs_any l u G W hu SA (PL h)
    rw [PB h] at this
    exact this)
  have SM := Lib.hid (fun W a v Fa Fb (ha : By W Fa a b) (hb : By W Fb v b) => same_any _ _ a v Fa Fb W ha hb)
  rw [decide_eq_true rfl] at SM
  clear GD PB PL FU SA h0 hbig
  generalize b.length = n at *
  go_enter Try.func13, Try.ntmps13
  have K1 := SG.out w (Keep.refl _ _)
  unfold GsPost at K1
  go_wp2_with fail
  with_reducible refine K1.mono ?_
  rintro e w1 ⟨A1, c1, rfl, ha1, hb1⟩
  have k1 := Lib.hid (Keep.of_below' hb1)
  have H1 := Lib.hid ha1
  clear ha1 hb1 K1 SG
  have K1 := RG.out w1 k1.out
  unfold GsPost at K1
  go_wp2_with fail
  with_reducible refine K1.mono ?_
  rintro e w2 ⟨A2, c2, rfl, ha2, hb2⟩
  have k2 := Lib.hid (k1.out.trans (Keep.of_below' hb2) (fun _ _ h => h))
  have H2 := Lib.hid (And.intro (H1.out.same (Keep.of_below' hb2)) ha2)
  clear ha2 hb2 K1 RG H1
  have K1 := SL.out w2 _ _ _ _ H2.out.1 H2.out.2
  go_wp2_with fail
  with_reducible refine K1.mono ?_
  rintro e w3 ⟨rfl, hb3⟩
  have k3 := Lib.hid (k2.out.trans (Keep.of_below' hb3) (fun _ _ h => h))
  have H3 := Lib.hid (H2.out.1.same (Keep.of_below' hb3))
  clear hb3 K1 SL H2
  have K1 := code31 er w3
  go_wp2_with fail
  with_reducible refine K1.mono ?_
  rintro e w4 ⟨rfl, rfl⟩
  by_cases he : er = 0
  · have e1 : (er != 0) = false := by simp [he]
    have K2 := PT.out he w4 _ _ H3.out
    clear he
    go_wp2_with fail
    with_reducible refine K2.mono ?_
    rintro e w5 ⟨A5, n5, c5, rfl, hy5, hb5⟩
    have k5 := Lib.hid (k3.out.trans (Keep.of_below' hb5) (fun _ _ h => h))
    have K3 := SM.out w5 _ _ _ _ hy5 (HB.out w5 k5.out)
    clear hy5 hb5 K2
    go_wp2_with fail
    with_reducible refine K3.mono ?_
    rintro e w6 ⟨rfl, rfl⟩
    go_wp2_with fail
    refine (LV.out _).mono ?_
    rintro e w7 ⟨rfl, hb7⟩
    go_wp2
    go_ret
    exact ⟨rfl, (k5.out.trans (Keep.of_below' hb7) (fun _ _ h => h)).to_below'⟩
  · have e1 : (er != 0) = true := by simp [he]
    clear he
    go_wp2_with fail
    refine (LV.out _).mono ?_
    rintro e w7 ⟨rfl, hb7⟩
    go_wp2
    go_ret
    exact ⟨rfl, (k3.out.trans (Keep.of_below' hb7) (fun _ _ h => h)).to_below'⟩
end Go.Proofs.Ythkgchlndfcmpaa

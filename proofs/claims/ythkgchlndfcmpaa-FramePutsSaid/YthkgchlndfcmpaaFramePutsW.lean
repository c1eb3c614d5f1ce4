/- The walk of vivariumlaw14.FramePuts: it returns true, old memory unchanged. -/
import Derived.Test.YthkgchlndfcmpaaFrm7
import Derived.Test.YthkgchlndfcmpaaFrmL
import Derived.Test.YthkgchlndfcmpaaFrmLv
namespace Go.Proofs.Ythkgchlndfcmpaa
open Go.RowKit
set_option maxRecDepth 100000
set_option linter.unusedVariables false
set_option linter.unusedSimpArgs false

theorem muchC_not {l : List Cmd} (h : muchC l = false) : l.length ≤ 70 := by
  unfold muchC at h
  rw [Bool.or_eq_false_iff] at h
  have h2 := of_decide_eq_false h.2
  omega
set_option maxHeartbeats 8000000 in
theorem framePuts_walk (l : List Cmd) (v : Value) (w : World) (h : NS cmN w (fun _ => True) v l) (hr : ∀ x ∈ l, rngC x) :
    Calls Try.prog 11 #[v] w fun e w' => e = .returned (.bool true) ∧ Below w.heap.size w w' := by
  have LV := Lib.hid (fun W => live14 W)
  have h0 := h
  have MU := Lib.hid (fun W (hk : Keep (fun _ => False) w W) => much13 l v _ W (h.same hk))
  obtain ⟨A, c, rfl, -, -⟩ := h.form
  by_cases hbig : muchC l = true
  · rw [hbig] at MU
    clear h h0 hr hbig
    generalize l.length = n at *
    go_enter Try.func11, Try.ntmps11
    go_wp2_with fail
    have K1 := MU.out w (Keep.refl _ _)
    with_reducible refine K1.mono ?_
    rintro e w1 ⟨rfl, rfl⟩
    clear K1 MU
    go_wp2_with fail
    refine (LV.out _).mono ?_
    rintro e w2 ⟨rfl, hb2⟩
    go_wp2
    go_ret
    exact ⟨rfl, hb2⟩
  rw [Bool.not_eq_true] at hbig
  rw [hbig] at MU
  have hl := muchC_not hbig
  have PT := Lib.hid (fun W (hk : Keep (fun _ => False) w W) => fput_any l _ _ W (h0.same hk))
  have RC := Lib.hid (fun W (hk : Keep (fun _ => False) w W) => rfcheck_any l _ _ W (h0.same hk))
  have PC := Lib.hid (fun W (hk : Keep (fun _ => False) w W) => fcheck_any l _ _ W (h0.same hk))
  have SZ := Lib.hid (fun W (hk : Keep (fun _ => False) w W) => fsize_any l _ _ W (h0.same hk))
  obtain ⟨nb, hnb⟩ : ∃ nb, nb = (putF l).1.length := ⟨_, rfl⟩
  rw [← hnb] at SZ
  have HNB := Lib.hid hnb
  clear hnb
  have RB := Lib.hid (fun W (hk : Keep (fun _ => False) w W) (hz : checksF l = 0) => rfbytes_any l _ _ W (h0.same hk) hz)
  have PL := Lib.hid (fun W (hk : Keep (fun _ => False) w W) => fplain_any l _ _ W (h0.same hk) (by omega))
  have HPE := Lib.hid (show (putF l).2 = checksF l from by unfold putF; split <;> rename_i h <;> first | exact h.symm | rfl)
  have HP0 := Lib.hid (show checksF l = 0 → (putF l).1 = frameB l from fun h => by unfold putF; rw [if_pos h])
  have HP1 := Lib.hid (show checksF l ≠ 0 → (putF l).1.length = 0 from fun h => by unfold putF; rw [if_neg h]; rfl)
  have HG := Lib.hid (fun (hz : checksF l = 0) W u G (hy : By W G u (frameB l)) => by
    have := fget_any (frameB l) u G W hy (by have := fronB_len hz l.length; unfold frameB; rw [List.length_append, leB_len]; omega)
    rw [get_put l hz hr] at this
    exact this)
  have SM := Lib.hid (fun W a b Fa Fb (ha : By W Fa a (frameB l)) (hb : By W Fb b (frameB l)) => same_any _ _ a b Fa Fb W ha hb)
  rw [decide_eq_true rfl] at SM
  have SL := Lib.hid (fun W a b Fa Fb (ha : NS cmN W Fa a (l.map plainC)) (hb : NS cmN W Fb b (l.map plainC)) => fsame_any _ _ a b Fa Fb W ha hb)
  rw [decide_eq_true rfl] at SL
  clear h h0 hr hbig hl
  generalize l.map plainC = pl at *
  generalize frameB l = fb at *
  generalize putF l = pf at *
  obtain ⟨pb, pe⟩ := pf
  obtain rfl : pe = checksF l := HPE.out
  generalize checksF l = z at *
  generalize l.length = n at *
  go_enter Try.func11, Try.ntmps11
  go_wp2_with fail
  have K1 := MU.out w (Keep.refl _ _)
  with_reducible refine K1.mono ?_
  rintro e w1 ⟨rfl, rfl⟩
  clear K1 MU
  go_wp2_with fail
  have K1 := PT.out w (Keep.refl _ _)
  unfold FPost at K1
  with_reducible refine K1.mono ?_
  rintro e w1 ⟨A1, n1, c1, rfl, hy1, hn1, hb1⟩
  have k1 := Lib.hid (Keep.of_below' hb1)
  have H1 := Lib.hid hy1
  obtain rfl : n1 = nb := hn1.trans HNB.out.symm
  clear hy1 hb1 hn1 K1 PT
  go_wp2_with fail
  have K1 := RC.out w1 k1.out
  with_reducible refine K1.mono ?_
  rintro e w2 ⟨rfl, hb2⟩
  have k2 := Lib.hid (k1.out.trans (Keep.of_below' hb2) (fun _ _ h => h))
  have H2 := Lib.hid (H1.out.keep (Keep.of_below' hb2) (fun _ _ _ h => h))
  clear hb2 K1 RC H1 k1
  have K1 := code14 z w2
  go_wp2_with fail
  with_reducible refine K1.mono ?_
  rintro e w3 ⟨rfl, rfl⟩
  clear K1
  go_wp2_with fail
  have K1 := PC.out w2 k2.out
  with_reducible refine K1.mono ?_
  rintro e w3 ⟨rfl, hb3⟩
  have k3 := Lib.hid (k2.out.trans (Keep.of_below' hb3) (fun _ _ h => h))
  have H3 := Lib.hid (H2.out.keep (Keep.of_below' hb3) (fun _ _ _ h => h))
  clear hb3 K1 PC H2 k2
  have K1 := code14 z w3
  go_wp2_with fail
  with_reducible refine K1.mono ?_
  rintro e w4 ⟨rfl, rfl⟩
  clear K1
  go_wp2_with fail
  have K1 := SZ.out w3 k3.out
  with_reducible refine K1.mono ?_
  rintro e w4 ⟨rfl, hb4⟩
  have k4 := Lib.hid (k3.out.trans (Keep.of_below' hb4) (fun _ _ h => h))
  have H4 := Lib.hid (H3.out.keep (Keep.of_below' hb4) (fun _ _ _ h => h))
  clear hb4 K1 SZ H3 k3
  by_cases hz : z = 0
  · have hpb : pb = fb := HP0.out hz
    subst hpb
    have e1 : (z != 0) = false := by simp [hz]
    have K1 := HG.out hz w4 _ _ H4.out
    have RB1 := Lib.hid (fun W hk => RB.out W hk hz)
    subst hz
    unfold GfPost at K1
    go_wp2_with fail
    with_reducible refine K1.mono ?_
    rintro e w5 ⟨A5, c5, rfl, hx5, hb5⟩
    have k5 := Lib.hid (k4.out.trans (Keep.of_below' hb5) (fun _ _ h => h))
    have H5 := Lib.hid (And.intro (H4.out.keep (Keep.of_below' hb5) (fun _ _ _ h => h)) hx5)
    clear hb5 hx5 K1 HG H4 k4 RB
    go_wp2_with fail
    have K1 := RB1.out w5 k5.out
    unfold BytesPost at K1
    with_reducible refine K1.mono ?_
    rintro e w6 ⟨A6, n6, c6, rfl, hy6, hb6⟩
    have k6 := Lib.hid (k5.out.trans (Keep.of_below' hb6) (fun _ _ h => h))
    have H6 := Lib.hid (H5.out.2.same (Keep.of_below' hb6))
    have K2 := SM.out w6 _ _ _ _ (H5.out.1.keep (Keep.of_below' hb6) (fun _ _ _ h => h)) hy6
    clear hb6 hy6 K1 RB1 H5 k5
    go_wp2_with fail
    with_reducible refine K2.mono ?_
    rintro e w7 ⟨rfl, rfl⟩
    clear K2 SM
    go_wp2_with fail
    have K1 := PL.out w6 k6.out
    unfold CsPost at K1
    with_reducible refine K1.mono ?_
    rintro e w7 ⟨A7, c7, rfl, hx7, hb7⟩
    have k7 := Lib.hid (k6.out.trans (Keep.of_below' hb7) (fun _ _ h => h))
    have K2 := SL.out w7 _ _ _ _ (H6.out.same (Keep.of_below' hb7)) hx7
    clear hb7 hx7 K1 PL H6 k6
    go_wp2_with fail
    with_reducible refine K2.mono ?_
    rintro e w8 ⟨rfl, hb8⟩
    have k8 := Lib.hid (k7.out.trans (Keep.of_below' hb8) (fun _ _ h => h))
    clear hb8 K2 SL k7
    have K1 := code14 0 w8
    go_wp2_with fail
    with_reducible refine K1.mono ?_
    rintro e w9 ⟨rfl, rfl⟩
    go_wp2_with fail
    refine (LV.out _).mono ?_
    rintro e w9 ⟨rfl, hb9⟩
    go_wp2
    go_ret
    exact ⟨rfl, (k8.out.trans (Keep.of_below' hb9) (fun _ _ h => h)).to_below'⟩
  · have e1 : (z != 0) = true := by simp [hz]
    have hn0 : n1 = 0 := HNB.out.trans (HP1.out hz)
    clear hz
    subst hn0
    go_wp2_with fail
    refine (LV.out _).mono ?_
    rintro e w9 ⟨rfl, hb9⟩
    go_wp2
    go_ret
    exact ⟨rfl, (k4.out.trans (Keep.of_below' hb9) (fun _ _ h => h)).to_below'⟩
end Go.Proofs.Ythkgchlndfcmpaa

/- The walk of vivariumlaw17.PartSplits: it returns true, old memory unchanged. -/
import Derived.Test.YtakchlaoimnnhaaPartL
import Derived.Test.YtakchlaoimnnhaaPart6
namespace Go.Proofs.Ytakchlaoimnnhaa
open Go.RowKit
set_option maxRecDepth 100000
set_option linter.unusedVariables false

theorem need_3000 {n : Nat} (h : n ≤ 3000) : need n ≤ 1024 := by unfold need; split <;> omega
set_option maxHeartbeats 2000000 in
theorem partSplits_walk (z : Int) (b : List UInt8) (v : Value) (F : Nat → Prop) (w : World) (hv : By w F v b) (hz : -9223372036854775808 ≤ z ∧ z ≤ 9223372036854775807) :
    Calls Try.prog 3 #[.int .i64 z, v] w fun e w' => e = .returned (.bool true) ∧ Below w.heap.size w w' := by
  have hv0 := hv
  obtain ⟨A, c, rfl, _, hcm, _, _⟩ := hv
  by_cases hbig : 3000 < b.length
  · clear hv0
    generalize b.length = len at *
    go_enter Try.func3, Try.ntmps3
    go_wp2_with (go_at_call 15; refine (live17 _).mono ?_; rintro e w4 ⟨rfl, hb4⟩)
    go_ret
    exact ⟨rfl, hb4⟩
  have hbl : b.length ≤ 3000 := by omega
  have hnd := need_3000 hbl
  obtain ⟨hj, hfs, hjb⟩ := split_join (z := z) hnd
  have P1 := Lib.hid (psplit_any z b _ F w hv0 (by omega))
  have P2 := Lib.hid (fun W (hk : Keep (fun _ => False) w W) => rsplit_any z b _ F W (hv0.keep hk (fun _ _ _ h => h)) (by omega))
  have J := Lib.hid (fun W u G (hu : Bys W G u (splitL z b)) => pjoin_any (splitL z b) u G W hu (by rw [hjb]; omega) (by unfold splitL; split; (exact Nat.zero_le _); (rw [pieces_len]; omega)) (fun r hr => by
    obtain ⟨i, hi, rfl⟩ := List.mem_iff_getElem.1 hr
    have h1 := ((joinOk_iff.1 hj).2 i _ (List.getElem?_eq_getElem hi))
    have := (headOk_iff.1 (okAt_iff.1 h1).1).2.1
    omega))
  have S1 := Lib.hid (fun W u G (hu : By W G u b) (hk : Keep (fun _ => False) w W) => same_any b b u _ G F W hu (hv0.keep hk (fun _ _ _ h => h)))
  rw [decide_eq_true rfl] at S1
  have JP := Lib.hid (show ∀ W e w', JoinPost W (splitL z b) e w' → ∃ A n c, e = .returned (.tuple #[.int .i64 (clampSeq z : Nat), .slice A n c, .bool true]) ∧ By w' (fun x => W.heap.size ≤ x) (.slice A n c) b ∧ Below W.heap.size W w' from fun W e w' ⟨A, n, c, h1, h2, h3⟩ => by
    rw [if_pos hj, hfs, hj] at h1
    rw [if_pos hj, hjb] at h2
    exact ⟨A, n, c, h1, h2, h3⟩)
  have RS := Lib.hid (fun W u v G H (hu : Bys W G u (splitL z b)) (hv : Bys W H v (splitL z b)) => rsame17 (splitL z b) (splitL z b) u v G H W hu hv)
  rw [decide_eq_true rfl] at RS
  have LIV := Lib.hid live17
  have CZ : Hid (0 ≤ z → z ≤ 281474976710656 → ((clampSeq z : Nat) : Int) = z) := fun h1 h2 => by
    unfold clampSeq
    rw [if_neg (by omega), if_neg (by omega)]
    omega
  generalize splitL z b = R at *
  generalize clampSeq z = s at *
  clear hj hfs hjb hnd hv0
  generalize b.length = len at *
  have hz1 := hz.1
  have hz2 := hz.2
  clear hz
  rcases (show z < 0 ∨ (0 ≤ z ∧ 281474976710656 < z) ∨ (0 ≤ z ∧ z ≤ 281474976710656) by omega) with h | ⟨h, h'⟩ | ⟨h, h'⟩
  all_goals
    try have es : (((s : Nat) : Int) == z) = true := by rw [beq_iff_eq]; exact CZ.out h h'
    go_enter Try.func3, Try.ntmps3
    go_wp2_with fail
    refine P1.out.mono ?_
    rintro e w1 ⟨u1, rfl, hl1, hb1⟩
    have H1 := Lib.hid (And.intro hl1 hb1)
    clear hl1 hb1
    go_wp2_with fail
    refine (P2.out w1 (Keep.of_below' H1.out.2)).mono ?_
    rintro e w2 ⟨u2, rfl, hl2, hb2⟩
    have H2 := Lib.hid (And.intro hl2 hb2)
    clear hl2 hb2
    go_wp2_with fail
    refine (RS.out w2 _ _ _ _ (H1.out.1.bys.below H2.out.2) H2.out.1.bys).mono ?_
    rintro e w3 ⟨rfl, hk3⟩
    have H3 := Lib.hid hk3
    clear hk3
    go_wp2_with fail
    refine (J.out w3 _ _ ((H1.out.1.bys.below H2.out.2).keep H3.out (fun _ _ _ h => h))).mono ?_
    rintro e w4 hjp
    obtain ⟨A4, n4, c4, rfl, hy4, hb4⟩ := JP.out _ _ _ hjp
    have K4 := Lib.hid (show Keep (fun _ => False) w w4 from (Keep.of_below' H1.out.2).trans ((Keep.of_below' H2.out.2).trans (H3.out.trans (Keep.of_below' hb4) (fun _ _ h => h)) (fun _ _ h => h)) (fun _ _ h => h))
    have Y4 := Lib.hid hy4
    clear hjp hy4 hb4
    go_wp2_with fail
    refine (S1.out w4 _ _ Y4.out K4.out).mono ?_
    rintro e w5 ⟨rfl, rfl⟩
    go_wp2_with fail
    refine (LIV.out _).mono ?_
    rintro e w6 ⟨rfl, hb6⟩
    go_wp2
    go_ret
    exact ⟨rfl, K4.out.to_below'.trans (hb6.mono K4.out.size)⟩
end Go.Proofs.Ytakchlaoimnnhaa

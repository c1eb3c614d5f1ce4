/- Contract of vivariumref07.Right. Printed by gencomp5.py. -/
import Derived.Test.YtdeifjnhbdkkgaaGreatDoorComp1
import Derived.Deep.RegionHeld3
import Derived.WalkMore
import Derived.Deep.LoopGhost
namespace Go.Proofs.YtdeifjnhbdkkgaaGreatDoor
open Go.RowKit
set_option maxRecDepth 100000
set_option linter.unusedVariables false

theorem find_le {l : List Cp} {k : Nat} (hk : k < l.length) : findN l (nmAt l k) ≤ k := by
  by_cases h : k < findN l (nmAt l k)
  · exact absurd rfl (findN_none (l := l) (nm := nmAt l k) (k := k + 1) (by omega) k (by omega))
  · omega
end Go.Proofs.YtdeifjnhbdkkgaaGreatDoor
namespace Go.Proofs.YtdeifjnhbdkkgaaGreatDoor
open Go.RowKit
set_option maxRecDepth 100000
set_option linter.unusedVariables false

def checkF (c : Cf) : Int := if rightB c = true then 0 else 1
set_option maxHeartbeats 8000000 in
theorem ccheckF_any (c : Cf) (u : Value) (F : Nat → Prop) (w : World) (hu : CL w F u c.l) :
    Calls Tryz.prog 30 #[confV c u] w fun e w' => e = .returned (.int .i64 (checkF c)) ∧ Below w.heap.size w w' := by
  have hu0 := hu
  obtain ⟨A, cap, rfl, hnc, hcm, -⟩ := hu
  obtain ⟨n, hn⟩ : ∃ n, n = c.l.length := ⟨_, rfl⟩
  have HN := Lib.hid hn
  have B0 := Lib.hid (BF.first hu0)
  have RF := Lib.hid (show ¬ sizesOk c → checkF c = 1 from fun h => by unfold checkF; rw [rightB_no h]; rfl)
  have RY := Lib.hid (show sizesOk c → okTo c.l c.l.length → checkF c = 0 from fun h h2 => by unfold checkF; rw [rightB_yes h h2]; rfl)
  have RO := Lib.hid (show ∀ k, k < n → ¬ okAtC c.l k → checkF c = 1 from fun k hk h => by unfold checkF; rw [rightB_no2 (by rw [← hn]; exact hk) h]; rfl)
  obtain ⟨b1, hb1⟩ : ∃ b : Bool, b = decide (2 ≤ c.log ∧ c.log ≤ 1024) := ⟨_, rfl⟩
  obtain ⟨b2, hb2⟩ : ∃ b : Bool, b = decide (4 ≤ c.pages ∧ c.pages ≤ 1024) := ⟨_, rfl⟩
  obtain ⟨b3, hb3⟩ : ∃ b : Bool, b = decide (1 ≤ c.ents ∧ c.ents ≤ 1024) := ⟨_, rfl⟩
  obtain ⟨b4, hb4⟩ : ∃ b : Bool, b = decide (1 ≤ c.gens ∧ c.gens ≤ 1073741824) := ⟨_, rfl⟩
  have W1 := Lib.hid (cwithin_any c.log 2 1024)
  have W2 := Lib.hid (cwithin_any c.pages 4 1024)
  have W3 := Lib.hid (cwithin_any c.ents 1 1024)
  have W4 := Lib.hid (cwithin_any c.gens 1 1073741824)
  rw [← hb1] at W1
  rw [← hb2] at W2
  rw [← hb3] at W3
  rw [← hb4] at W4
  have SY := Lib.hid (show sizesOk c → (b1 = true ∧ b2 = true ∧ b3 = true ∧ b4 = true) ∧ n ≤ 32 from fun h => ⟨⟨by rw [hb1]; exact decide_eq_true h.1, by rw [hb2]; exact decide_eq_true h.2.1, by rw [hb3]; exact decide_eq_true h.2.2.1, by rw [hb4]; exact decide_eq_true h.2.2.2.1⟩, by rw [hn]; exact h.2.2.2.2⟩)
  have SN := Lib.hid (show ¬ sizesOk c → b1 = true → b2 = true → b3 = true → b4 = true → 32 < n from fun h h1 h2 h3 h4 => by
    rw [hb1] at h1
    rw [hb2] at h2
    rw [hb3] at h3
    rw [hb4] at h4
    by_cases h5 : n ≤ 32
    · exact absurd ⟨of_decide_eq_true h1, of_decide_eq_true h2, of_decide_eq_true h3, of_decide_eq_true h4, by rw [← hn]; exact h5⟩ h
    · omega)
  clear hb1 hb2 hb3 hb4
  unfold confV
  rw [← hn] at hnc hu0 B0 ⊢
  clear hn
  by_cases hok : sizesOk c
  case neg =>
    have HR := RF.out hok
    have hn := SN.out hok
    rw [HR]
    clear RF RY RO SN SY HR hok
    obtain ⟨log, pages, ents, gens, l⟩ := c
    simp only at hnc hu0 B0 HN W1 W2 W3 W4 ⊢
    rcases b1 with _ | _ <;> rcases b2 with _ | _ <;> rcases b3 with _ | _ <;> rcases b4 with _ | _
    · clear hn
      go_enter Tryz.func30, Tryz.ntmps30
      go_upto_region 1 with fail
      refine wp_world (S := BF w F ⟨log, pages, ents, gens, l⟩ (.slice A n cap)) B0.out ?_
      intro X hX
      have HX := Lib.hid hX
      clear hX hu0 B0
      obtain ⟨x0, x1, x2, x3, x4, xf⟩ := cells5 HX.out.1
      go_step3
      go_wp2_with fail
      with_reducible refine (W1.out _).mono ?_
      rintro e w1 ⟨rfl, rfl⟩
      go_wp2_with fail
      with_reducible refine (W3.out _).mono ?_
      rintro e w1 ⟨rfl, rfl⟩
      go_wp2_with fail
      try rw [Exit.noGoto_ret]
      go_ret
      exact ⟨rfl, HX.out.2.2⟩
    · clear hn
      go_enter Tryz.func30, Tryz.ntmps30
      go_upto_region 1 with fail
      refine wp_world (S := BF w F ⟨log, pages, ents, gens, l⟩ (.slice A n cap)) B0.out ?_
      intro X hX
      have HX := Lib.hid hX
      clear hX hu0 B0
      obtain ⟨x0, x1, x2, x3, x4, xf⟩ := cells5 HX.out.1
      go_step3
      go_wp2_with fail
      with_reducible refine (W1.out _).mono ?_
      rintro e w1 ⟨rfl, rfl⟩
      go_wp2_with fail
      with_reducible refine (W3.out _).mono ?_
      rintro e w1 ⟨rfl, rfl⟩
      go_wp2_with fail
      try rw [Exit.noGoto_ret]
      go_ret
      exact ⟨rfl, HX.out.2.2⟩
    · clear hn
      go_enter Tryz.func30, Tryz.ntmps30
      go_upto_region 1 with fail
      refine wp_world (S := BF w F ⟨log, pages, ents, gens, l⟩ (.slice A n cap)) B0.out ?_
      intro X hX
      have HX := Lib.hid hX
      clear hX hu0 B0
      obtain ⟨x0, x1, x2, x3, x4, xf⟩ := cells5 HX.out.1
      go_step3
      go_wp2_with fail
      with_reducible refine (W1.out _).mono ?_
      rintro e w1 ⟨rfl, rfl⟩
      go_wp2_with fail
      with_reducible refine (W3.out _).mono ?_
      rintro e w1 ⟨rfl, rfl⟩
      go_wp2_with fail
      with_reducible refine (W4.out _).mono ?_
      rintro e w1 ⟨rfl, rfl⟩
      go_wp2_with fail
      try rw [Exit.noGoto_ret]
      go_ret
      exact ⟨rfl, HX.out.2.2⟩
    · clear hn
      go_enter Tryz.func30, Tryz.ntmps30
      go_upto_region 1 with fail
      refine wp_world (S := BF w F ⟨log, pages, ents, gens, l⟩ (.slice A n cap)) B0.out ?_
      intro X hX
      have HX := Lib.hid hX
      clear hX hu0 B0
      obtain ⟨x0, x1, x2, x3, x4, xf⟩ := cells5 HX.out.1
      go_step3
      go_wp2_with fail
      with_reducible refine (W1.out _).mono ?_
      rintro e w1 ⟨rfl, rfl⟩
      go_wp2_with fail
      with_reducible refine (W3.out _).mono ?_
      rintro e w1 ⟨rfl, rfl⟩
      go_wp2_with fail
      with_reducible refine (W4.out _).mono ?_
      rintro e w1 ⟨rfl, rfl⟩
      go_wp2_with fail
      try rw [Exit.noGoto_ret]
      go_ret
      exact ⟨rfl, HX.out.2.2⟩
    · clear hn
      go_enter Tryz.func30, Tryz.ntmps30
      go_upto_region 1 with fail
      refine wp_world (S := BF w F ⟨log, pages, ents, gens, l⟩ (.slice A n cap)) B0.out ?_
      intro X hX
      have HX := Lib.hid hX
      clear hX hu0 B0
      obtain ⟨x0, x1, x2, x3, x4, xf⟩ := cells5 HX.out.1
      go_step3
      go_wp2_with fail
      with_reducible refine (W1.out _).mono ?_
      rintro e w1 ⟨rfl, rfl⟩
      go_wp2_with fail
      with_reducible refine (W3.out _).mono ?_
      rintro e w1 ⟨rfl, rfl⟩
      go_wp2_with fail
      try rw [Exit.noGoto_ret]
      go_ret
      exact ⟨rfl, HX.out.2.2⟩
    · clear hn
      go_enter Tryz.func30, Tryz.ntmps30
      go_upto_region 1 with fail
      refine wp_world (S := BF w F ⟨log, pages, ents, gens, l⟩ (.slice A n cap)) B0.out ?_
      intro X hX
      have HX := Lib.hid hX
      clear hX hu0 B0
      obtain ⟨x0, x1, x2, x3, x4, xf⟩ := cells5 HX.out.1
      go_step3
      go_wp2_with fail
      with_reducible refine (W1.out _).mono ?_
      rintro e w1 ⟨rfl, rfl⟩
      go_wp2_with fail
      with_reducible refine (W3.out _).mono ?_
      rintro e w1 ⟨rfl, rfl⟩
      go_wp2_with fail
      try rw [Exit.noGoto_ret]
      go_ret
      exact ⟨rfl, HX.out.2.2⟩
    · clear hn
      go_enter Tryz.func30, Tryz.ntmps30
      go_upto_region 1 with fail
      refine wp_world (S := BF w F ⟨log, pages, ents, gens, l⟩ (.slice A n cap)) B0.out ?_
      intro X hX
      have HX := Lib.hid hX
      clear hX hu0 B0
      obtain ⟨x0, x1, x2, x3, x4, xf⟩ := cells5 HX.out.1
      go_step3
      go_wp2_with fail
      with_reducible refine (W1.out _).mono ?_
      rintro e w1 ⟨rfl, rfl⟩
      go_wp2_with fail
      with_reducible refine (W3.out _).mono ?_
      rintro e w1 ⟨rfl, rfl⟩
      go_wp2_with fail
      with_reducible refine (W4.out _).mono ?_
      rintro e w1 ⟨rfl, rfl⟩
      go_wp2_with fail
      try rw [Exit.noGoto_ret]
      go_ret
      exact ⟨rfl, HX.out.2.2⟩
    · clear hn
      go_enter Tryz.func30, Tryz.ntmps30
      go_upto_region 1 with fail
      refine wp_world (S := BF w F ⟨log, pages, ents, gens, l⟩ (.slice A n cap)) B0.out ?_
      intro X hX
      have HX := Lib.hid hX
      clear hX hu0 B0
      obtain ⟨x0, x1, x2, x3, x4, xf⟩ := cells5 HX.out.1
      go_step3
      go_wp2_with fail
      with_reducible refine (W1.out _).mono ?_
      rintro e w1 ⟨rfl, rfl⟩
      go_wp2_with fail
      with_reducible refine (W3.out _).mono ?_
      rintro e w1 ⟨rfl, rfl⟩
      go_wp2_with fail
      with_reducible refine (W4.out _).mono ?_
      rintro e w1 ⟨rfl, rfl⟩
      go_wp2_with fail
      try rw [Exit.noGoto_ret]
      go_ret
      exact ⟨rfl, HX.out.2.2⟩
    · clear hn
      go_enter Tryz.func30, Tryz.ntmps30
      go_upto_region 1 with fail
      refine wp_world (S := BF w F ⟨log, pages, ents, gens, l⟩ (.slice A n cap)) B0.out ?_
      intro X hX
      have HX := Lib.hid hX
      clear hX hu0 B0
      obtain ⟨x0, x1, x2, x3, x4, xf⟩ := cells5 HX.out.1
      go_step3
      go_wp2_with fail
      with_reducible refine (W1.out _).mono ?_
      rintro e w1 ⟨rfl, rfl⟩
      go_wp2_with fail
      with_reducible refine (W2.out _).mono ?_
      rintro e w1 ⟨rfl, rfl⟩
      go_wp2_with fail
      with_reducible refine (W3.out _).mono ?_
      rintro e w1 ⟨rfl, rfl⟩
      go_wp2_with fail
      try rw [Exit.noGoto_ret]
      go_ret
      exact ⟨rfl, HX.out.2.2⟩
    · clear hn
      go_enter Tryz.func30, Tryz.ntmps30
      go_upto_region 1 with fail
      refine wp_world (S := BF w F ⟨log, pages, ents, gens, l⟩ (.slice A n cap)) B0.out ?_
      intro X hX
      have HX := Lib.hid hX
      clear hX hu0 B0
      obtain ⟨x0, x1, x2, x3, x4, xf⟩ := cells5 HX.out.1
      go_step3
      go_wp2_with fail
      with_reducible refine (W1.out _).mono ?_
      rintro e w1 ⟨rfl, rfl⟩
      go_wp2_with fail
      with_reducible refine (W2.out _).mono ?_
      rintro e w1 ⟨rfl, rfl⟩
      go_wp2_with fail
      with_reducible refine (W3.out _).mono ?_
      rintro e w1 ⟨rfl, rfl⟩
      go_wp2_with fail
      try rw [Exit.noGoto_ret]
      go_ret
      exact ⟨rfl, HX.out.2.2⟩
    · clear hn
      go_enter Tryz.func30, Tryz.ntmps30
      go_upto_region 1 with fail
      refine wp_world (S := BF w F ⟨log, pages, ents, gens, l⟩ (.slice A n cap)) B0.out ?_
      intro X hX
      have HX := Lib.hid hX
      clear hX hu0 B0
      obtain ⟨x0, x1, x2, x3, x4, xf⟩ := cells5 HX.out.1
      go_step3
      go_wp2_with fail
      with_reducible refine (W1.out _).mono ?_
      rintro e w1 ⟨rfl, rfl⟩
      go_wp2_with fail
      with_reducible refine (W2.out _).mono ?_
      rintro e w1 ⟨rfl, rfl⟩
      go_wp2_with fail
      with_reducible refine (W3.out _).mono ?_
      rintro e w1 ⟨rfl, rfl⟩
      go_wp2_with fail
      with_reducible refine (W4.out _).mono ?_
      rintro e w1 ⟨rfl, rfl⟩
      go_wp2_with fail
      try rw [Exit.noGoto_ret]
      go_ret
      exact ⟨rfl, HX.out.2.2⟩
    · clear hn
      go_enter Tryz.func30, Tryz.ntmps30
      go_upto_region 1 with fail
      refine wp_world (S := BF w F ⟨log, pages, ents, gens, l⟩ (.slice A n cap)) B0.out ?_
      intro X hX
      have HX := Lib.hid hX
      clear hX hu0 B0
      obtain ⟨x0, x1, x2, x3, x4, xf⟩ := cells5 HX.out.1
      go_step3
      go_wp2_with fail
      with_reducible refine (W1.out _).mono ?_
      rintro e w1 ⟨rfl, rfl⟩
      go_wp2_with fail
      with_reducible refine (W2.out _).mono ?_
      rintro e w1 ⟨rfl, rfl⟩
      go_wp2_with fail
      with_reducible refine (W3.out _).mono ?_
      rintro e w1 ⟨rfl, rfl⟩
      go_wp2_with fail
      with_reducible refine (W4.out _).mono ?_
      rintro e w1 ⟨rfl, rfl⟩
      go_wp2_with fail
      try rw [Exit.noGoto_ret]
      go_ret
      exact ⟨rfl, HX.out.2.2⟩
    · clear hn
      go_enter Tryz.func30, Tryz.ntmps30
      go_upto_region 1 with fail
      refine wp_world (S := BF w F ⟨log, pages, ents, gens, l⟩ (.slice A n cap)) B0.out ?_
      intro X hX
      have HX := Lib.hid hX
      clear hX hu0 B0
      obtain ⟨x0, x1, x2, x3, x4, xf⟩ := cells5 HX.out.1
      go_step3
      go_wp2_with fail
      with_reducible refine (W1.out _).mono ?_
      rintro e w1 ⟨rfl, rfl⟩
      go_wp2_with fail
      with_reducible refine (W2.out _).mono ?_
      rintro e w1 ⟨rfl, rfl⟩
      go_wp2_with fail
      with_reducible refine (W3.out _).mono ?_
      rintro e w1 ⟨rfl, rfl⟩
      go_wp2_with fail
      try rw [Exit.noGoto_ret]
      go_ret
      exact ⟨rfl, HX.out.2.2⟩
    · clear hn
      go_enter Tryz.func30, Tryz.ntmps30
      go_upto_region 1 with fail
      refine wp_world (S := BF w F ⟨log, pages, ents, gens, l⟩ (.slice A n cap)) B0.out ?_
      intro X hX
      have HX := Lib.hid hX
      clear hX hu0 B0
      obtain ⟨x0, x1, x2, x3, x4, xf⟩ := cells5 HX.out.1
      go_step3
      go_wp2_with fail
      with_reducible refine (W1.out _).mono ?_
      rintro e w1 ⟨rfl, rfl⟩
      go_wp2_with fail
      with_reducible refine (W2.out _).mono ?_
      rintro e w1 ⟨rfl, rfl⟩
      go_wp2_with fail
      with_reducible refine (W3.out _).mono ?_
      rintro e w1 ⟨rfl, rfl⟩
      go_wp2_with fail
      try rw [Exit.noGoto_ret]
      go_ret
      exact ⟨rfl, HX.out.2.2⟩
    · clear hn
      go_enter Tryz.func30, Tryz.ntmps30
      go_upto_region 1 with fail
      refine wp_world (S := BF w F ⟨log, pages, ents, gens, l⟩ (.slice A n cap)) B0.out ?_
      intro X hX
      have HX := Lib.hid hX
      clear hX hu0 B0
      obtain ⟨x0, x1, x2, x3, x4, xf⟩ := cells5 HX.out.1
      go_step3
      go_wp2_with fail
      with_reducible refine (W1.out _).mono ?_
      rintro e w1 ⟨rfl, rfl⟩
      go_wp2_with fail
      with_reducible refine (W2.out _).mono ?_
      rintro e w1 ⟨rfl, rfl⟩
      go_wp2_with fail
      with_reducible refine (W3.out _).mono ?_
      rintro e w1 ⟨rfl, rfl⟩
      go_wp2_with fail
      with_reducible refine (W4.out _).mono ?_
      rintro e w1 ⟨rfl, rfl⟩
      go_wp2_with fail
      try rw [Exit.noGoto_ret]
      go_ret
      exact ⟨rfl, HX.out.2.2⟩
    · have hn32 := hn rfl rfl rfl rfl
      clear hn
      go_enter Tryz.func30, Tryz.ntmps30
      go_upto_region 1 with fail
      refine wp_world (S := BF w F ⟨log, pages, ents, gens, l⟩ (.slice A n cap)) B0.out ?_
      intro X hX
      have HX := Lib.hid hX
      clear hX hu0 B0
      obtain ⟨x0, x1, x2, x3, x4, xf⟩ := cells5 HX.out.1
      go_step3
      go_wp2_with fail
      with_reducible refine (W1.out _).mono ?_
      rintro e w1 ⟨rfl, rfl⟩
      go_wp2_with fail
      with_reducible refine (W2.out _).mono ?_
      rintro e w1 ⟨rfl, rfl⟩
      go_wp2_with fail
      with_reducible refine (W3.out _).mono ?_
      rintro e w1 ⟨rfl, rfl⟩
      go_wp2_with fail
      with_reducible refine (W4.out _).mono ?_
      rintro e w1 ⟨rfl, rfl⟩
      go_wp2_with fail
      try rw [Exit.noGoto_ret]
      go_ret
      exact ⟨rfl, HX.out.2.2⟩
  case pos =>
  have HOK := Lib.hid hok
  obtain ⟨⟨rfl, rfl, rfl, rfl⟩, hn32⟩ := SY.out hok
  clear RF SN SY hok
  generalize checkF c = r at *
  obtain ⟨log, pages, ents, gens, l⟩ := c
  simp only at hnc hu0 B0 HN RY RO W1 W2 W3 W4 ⊢
  have hn33 : ¬ 32 < n := by omega
  go_enter Tryz.func30, Tryz.ntmps30
  go_upto_region 1 with fail
  refine wp_world (S := BF w F ⟨log, pages, ents, gens, l⟩ (.slice A n cap)) B0.out ?_
  intro X hX
  have HX := Lib.hid hX
  clear hX hu0 B0
  obtain ⟨x0, x1, x2, x3, x4, xf⟩ := cells5 HX.out.1
  go_step3
  go_wp2_with fail
  with_reducible refine (W1.out _).mono ?_
  rintro e w1 ⟨rfl, rfl⟩
  go_wp2_with fail
  with_reducible refine (W2.out _).mono ?_
  rintro e w1 ⟨rfl, rfl⟩
  go_wp2_with fail
  with_reducible refine (W3.out _).mono ?_
  rintro e w1 ⟨rfl, rfl⟩
  go_wp2_with fail
  with_reducible refine (W4.out _).mono ?_
  rintro e w1 ⟨rfl, rfl⟩
  go_wp2_with fail
  clear W1 W2 W3 W4 hn33
  go_step3
  go_wp2
  go_loopg [40] n (fun g i wr => ∃ k : Nat, g + k = n ∧ i = .int .i64 k ∧ Hid (Keep (fun _ => False) X wr) ∧ Hid (okTo l k))
  case atStart => exact ⟨0, by omega, rfl, Lib.hid (Keep.refl _ X), Lib.hid (okTo_zero l)⟩
  case round =>
    obtain ⟨k, hk, rfl, hkw, ht⟩ := hrel
    clear x0 x1 x2 x3 x4 xf
    have hbox := (hkw.out.block _ (Array.getElem?_eq_some_iff.1 HX.out.1).1 (fun h => h)).trans HX.out.1
    obtain ⟨x0, x1, x2, x3, x4, xf⟩ := cells5 hbox
    clear hbox
    by_cases hlt : k < n
    · have hi : (k : Int) < (n : Int) := by omega
      have h0 : (0 : Int) ≤ (k : Int) := by omega
      have hkc : (k : Int) ≤ (cap : Int) := by omega
      obtain ⟨b, off, rfl, -, e1, e2⟩ := CL.at_ (HX.out.2.1.same hkw.out) hlt
      have OK := Lib.hid (show noneTo l (nmAt l k) k → nameB (nmAt l k) = true → 0 ≤ szAt l k → szAt l k ≤ 64 → okTo l (k + 1) from fun a b c d => okTo_next ht.out ⟨a, b, c, d⟩)
      have NO := Lib.hid (show ¬ (noneTo l (nmAt l k) k ∧ nameB (nmAt l k) = true ∧ 0 ≤ szAt l k ∧ szAt l k ≤ 64) → r = 1 from fun h => RO.out k hlt h)
      have NB := Lib.hid (fun (W : World) => cname_any (nmAt l k) W)
      have NZ := Lib.hid (noneTo_zero l (nmAt l k))
      have NX := Lib.hid (show ∀ j, nmAt l j ≠ nmAt l k → noneTo l (nmAt l k) j → noneTo l (nmAt l k) (j + 1) from fun j h1 h2 => noneTo_next h2 h1)
      have NE := Lib.hid (show ∀ j, j < k → nmAt l j = nmAt l k → ¬ noneTo l (nmAt l k) k from fun j h1 h2 h3 => h3 j h1 h2)
      generalize nmAt l k = nm at *
      have WI := Lib.hid (fun (W : World) => cwithin_any (szAt l k) 0 64 W)
      generalize szAt l k = sz at *
      clear ht
      obtain ⟨gk_1, hgk⟩ : ∃ m, m = gk := ⟨_, rfl⟩
      subst hgk
      go_upto_region 8 with fail
      refine wp_world (S := fun Y => Y.heap[wr.heap.size]? = some (.cells #[.string nm, .int .i64 sz] 97 (0, 0)) ∧ Keep (fun _ => False) X Y) ⟨heap_alloc_new wr _, hkw.out.alloc _⟩ ?_
      intro Y hY
      have HY := Lib.hid hY
      clear hY x0 x1 x2 x3 x4 xf e1 e2
      have hpw : w.heap.size < wr.heap.size := Nat.lt_of_lt_of_le (Array.getElem?_eq_some_iff.1 HX.out.1).1 hkw.out.size
      have hpne : w.heap.size ≠ wr.heap.size := by omega
      clear hpw hkw
      generalize wr.heap.size = P at *
      obtain ⟨x0, x1, x2, x3, x4, xf⟩ := cells5 ((HY.out.2.block _ (Array.getElem?_eq_some_iff.1 HX.out.1).1 (fun h => h)).trans HX.out.1)
      obtain ⟨y0, y1, yf⟩ := cells2 HY.out.1
      go_wp2
      go_loopg [50] k (fun g i wr => ∃ j : Nat, g + j = k ∧ i = .int .i64 j ∧ Hid (Keep (fun _ => False) Y wr) ∧ Hid (noneTo l nm j))
      case atStart => exact ⟨0, by omega, rfl, Lib.hid (Keep.refl _ Y), NZ⟩
      case round =>
        obtain ⟨j, hj, rfl, hkj, hnt⟩ := hrel
        clear x0 x1 x2 x3 x4 xf y0 y1 yf
        obtain ⟨y0, y1, yf⟩ := cells2 ((hkj.out.block _ (Array.getElem?_eq_some_iff.1 HY.out.1).1 (fun h => h)).trans HY.out.1)
        by_cases hjk : j < k
        · have hij : (j : Int) < (k : Int) := by omega
          obtain ⟨b2, off2, e, -, f1, f2⟩ := CL.at_ (HX.out.2.1.same (HY.out.2.trans hkj.out (fun _ _ h => h))) (show j < n by omega)
          injection e with e
          injection e with e3 e4 _
          subst e3 e4
          have NXj := Lib.hid (NX.out j)
          have NEj := Lib.hid (NE.out j hjk)
          generalize nmAt l j = nj at *
          generalize szAt l j = sj at *
          go_upto_region 11 with fail
          refine wp_world (S := fun Z => Z.heap[wr.heap.size]? = some (.cells #[.string nj, .int .i64 sj] 97 (0, 0)) ∧ Keep (fun _ => False) Y Z) ⟨heap_alloc_new wr _, hkj.out.alloc _⟩ ?_
          intro Z hZ
          have HZ := Lib.hid hZ
          clear hZ y0 y1 yf f1 f2 hkj
          obtain ⟨y0, y1, yf⟩ := cells2 ((HZ.out.2.block _ (Array.getElem?_eq_some_iff.1 HY.out.1).1 (fun h => h)).trans HY.out.1)
          obtain ⟨z0, z1, zf⟩ := cells2 HZ.out.1
          have ST := str_eq nm nj
          by_cases hq : nj = nm
          · rw [decide_eq_true hq.symm] at ST
            obtain rfl : r = 1 := NO.out (fun h => NEj.out hq h.1)
            clear hq
            go_wp2
            try rw [Exit.noGoto_ret]
            go_ret
            exact ⟨rfl, HX.out.2.2.trans ((HY.out.2.trans HZ.out.2 (fun _ _ h => h)).to_below'.mono HX.out.2.2.size)⟩
          · rw [decide_eq_false (fun h => hq h.symm)] at ST
            have NT := Lib.hid (NXj.out hq hnt.out)
            clear hq
            go_wp2
            go_roundg (gk - 1)
            case measure => omega
            case rel => exact ⟨j + 1, by omega, by go_num, Lib.hid HZ.out.2, NT⟩
        · obtain rfl : j = k := by omega
          have K2 := Lib.hid (HY.out.2.trans hkj.out (fun _ _ h => h))
          by_cases hb : nameB nm = true
          · rw [hb] at NB
            by_cases hsz : 0 ≤ sz ∧ sz ≤ 64
            · rw [decide_eq_true hsz] at WI
              have OT := Lib.hid (OK.out hnt.out hb hsz.1 hsz.2)
              clear hsz hb
              go_wp2_with fail
              with_reducible refine (NB.out _).mono ?_
              rintro e w1 ⟨rfl, rfl⟩
              go_wp2_with fail
              with_reducible refine (WI.out _).mono ?_
              rintro e w1 ⟨rfl, rfl⟩
              go_wp2_with fail
              go_roundg (gk_1 - 1)
              case measure => omega
              case rel => exact ⟨j + 1, by omega, by go_num, K2, OT⟩
            · rw [decide_eq_false hsz] at WI
              obtain rfl : r = 1 := NO.out (fun h => hsz h.2.2)
              clear hsz hb
              go_wp2_with fail
              with_reducible refine (NB.out _).mono ?_
              rintro e w1 ⟨rfl, rfl⟩
              go_wp2_with fail
              with_reducible refine (WI.out _).mono ?_
              rintro e w1 ⟨rfl, rfl⟩
              go_wp2_with fail
              try rw [Exit.noGoto_ret]
              go_ret
              exact ⟨rfl, HX.out.2.2.trans (K2.out.to_below'.mono HX.out.2.2.size)⟩
          · have hb2 : nameB nm = false := by simpa using hb
            rw [hb2] at NB
            obtain rfl : r = 1 := NO.out (fun h => hb h.2.1)
            clear hb hb2
            go_wp2_with fail
            with_reducible refine (NB.out _).mono ?_
            rintro e w1 ⟨rfl, rfl⟩
            go_wp2_with fail
            try rw [Exit.noGoto_ret]
            go_ret
            exact ⟨rfl, HX.out.2.2.trans (K2.out.to_below'.mono HX.out.2.2.size)⟩
    · have hi : ¬ (k : Int) < (n : Int) := by omega
      obtain rfl : r = 0 := RY.out HOK.out (by have := HN.out; rw [show l.length = k by omega]; exact ht.out)
      go_wp2
      try rw [Exit.noGoto_ret]
      go_ret
      exact ⟨rfl, HX.out.2.2.trans (hkw.out.to_below'.mono HX.out.2.2.size)⟩
end Go.Proofs.YtdeifjnhbdkkgaaGreatDoor

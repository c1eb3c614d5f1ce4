/- The walk of vivariumlaw07.CompChecks: it returns true, old memory unchanged. Printed by gencompchecks.py. -/
import Derived.Test.YthkgchlndfcmpaaComp4
import Derived.Test.YthkgchlndfcmpaaComp5
import Derived.Test.YthkgchlndfcmpaaComp6
import Derived.Test.YthkgchlndfcmpaaComp8
import Derived.Deep.RegionHeld3
import Derived.OwnWalk
namespace Go.Proofs.Ythkgchlndfcmpaa
open Go.RowKit
set_option maxRecDepth 100000
set_option linter.unusedVariables false
set_option linter.unusedSimpArgs false

theorem muchB_no {l : List Cp} (h : muchB l = false) : l.length ≤ 40 ∧ ∀ x ∈ l, x.nm.size ≤ 100 := by
  have h2 := of_decide_eq_false h
  have h3 : l.length ≤ 40 := by
    by_cases h4 : 40 < l.length
    · exact absurd (.inl h4) h2
    · omega
  have h5 : bigTo l l.length := Classical.not_not.1 (fun h6 => h2 (.inr h6))
  refine ⟨h3, fun x hx => ?_⟩
  obtain ⟨i, hi, rfl⟩ := List.getElem_of_mem hx
  have := h5 i hi (by omega)
  rwa [nmAt_of (List.getElem?_eq_getElem hi)] at this
set_option maxHeartbeats 8000000 in
theorem compChecks_walk (c : Cf) (u : Value) (F : Nat → Prop) (nm : ByteArray) (z : Int) (w : World) (hu : CL w F u c.l) (hlo : -9223372036854775808 ≤ z) (hhi : z ≤ 9223372036854775807) :
    Calls Try.prog 3 #[confV c u, .string nm, .int .i64 z] w fun e w' => e = .returned (.bool true) ∧ Below w.heap.size w w' := by
  have hu0 := hu
  obtain ⟨A, cap, rfl, hnc, hcm, -⟩ := hu
  have B0 := Lib.hid (BF.first hu0)
  have HU := Lib.hid hu0
  have MU := Lib.hid (fun (W : World) (h : CL W F (.slice A c.l.length cap) c.l) => rmuch_any c _ F W h)
  obtain ⟨mb, hmb⟩ : ∃ b, b = muchB c.l := ⟨_, rfl⟩
  rw [← hmb] at MU
  cases mb with
  | true =>
    clear hmb
    unfold confV at MU ⊢
    obtain ⟨n, hn⟩ : ∃ n, n = c.l.length := ⟨_, rfl⟩
    rw [← hn] at hnc HU B0 MU ⊢
    obtain ⟨log, pages, ents, gens, l⟩ := c
    simp only at hnc HU B0 MU hn ⊢
    clear hn
    go_enter Try.func3, Try.ntmps3
    go_upto_region 1 with fail
    refine wp_world (S := BF w F ⟨log, pages, ents, gens, l⟩ (.slice A n cap)) B0.out ?_
    intro X hX
    have HX := Lib.hid hX
    clear hX B0
    obtain ⟨x0, x1, x2, x3, x4, xf⟩ := cells5 HX.out.1
    have CX := HX.out.2.1
    go_wp2_with fail
    with_reducible refine (MU.out X CX).mono ?_
    rintro e w1 ⟨rfl, hb1⟩
    have K1 := Lib.hid (Keep.of_below' hb1)
    clear hb1 CX MU
    go_wp2_with fail
    with_reducible refine (live07 _).mono ?_
    rintro e w2 ⟨rfl, hb2⟩
    go_wp2
    go_ret
    exact ⟨rfl, HX.out.2.2.trans ((K1.out.trans (Keep.of_below' hb2) (fun _ _ h => h)).to_below'.mono HX.out.2.2.size)⟩
  | false =>
    obtain ⟨h40, hsm⟩ := muchB_no hmb.symm
    by_cases hnm : 100 < nm.size
    · clear hmb h40 hsm
      unfold confV at MU ⊢
      obtain ⟨n, hn⟩ : ∃ n, n = c.l.length := ⟨_, rfl⟩
      rw [← hn] at hnc HU B0 MU ⊢
      obtain ⟨log, pages, ents, gens, l⟩ := c
      simp only at hnc HU B0 MU hn ⊢
      clear hn
      go_enter Try.func3, Try.ntmps3
      go_upto_region 1 with fail
      refine wp_world (S := BF w F ⟨log, pages, ents, gens, l⟩ (.slice A n cap)) B0.out ?_
      intro X hX
      have HX := Lib.hid hX
      clear hX B0
      obtain ⟨x0, x1, x2, x3, x4, xf⟩ := cells5 HX.out.1
      have CX := HX.out.2.1
      go_wp2_with fail
      with_reducible refine (MU.out X CX).mono ?_
      rintro e w1 ⟨rfl, hb1⟩
      have K1 := Lib.hid (Keep.of_below' hb1)
      clear hb1 CX MU
      go_wp2_with fail
      with_reducible refine (live07 _).mono ?_
      rintro e w2 ⟨rfl, hb2⟩
      go_wp2
      go_ret
      exact ⟨rfl, HX.out.2.2.trans ((K1.out.trans (Keep.of_below' hb2) (fun _ _ h => h)).to_below'.mono HX.out.2.2.size)⟩
    have hnm2 : ¬ (100 : Int) < (nm.size : Int) := by omega
    have hnm3 := Lib.hid (show nm.size ≤ 4611686018427387904 by omega)
    have CK := Lib.hid (fun (W : World) (h : CL W F (.slice A c.l.length cap) c.l) => ccheckF_any c _ F W h)
    have RR := Lib.hid (fun (W : World) (h : CL W F (.slice A c.l.length cap) c.l) => rright_any c _ F W h (fun x hx => by have := hsm x hx; omega))
    obtain ⟨fz, fb, CF, RF⟩ : ∃ (fz : Int) (fb : Bool), (Hid (∀ (W : World), CL W F (.slice A c.l.length cap) c.l → Calls Try.prog 17 #[confV c (.slice A c.l.length cap), .string nm] W fun e w' => e = .returned (.tuple #[.int .i64 fz, .bool fb]) ∧ Below W.heap.size W w')) ∧ (Hid (∀ (W : World), CL W F (.slice A c.l.length cap) c.l → Calls Try.prog 18 #[confV c (.slice A c.l.length cap), .string nm] W fun e w' => e = .returned (.tuple #[.int .i64 fz, .bool fb]) ∧ Below W.heap.size W w')) := by
      by_cases hf : findN c.l nm < c.l.length
      · refine ⟨(findN c.l nm : Nat), true, Lib.hid fun W h => (cfind_any c _ F nm W h (by omega)).mono ?_, Lib.hid fun W h => (rfind_any c _ F nm W h (by omega)).mono ?_⟩
        · rintro e w' ⟨⟨_, h1⟩ | ⟨h1, _⟩, h2⟩
          · exact ⟨h1, h2⟩
          · omega
        · rintro e w' ⟨⟨_, h1⟩ | ⟨h1, _⟩, h2⟩
          · exact ⟨h1, h2⟩
          · omega
      · refine ⟨0, false, Lib.hid fun W h => (cfind_any c _ F nm W h (by omega)).mono ?_, Lib.hid fun W h => (rfind_any c _ F nm W h (by omega)).mono ?_⟩
        · rintro e w' ⟨⟨h1, _⟩ | ⟨_, h1⟩, h2⟩
          · omega
          · exact ⟨h1, h2⟩
        · rintro e w' ⟨⟨h1, _⟩ | ⟨_, h1⟩, h2⟩
          · omega
          · exact ⟨h1, h2⟩
    have CS := Lib.hid (fun (W : World) (h : CL W F (.slice A c.l.length cap) c.l) => csize_any c _ F z W h hlo hhi)
    have RS := Lib.hid (fun (W : World) (h : CL W F (.slice A c.l.length cap) c.l) => rsize_any c _ F z W h hlo hhi)
    generalize (if 0 ≤ z ∧ z < c.l.length then szAt c.l z.toNat else 0) = sz at *
    generalize decide (0 ≤ z ∧ z < c.l.length) = sb2 at *
    have CN := Lib.hid (fun (W : World) => cname_any nm W)
    have RN := Lib.hid (fun (W : World) => rname_any nm W hnm3.out)
    generalize nameB nm = nb at *
    unfold checkF at CK
    generalize rightB c = rb at *
    clear hmb h40 hsm hnm hlo hhi hnm3
    unfold confV at MU CK RR CF RF CS RS ⊢
    obtain ⟨n, hn⟩ : ∃ n, n = c.l.length := ⟨_, rfl⟩
    rw [← hn] at hnc HU B0 MU CK RR CF RF CS RS ⊢
    obtain ⟨log, pages, ents, gens, l⟩ := c
    simp only at hnc HU B0 MU CK RR CF RF CS RS hn ⊢
    clear hn
    have e1 : ((fz : Int) == fz) = true := by simp
    have e2 : (fb == fb) = true := by simp
    have e3 : ((sz : Int) == sz) = true := by simp
    have e4 : (sb2 == sb2) = true := by simp
    have e5 : (nb == nb) = true := by simp
    cases rb with
    | false =>
      have CK : Hid (∀ (W : World), CL W F (.slice A n cap) l → Calls Try.prog 16 #[.agg #[.int .i64 log, .int .i64 pages, .int .i64 ents, .int .i64 gens, .slice A n cap]] W fun e w' => e = .returned (.int .i64 1) ∧ Below W.heap.size W w') := CK
      go_enter Try.func3, Try.ntmps3
      go_upto_region 1 with fail
      refine wp_world (S := BF w F ⟨log, pages, ents, gens, l⟩ (.slice A n cap)) B0.out ?_
      intro X hX
      have HX := Lib.hid hX
      clear hX B0
      obtain ⟨x0, x1, x2, x3, x4, xf⟩ := cells5 HX.out.1
      have CX := HX.out.2.1
      go_wp2_with fail
      with_reducible refine (MU.out X CX).mono ?_
      rintro e w1 ⟨rfl, hb1⟩
      have K1 := Lib.hid (Keep.of_below' hb1)
      clear hb1 CX MU
      have CX := Lib.hid (show ∀ W, Keep (fun _ => False) w1 W → CL W F (.slice A n cap) l from fun W hk => HX.out.2.1.same (K1.out.trans hk (fun _ _ h => h)))
      have BX := Lib.hid (show ∀ W, Keep (fun _ => False) w1 W → (W.cell? ⟨w.heap.size, 0, none⟩ = some (.int .i64 log) ∧ W.cell? ⟨w.heap.size, 1, none⟩ = some (.int .i64 pages) ∧ W.cell? ⟨w.heap.size, 2, none⟩ = some (.int .i64 ents) ∧ W.cell? ⟨w.heap.size, 3, none⟩ = some (.int .i64 gens) ∧ W.cell? ⟨w.heap.size, 4, none⟩ = some (.slice A n cap) ∧ Keep (fun _ => False) w1 W) from fun W hk =>
        have q := cells5 (((K1.out.trans hk (fun _ _ h => h)).block _ (Array.getElem?_eq_some_iff.1 HX.out.1).1 (fun h => h)).trans HX.out.1)
        ⟨q.1, q.2.1, q.2.2.1, q.2.2.2.1, q.2.2.2.2.1, hk⟩)
      clear x0 x1 x2 x3 x4 xf
      obtain ⟨x0, x1, x2, x3, x4, -⟩ := BX.out w1 (Keep.refl _ w1)
      have c2 := CX.out w1 (Keep.refl _ w1)
      go_wp2_with fail
      with_reducible refine (CK.out _ c2).mono ?_
      rintro e w2 ⟨rfl, hb⟩
      have K2 := Lib.hid (Keep.trans (T := fun _ => False) (Keep.refl _ w1) (Keep.of_below' hb) (fun _ _ h => h))
      clear hb c2 x0 x1 x2 x3 x4
      obtain ⟨x0, x1, x2, x3, x4, -⟩ := BX.out w2 K2.out
      have c3 := CX.out w2 K2.out
      go_wp2_with fail
      with_reducible refine (CF.out _ c3).mono ?_
      rintro e w3 ⟨rfl, hb⟩
      have K3 := Lib.hid (Keep.trans (T := fun _ => False) K2.out (Keep.of_below' hb) (fun _ _ h => h))
      clear hb c3 x0 x1 x2 x3 x4
      obtain ⟨x0, x1, x2, x3, x4, -⟩ := BX.out w3 K3.out
      have c4 := CX.out w3 K3.out
      go_wp2_with fail
      with_reducible refine (RF.out _ c4).mono ?_
      rintro e w4 ⟨rfl, hb⟩
      have K4 := Lib.hid (Keep.trans (T := fun _ => False) K3.out (Keep.of_below' hb) (fun _ _ h => h))
      clear hb c4 x0 x1 x2 x3 x4
      obtain ⟨x0, x1, x2, x3, x4, -⟩ := BX.out w4 K4.out
      have c5 := CX.out w4 K4.out
      go_wp2_with fail
      with_reducible refine (CS.out _ c5).mono ?_
      rintro e w5 ⟨rfl, hb⟩
      have K5 := Lib.hid (Keep.trans (T := fun _ => False) K4.out (Keep.of_below' hb) (fun _ _ h => h))
      clear hb c5 x0 x1 x2 x3 x4
      obtain ⟨x0, x1, x2, x3, x4, -⟩ := BX.out w5 K5.out
      have c6 := CX.out w5 K5.out
      go_wp2_with fail
      with_reducible refine (RS.out _ c6).mono ?_
      rintro e w6 ⟨rfl, hb⟩
      have K6 := Lib.hid (Keep.trans (T := fun _ => False) K5.out (Keep.of_below' hb) (fun _ _ h => h))
      clear hb c6 x0 x1 x2 x3 x4
      obtain ⟨x0, x1, x2, x3, x4, -⟩ := BX.out w6 K6.out
      go_upto_region 8 with fail
      have hk6 := K6.out
      go_region_held3 (fun W' => W'.cell? ⟨w.heap.size, 0, none⟩ = some (.int .i64 log) ∧ W'.cell? ⟨w.heap.size, 1, none⟩ = some (.int .i64 pages) ∧ W'.cell? ⟨w.heap.size, 2, none⟩ = some (.int .i64 ents) ∧ W'.cell? ⟨w.heap.size, 3, none⟩ = some (.int .i64 gens) ∧ W'.cell? ⟨w.heap.size, 4, none⟩ = some (.slice A n cap) ∧ Keep (fun _ => False) w1 W') (exact BX.out _ (by exact (by repeat first | assumption | exact Keep.refl _ _ | refine Keep.alloc ?_ _ | refine Keep.drew ?_ | refine Keep.drewN ?_ _ | refine Keep.setCell ?_ (.inl (by first | omega | (simp; done) | (simp; omega))) _)))
        (first
          | (go_at_call 21; (with_reducible refine (code07 _ _).mono ?_); rintro e w10 ⟨rfl, rfl⟩)
          | (go_at_call 22; (with_reducible refine (RR.out _ (by exact CX.out _ (by exact (by repeat first | assumption | exact Keep.refl _ _ | refine Keep.alloc ?_ _ | refine Keep.drew ?_ | refine Keep.drewN ?_ _ | refine Keep.setCell ?_ (.inl (by first | omega | (simp; done) | (simp; omega))) _)))).mono ?_); rintro e w7 ⟨rfl, hb7⟩; have hk7 : Keep (fun _ => False) w1 w7 := Keep.trans (T := fun _ => False) (by exact (by repeat first | assumption | exact Keep.refl _ _ | refine Keep.alloc ?_ _ | refine Keep.drew ?_ | refine Keep.drewN ?_ _ | refine Keep.setCell ?_ (.inl (by first | omega | (simp; done) | (simp; omega))) _)) (Keep.of_below' hb7) (fun _ _ h => h); clear hb7)
          | (go_at_call 23; (with_reducible refine (CN.out _).mono ?_); rintro e w11 ⟨rfl, rfl⟩)
          | (go_at_call 24; (with_reducible refine (RN.out _).mono ?_); rintro e w8 ⟨rfl, q8, rfl⟩)
          | (go_at_call 15; (with_reducible refine (live07 _).mono ?_); rintro e w9 ⟨rfl, hb9⟩; have hk9 : Keep (fun _ => False) w1 w9 := Keep.trans (T := fun _ => False) (by exact (by repeat first | assumption | exact Keep.refl _ _ | refine Keep.alloc ?_ _ | refine Keep.drew ?_ | refine Keep.drewN ?_ _ | refine Keep.setCell ?_ (.inl (by first | omega | (simp; done) | (simp; omega))) _)) (Keep.of_below' hb9) (fun _ _ h => h); clear hb9)
          | fail)
      go_wp2
      go_ret
      exact ⟨rfl, HX.out.2.2.trans ((K1.out.trans hk9 (fun _ _ h => h)).to_below'.mono HX.out.2.2.size)⟩
    | true =>
      have CK : Hid (∀ (W : World), CL W F (.slice A n cap) l → Calls Try.prog 16 #[.agg #[.int .i64 log, .int .i64 pages, .int .i64 ents, .int .i64 gens, .slice A n cap]] W fun e w' => e = .returned (.int .i64 0) ∧ Below W.heap.size W w') := CK
      go_enter Try.func3, Try.ntmps3
      go_upto_region 1 with fail
      refine wp_world (S := BF w F ⟨log, pages, ents, gens, l⟩ (.slice A n cap)) B0.out ?_
      intro X hX
      have HX := Lib.hid hX
      clear hX B0
      obtain ⟨x0, x1, x2, x3, x4, xf⟩ := cells5 HX.out.1
      have CX := HX.out.2.1
      go_wp2_with fail
      with_reducible refine (MU.out X CX).mono ?_
      rintro e w1 ⟨rfl, hb1⟩
      have K1 := Lib.hid (Keep.of_below' hb1)
      clear hb1 CX MU
      have CX := Lib.hid (show ∀ W, Keep (fun _ => False) w1 W → CL W F (.slice A n cap) l from fun W hk => HX.out.2.1.same (K1.out.trans hk (fun _ _ h => h)))
      have BX := Lib.hid (show ∀ W, Keep (fun _ => False) w1 W → (W.cell? ⟨w.heap.size, 0, none⟩ = some (.int .i64 log) ∧ W.cell? ⟨w.heap.size, 1, none⟩ = some (.int .i64 pages) ∧ W.cell? ⟨w.heap.size, 2, none⟩ = some (.int .i64 ents) ∧ W.cell? ⟨w.heap.size, 3, none⟩ = some (.int .i64 gens) ∧ W.cell? ⟨w.heap.size, 4, none⟩ = some (.slice A n cap) ∧ Keep (fun _ => False) w1 W) from fun W hk =>
        have q := cells5 (((K1.out.trans hk (fun _ _ h => h)).block _ (Array.getElem?_eq_some_iff.1 HX.out.1).1 (fun h => h)).trans HX.out.1)
        ⟨q.1, q.2.1, q.2.2.1, q.2.2.2.1, q.2.2.2.2.1, hk⟩)
      clear x0 x1 x2 x3 x4 xf
      obtain ⟨x0, x1, x2, x3, x4, -⟩ := BX.out w1 (Keep.refl _ w1)
      have c2 := CX.out w1 (Keep.refl _ w1)
      go_wp2_with fail
      with_reducible refine (CK.out _ c2).mono ?_
      rintro e w2 ⟨rfl, hb⟩
      have K2 := Lib.hid (Keep.trans (T := fun _ => False) (Keep.refl _ w1) (Keep.of_below' hb) (fun _ _ h => h))
      clear hb c2 x0 x1 x2 x3 x4
      obtain ⟨x0, x1, x2, x3, x4, -⟩ := BX.out w2 K2.out
      have c3 := CX.out w2 K2.out
      go_wp2_with fail
      with_reducible refine (CF.out _ c3).mono ?_
      rintro e w3 ⟨rfl, hb⟩
      have K3 := Lib.hid (Keep.trans (T := fun _ => False) K2.out (Keep.of_below' hb) (fun _ _ h => h))
      clear hb c3 x0 x1 x2 x3 x4
      obtain ⟨x0, x1, x2, x3, x4, -⟩ := BX.out w3 K3.out
      have c4 := CX.out w3 K3.out
      go_wp2_with fail
      with_reducible refine (RF.out _ c4).mono ?_
      rintro e w4 ⟨rfl, hb⟩
      have K4 := Lib.hid (Keep.trans (T := fun _ => False) K3.out (Keep.of_below' hb) (fun _ _ h => h))
      clear hb c4 x0 x1 x2 x3 x4
      obtain ⟨x0, x1, x2, x3, x4, -⟩ := BX.out w4 K4.out
      have c5 := CX.out w4 K4.out
      go_wp2_with fail
      with_reducible refine (CS.out _ c5).mono ?_
      rintro e w5 ⟨rfl, hb⟩
      have K5 := Lib.hid (Keep.trans (T := fun _ => False) K4.out (Keep.of_below' hb) (fun _ _ h => h))
      clear hb c5 x0 x1 x2 x3 x4
      obtain ⟨x0, x1, x2, x3, x4, -⟩ := BX.out w5 K5.out
      have c6 := CX.out w5 K5.out
      go_wp2_with fail
      with_reducible refine (RS.out _ c6).mono ?_
      rintro e w6 ⟨rfl, hb⟩
      have K6 := Lib.hid (Keep.trans (T := fun _ => False) K5.out (Keep.of_below' hb) (fun _ _ h => h))
      clear hb c6 x0 x1 x2 x3 x4
      obtain ⟨x0, x1, x2, x3, x4, -⟩ := BX.out w6 K6.out
      go_upto_region 8 with fail
      refine wp_region_noPanic ?_
      refine wp_region_held_drew (S := fun W' => W'.cell? ⟨w.heap.size, 0, none⟩ = some (.int .i64 log) ∧ W'.cell? ⟨w.heap.size, 1, none⟩ = some (.int .i64 pages) ∧ W'.cell? ⟨w.heap.size, 2, none⟩ = some (.int .i64 ents) ∧ W'.cell? ⟨w.heap.size, 3, none⟩ = some (.int .i64 gens) ∧ W'.cell? ⟨w.heap.size, 4, none⟩ = some (.slice A n cap) ∧ Keep (fun _ => False) w1 W') (by kernel_rfl) (BX.out _ K6.out.drew) (fun hHeld => ?_)
      (refine' wpAnyH_take (i := 0) (oi := _) (v := _) ?_ (by kernel_rfl) (by kernel_rfl) (by kernel_rfl) (fun _ _ _ h => h) ?_ (by assumption) ?_; rotate_left; rotate_left; (focus (first | (simp only [List.getElem?_toArray, List.getElem?_cons_succ, List.getElem?_cons_zero]; done) | (simp only [List.getElem?_toArray, List.getElem?_cons_succ, List.getElem?_cons_zero]; rfl))); (focus (refine Or.inl ⟨by rfl, ?_⟩; intro W' hSw; (try dsimp only at hSw); go_simp; try with_reducible rfl)); (try simp only [Act.put, List.setIfInBounds_toArray, List.set_cons_zero, List.set_cons_succ]))
      (refine' wpAnyH_take (i := 3) (oi := _) (v := _) ?_ (by kernel_rfl) (by kernel_rfl) (by kernel_rfl) (fun _ _ _ h => h) ?_ (by assumption) ?_; rotate_left; rotate_left; (focus (first | (simp only [List.getElem?_toArray, List.getElem?_cons_succ, List.getElem?_cons_zero]; done) | (simp only [List.getElem?_toArray, List.getElem?_cons_succ, List.getElem?_cons_zero]; rfl))); (focus (refine Or.inl ⟨by rfl, ?_⟩; intro W' hSw; (try dsimp only at hSw); go_simp; try with_reducible rfl)); (try simp only [Act.put, List.setIfInBounds_toArray, List.set_cons_zero, List.set_cons_succ]))
      (refine wpAnyH_ready (rs := [1]) (by kernel_rfl) (by simp) ?_; refine' AllReadyH.cons (o := _) ?_ (fun K hK => ?_) AllReadyH.nil; rotate_left; (focus (first | (simp only [List.getElem?_toArray, List.getElem?_cons_succ, List.getElem?_cons_zero]; done) | (simp only [List.getElem?_toArray, List.getElem?_cons_succ, List.getElem?_cons_zero]; rfl))))
      go_simp
      go_at_call 21
      with_reducible refine (code07 _ _).mono ?_
      rintro e w101 ⟨rfl, rfl⟩
      go_wp2_with fail
      refine hK.out _ _ ?_ (fun hHeld1 => ?_)
      · exact hHeld
      clear hK K
      (try simp only [Act.put, List.setIfInBounds_toArray, List.set_cons_zero, List.set_cons_succ])
      (refine' wpAnyH_take (i := 2) (oi := _) (v := _) ?_ (by kernel_rfl) (by kernel_rfl) (by kernel_rfl) (fun _ _ _ h => h) ?_ (by assumption) ?_; rotate_left; rotate_left; (focus (first | (simp only [List.getElem?_toArray, List.getElem?_cons_succ, List.getElem?_cons_zero]; done) | (simp only [List.getElem?_toArray, List.getElem?_cons_succ, List.getElem?_cons_zero]; rfl))); (focus (refine Or.inl ⟨by rfl, ?_⟩; intro W' hSw; (try dsimp only at hSw); go_simp; try with_reducible rfl)); (try simp only [Act.put, List.setIfInBounds_toArray, List.set_cons_zero, List.set_cons_succ]))
      (refine wpAnyH_ready (rs := [4]) (by kernel_rfl) (by simp) ?_; refine' AllReadyH.cons (o := _) ?_ (fun K hK => ?_) AllReadyH.nil; rotate_left; (focus (first | (simp only [List.getElem?_toArray, List.getElem?_cons_succ, List.getElem?_cons_zero]; done) | (simp only [List.getElem?_toArray, List.getElem?_cons_succ, List.getElem?_cons_zero]; rfl))))
      go_simp
      go_at_call 22
      with_reducible refine (RR.out _ (by exact CX.out _ hHeld1.2.2.2.2.2)).mono ?_
      rintro e w104 ⟨rfl, hb⟩
      go_wp2_with fail
      refine hK.out _ _ ?_ (fun hHeld4 => ?_)
      · exact BX.out _ (hHeld1.2.2.2.2.2.trans (Keep.of_below' hb) (fun _ _ h => h))
      clear hK K
      (try simp only [Act.put, List.setIfInBounds_toArray, List.set_cons_zero, List.set_cons_succ])
      (refine' wpAnyH_take (i := 5) (oi := _) (v := _) ?_ (by kernel_rfl) (by kernel_rfl) (by kernel_rfl) (fun _ _ _ h => h) ?_ (by assumption) ?_; rotate_left; rotate_left; (focus (first | (simp only [List.getElem?_toArray, List.getElem?_cons_succ, List.getElem?_cons_zero]; done) | (simp only [List.getElem?_toArray, List.getElem?_cons_succ, List.getElem?_cons_zero]; rfl))); (focus (refine Or.inl ⟨by rfl, ?_⟩; intro W' hSw; (try dsimp only at hSw); go_simp; try with_reducible rfl)); (try simp only [Act.put, List.setIfInBounds_toArray, List.set_cons_zero, List.set_cons_succ]))
      (refine' wpAnyH_take (i := 6) (oi := _) (v := _) ?_ (by kernel_rfl) (by kernel_rfl) (by kernel_rfl) (fun _ _ _ h => h) ?_ (by assumption) ?_; rotate_left; rotate_left; (focus (first | (simp only [List.getElem?_toArray, List.getElem?_cons_succ, List.getElem?_cons_zero]; done) | (simp only [List.getElem?_toArray, List.getElem?_cons_succ, List.getElem?_cons_zero]; rfl))); (focus (refine Or.inl ⟨by rfl, ?_⟩; intro W' hSw; (try dsimp only at hSw); go_simp; try with_reducible rfl)); (try simp only [Act.put, List.setIfInBounds_toArray, List.set_cons_zero, List.set_cons_succ]))
      (refine' wpAnyH_take (i := 7) (oi := _) (v := _) ?_ (by kernel_rfl) (by kernel_rfl) (by kernel_rfl) (fun _ _ _ h => h) ?_ (by assumption) ?_; rotate_left; rotate_left; (focus (first | (simp only [List.getElem?_toArray, List.getElem?_cons_succ, List.getElem?_cons_zero]; done) | (simp only [List.getElem?_toArray, List.getElem?_cons_succ, List.getElem?_cons_zero]; rfl))); (focus (refine Or.inl ⟨by rfl, ?_⟩; intro W' hSw; (try dsimp only at hSw); go_simp; try with_reducible rfl)); (try simp only [Act.put, List.setIfInBounds_toArray, List.set_cons_zero, List.set_cons_succ]))
      (refine wpAnyH_ready (rs := [8]) (by kernel_rfl) (by simp) ?_; refine' AllReadyH.cons (o := _) ?_ (fun K hK => ?_) AllReadyH.nil; rotate_left; (focus (first | (simp only [List.getElem?_toArray, List.getElem?_cons_succ, List.getElem?_cons_zero]; done) | (simp only [List.getElem?_toArray, List.getElem?_cons_succ, List.getElem?_cons_zero]; rfl))))
      go_simp
      go_at_call 21
      with_reducible refine (code07 _ _).mono ?_
      rintro e w108 ⟨rfl, rfl⟩
      go_wp2_with fail
      refine hK.out _ _ ?_ (fun hHeld8 => ?_)
      · exact hHeld4
      clear hK K
      (try simp only [Act.put, List.setIfInBounds_toArray, List.set_cons_zero, List.set_cons_succ])
      (refine' wpAnyH_take (i := 9) (oi := _) (v := _) ?_ (by kernel_rfl) (by kernel_rfl) (by kernel_rfl) (fun _ _ _ h => h) ?_ (by assumption) ?_; rotate_left; rotate_left; (focus (first | (simp only [List.getElem?_toArray, List.getElem?_cons_succ, List.getElem?_cons_zero]; done) | (simp only [List.getElem?_toArray, List.getElem?_cons_succ, List.getElem?_cons_zero]; rfl))); (focus (refine Or.inl ⟨by rfl, ?_⟩; intro W' hSw; (try dsimp only at hSw); go_simp; try with_reducible rfl)); (try simp only [Act.put, List.setIfInBounds_toArray, List.set_cons_zero, List.set_cons_succ]))
      (refine' wpAnyH_take (i := 10) (oi := _) (v := _) ?_ (by kernel_rfl) (by kernel_rfl) (by kernel_rfl) (fun _ _ _ h => h) ?_ (by assumption) ?_; rotate_left; rotate_left; (focus (first | (simp only [List.getElem?_toArray, List.getElem?_cons_succ, List.getElem?_cons_zero]; done) | (simp only [List.getElem?_toArray, List.getElem?_cons_succ, List.getElem?_cons_zero]; rfl))); (focus (refine Or.inl ⟨by rfl, ?_⟩; intro W' hSw; (try dsimp only at hSw); go_simp; try with_reducible rfl)); (try simp only [Act.put, List.setIfInBounds_toArray, List.set_cons_zero, List.set_cons_succ]))
      (refine' wpAnyH_take (i := 11) (oi := _) (v := undef) ?_ (by kernel_rfl) (by kernel_rfl) (by kernel_rfl) (fun _ _ _ h => h) ?_ (by assumption) ?_; rotate_left; (focus (first | (simp only [List.getElem?_toArray, List.getElem?_cons_succ, List.getElem?_cons_zero]; done) | (simp only [List.getElem?_toArray, List.getElem?_cons_succ, List.getElem?_cons_zero]; rfl))); (focus (exact Or.inr ⟨by rfl, rfl⟩)); (try simp only [Act.put, List.setIfInBounds_toArray, List.set_cons_zero, List.set_cons_succ]))
      (refine' wpAnyH_take (i := 12) (oi := _) (v := undef) ?_ (by kernel_rfl) (by kernel_rfl) (by kernel_rfl) (fun _ _ _ h => h) ?_ (by assumption) ?_; rotate_left; (focus (first | (simp only [List.getElem?_toArray, List.getElem?_cons_succ, List.getElem?_cons_zero]; done) | (simp only [List.getElem?_toArray, List.getElem?_cons_succ, List.getElem?_cons_zero]; rfl))); (focus (exact Or.inr ⟨by rfl, rfl⟩)); (try simp only [Act.put, List.setIfInBounds_toArray, List.set_cons_zero, List.set_cons_succ]))
      (refine' wpAnyH_take (i := 13) (oi := _) (v := undef) ?_ (by kernel_rfl) (by kernel_rfl) (by kernel_rfl) (fun _ _ _ h => h) ?_ (by assumption) ?_; rotate_left; (focus (first | (simp only [List.getElem?_toArray, List.getElem?_cons_succ, List.getElem?_cons_zero]; done) | (simp only [List.getElem?_toArray, List.getElem?_cons_succ, List.getElem?_cons_zero]; rfl))); (focus (exact Or.inr ⟨by rfl, rfl⟩)); (try simp only [Act.put, List.setIfInBounds_toArray, List.set_cons_zero, List.set_cons_succ]))
      (refine' wpAnyH_take (i := 14) (oi := _) (v := _) ?_ (by kernel_rfl) (by kernel_rfl) (by kernel_rfl) (fun _ _ _ h => h) ?_ (by assumption) ?_; rotate_left; rotate_left; (focus (first | (simp only [List.getElem?_toArray, List.getElem?_cons_succ, List.getElem?_cons_zero]; done) | (simp only [List.getElem?_toArray, List.getElem?_cons_succ, List.getElem?_cons_zero]; rfl))); (focus (refine Or.inl ⟨by rfl, ?_⟩; intro W' hSw; (try dsimp only at hSw); go_simp; try with_reducible rfl)); (try simp only [Act.put, List.setIfInBounds_toArray, List.set_cons_zero, List.set_cons_succ]))
      (refine' wpAnyH_take (i := 15) (oi := _) (v := _) ?_ (by kernel_rfl) (by kernel_rfl) (by kernel_rfl) (fun _ _ _ h => h) ?_ (by assumption) ?_; rotate_left; rotate_left; (focus (first | (simp only [List.getElem?_toArray, List.getElem?_cons_succ, List.getElem?_cons_zero]; done) | (simp only [List.getElem?_toArray, List.getElem?_cons_succ, List.getElem?_cons_zero]; rfl))); (focus (refine Or.inl ⟨by rfl, ?_⟩; intro W' hSw; (try dsimp only at hSw); go_simp; try with_reducible rfl)); (try simp only [Act.put, List.setIfInBounds_toArray, List.set_cons_zero, List.set_cons_succ]))
      (refine' wpAnyH_take (i := 16) (oi := _) (v := _) ?_ (by kernel_rfl) (by kernel_rfl) (by kernel_rfl) (fun _ _ _ h => h) ?_ (by assumption) ?_; rotate_left; rotate_left; (focus (first | (simp only [List.getElem?_toArray, List.getElem?_cons_succ, List.getElem?_cons_zero]; done) | (simp only [List.getElem?_toArray, List.getElem?_cons_succ, List.getElem?_cons_zero]; rfl))); (focus (refine Or.inl ⟨by rfl, ?_⟩; intro W' hSw; (try dsimp only at hSw); go_simp; try with_reducible rfl)); (try simp only [Act.put, List.setIfInBounds_toArray, List.set_cons_zero, List.set_cons_succ]))
      (refine' wpAnyH_take (i := 17) (oi := _) (v := _) ?_ (by kernel_rfl) (by kernel_rfl) (by kernel_rfl) (fun _ _ _ h => h) ?_ (by assumption) ?_; rotate_left; rotate_left; (focus (first | (simp only [List.getElem?_toArray, List.getElem?_cons_succ, List.getElem?_cons_zero]; done) | (simp only [List.getElem?_toArray, List.getElem?_cons_succ, List.getElem?_cons_zero]; rfl))); (focus (refine Or.inl ⟨by rfl, ?_⟩; intro W' hSw; (try dsimp only at hSw); go_simp; try with_reducible rfl)); (try simp only [Act.put, List.setIfInBounds_toArray, List.set_cons_zero, List.set_cons_succ]))
      (refine' wpAnyH_take (i := 19) (oi := _) (v := _) ?_ (by kernel_rfl) (by kernel_rfl) (by kernel_rfl) (fun _ _ _ h => h) ?_ (by assumption) ?_; rotate_left; rotate_left; (focus (first | (simp only [List.getElem?_toArray, List.getElem?_cons_succ, List.getElem?_cons_zero]; done) | (simp only [List.getElem?_toArray, List.getElem?_cons_succ, List.getElem?_cons_zero]; rfl))); (focus (refine Or.inl ⟨by rfl, ?_⟩; intro W' hSw; (try dsimp only at hSw); go_simp; try with_reducible rfl)); (try simp only [Act.put, List.setIfInBounds_toArray, List.set_cons_zero, List.set_cons_succ]))
      (refine wpAnyH_ready (rs := [18]) (by kernel_rfl) (by simp) ?_; refine' AllReadyH.cons (o := _) ?_ (fun K hK => ?_) AllReadyH.nil; rotate_left; (focus (first | (simp only [List.getElem?_toArray, List.getElem?_cons_succ, List.getElem?_cons_zero]; done) | (simp only [List.getElem?_toArray, List.getElem?_cons_succ, List.getElem?_cons_zero]; rfl))))
      go_simp
      go_at_call 23
      with_reducible refine (CN.out _).mono ?_
      rintro e w118 ⟨rfl, rfl⟩
      go_wp2_with fail
      refine hK.out _ _ ?_ (fun hHeld18 => ?_)
      · exact hHeld8
      clear hK K
      (try simp only [Act.put, List.setIfInBounds_toArray, List.set_cons_zero, List.set_cons_succ])
      (refine wpAnyH_ready (rs := [20]) (by kernel_rfl) (by simp) ?_; refine' AllReadyH.cons (o := _) ?_ (fun K hK => ?_) AllReadyH.nil; rotate_left; (focus (first | (simp only [List.getElem?_toArray, List.getElem?_cons_succ, List.getElem?_cons_zero]; done) | (simp only [List.getElem?_toArray, List.getElem?_cons_succ, List.getElem?_cons_zero]; rfl))))
      go_simp
      go_at_call 24
      with_reducible refine (RN.out _).mono ?_
      rintro e w120 ⟨rfl, q, rfl⟩
      go_wp2_with fail
      refine hK.out _ _ ?_ (fun hHeld20 => ?_)
      · exact BX.out _ (hHeld18.2.2.2.2.2.drewN q)
      clear hK K
      (try simp only [Act.put, List.setIfInBounds_toArray, List.set_cons_zero, List.set_cons_succ])
      (refine' wpAnyH_take (i := 21) (oi := _) (v := _) ?_ (by kernel_rfl) (by kernel_rfl) (by kernel_rfl) (fun _ _ _ h => h) ?_ (by assumption) ?_; rotate_left; rotate_left; (focus (first | (simp only [List.getElem?_toArray, List.getElem?_cons_succ, List.getElem?_cons_zero]; done) | (simp only [List.getElem?_toArray, List.getElem?_cons_succ, List.getElem?_cons_zero]; rfl))); (focus (refine Or.inl ⟨by rfl, ?_⟩; intro W' hSw; (try dsimp only at hSw); go_simp; try with_reducible rfl)); (try simp only [Act.put, List.setIfInBounds_toArray, List.set_cons_zero, List.set_cons_succ]))
      (refine' wpAnyH_take (i := 22) (oi := _) (v := _) ?_ (by kernel_rfl) (by kernel_rfl) (by kernel_rfl) (fun _ _ _ h => h) ?_ (by assumption) ?_; rotate_left; rotate_left; (focus (first | (simp only [List.getElem?_toArray, List.getElem?_cons_succ, List.getElem?_cons_zero]; done) | (simp only [List.getElem?_toArray, List.getElem?_cons_succ, List.getElem?_cons_zero]; rfl))); (focus (refine Or.inl ⟨by rfl, ?_⟩; intro W' hSw; (try dsimp only at hSw); go_simp; try with_reducible rfl)); (try simp only [Act.put, List.setIfInBounds_toArray, List.set_cons_zero, List.set_cons_succ]))
      (refine' wpAnyH_take (i := 23) (oi := _) (v := _) ?_ (by kernel_rfl) (by kernel_rfl) (by kernel_rfl) (fun _ _ _ h => h) ?_ (by assumption) ?_; rotate_left; rotate_left; (focus (first | (simp only [List.getElem?_toArray, List.getElem?_cons_succ, List.getElem?_cons_zero]; done) | (simp only [List.getElem?_toArray, List.getElem?_cons_succ, List.getElem?_cons_zero]; rfl))); (focus (refine Or.inl ⟨by rfl, ?_⟩; intro W' hSw; (try dsimp only at hSw); go_simp; try with_reducible rfl)); (try simp only [Act.put, List.setIfInBounds_toArray, List.set_cons_zero, List.set_cons_succ]))
      (refine' wpAnyH_take (i := 24) (oi := _) (v := _) ?_ (by kernel_rfl) (by kernel_rfl) (by kernel_rfl) (fun _ _ _ h => h) ?_ (by assumption) ?_; rotate_left; rotate_left; (focus (first | (simp only [List.getElem?_toArray, List.getElem?_cons_succ, List.getElem?_cons_zero]; done) | (simp only [List.getElem?_toArray, List.getElem?_cons_succ, List.getElem?_cons_zero]; rfl))); (focus (refine Or.inl ⟨by rfl, ?_⟩; intro W' hSw; (try dsimp only at hSw); go_simp; try with_reducible rfl)); (try simp only [Act.put, List.setIfInBounds_toArray, List.set_cons_zero, List.set_cons_succ]))
      (refine' wpAnyH_take (i := 25) (oi := _) (v := _) ?_ (by kernel_rfl) (by kernel_rfl) (by kernel_rfl) (fun _ _ _ h => h) ?_ (by assumption) ?_; rotate_left; rotate_left; (focus (first | (simp only [List.getElem?_toArray, List.getElem?_cons_succ, List.getElem?_cons_zero]; done) | (simp only [List.getElem?_toArray, List.getElem?_cons_succ, List.getElem?_cons_zero]; rfl))); (focus (refine Or.inl ⟨by rfl, ?_⟩; intro W' hSw; (try dsimp only at hSw); go_simp; try with_reducible rfl)); (try simp only [Act.put, List.setIfInBounds_toArray, List.set_cons_zero, List.set_cons_succ]))
      (refine' wpAnyH_take (i := 26) (oi := _) (v := _) ?_ (by kernel_rfl) (by kernel_rfl) (by kernel_rfl) (fun _ _ _ h => h) ?_ (by assumption) ?_; rotate_left; rotate_left; (focus (first | (simp only [List.getElem?_toArray, List.getElem?_cons_succ, List.getElem?_cons_zero]; done) | (simp only [List.getElem?_toArray, List.getElem?_cons_succ, List.getElem?_cons_zero]; rfl))); (focus (refine Or.inl ⟨by rfl, ?_⟩; intro W' hSw; (try dsimp only at hSw); go_simp; try with_reducible rfl)); (try simp only [Act.put, List.setIfInBounds_toArray, List.set_cons_zero, List.set_cons_succ]))
      (refine' wpAnyH_take (i := 27) (oi := _) (v := _) ?_ (by kernel_rfl) (by kernel_rfl) (by kernel_rfl) (fun _ _ _ h => h) ?_ (by assumption) ?_; rotate_left; rotate_left; (focus (first | (simp only [List.getElem?_toArray, List.getElem?_cons_succ, List.getElem?_cons_zero]; done) | (simp only [List.getElem?_toArray, List.getElem?_cons_succ, List.getElem?_cons_zero]; rfl))); (focus (refine Or.inl ⟨by rfl, ?_⟩; intro W' hSw; (try dsimp only at hSw); go_simp; try with_reducible rfl)); (try simp only [Act.put, List.setIfInBounds_toArray, List.set_cons_zero, List.set_cons_succ]))
      (refine' wpAnyH_take (i := 28) (oi := _) (v := _) ?_ (by kernel_rfl) (by kernel_rfl) (by kernel_rfl) (fun _ _ _ h => h) ?_ (by assumption) ?_; rotate_left; rotate_left; (focus (first | (simp only [List.getElem?_toArray, List.getElem?_cons_succ, List.getElem?_cons_zero]; done) | (simp only [List.getElem?_toArray, List.getElem?_cons_succ, List.getElem?_cons_zero]; rfl))); (focus (refine Or.inl ⟨by rfl, ?_⟩; intro W' hSw; (try dsimp only at hSw); go_simp; try with_reducible rfl)); (try simp only [Act.put, List.setIfInBounds_toArray, List.set_cons_zero, List.set_cons_succ]))
      (refine' wpAnyH_take (i := 29) (oi := _) (v := _) ?_ (by kernel_rfl) (by kernel_rfl) (by kernel_rfl) (fun _ _ _ h => h) ?_ (by assumption) ?_; rotate_left; rotate_left; (focus (first | (simp only [List.getElem?_toArray, List.getElem?_cons_succ, List.getElem?_cons_zero]; done) | (simp only [List.getElem?_toArray, List.getElem?_cons_succ, List.getElem?_cons_zero]; rfl))); (focus (refine Or.inl ⟨by rfl, ?_⟩; intro W' hSw; (try dsimp only at hSw); go_simp; try with_reducible rfl)); (try simp only [Act.put, List.setIfInBounds_toArray, List.set_cons_zero, List.set_cons_succ]))
      (refine' wpAnyH_take (i := 30) (oi := _) (v := _) ?_ (by kernel_rfl) (by kernel_rfl) (by kernel_rfl) (fun _ _ _ h => h) ?_ (by assumption) ?_; rotate_left; rotate_left; (focus (first | (simp only [List.getElem?_toArray, List.getElem?_cons_succ, List.getElem?_cons_zero]; done) | (simp only [List.getElem?_toArray, List.getElem?_cons_succ, List.getElem?_cons_zero]; rfl))); (focus (refine Or.inl ⟨by rfl, ?_⟩; intro W' hSw; (try dsimp only at hSw); go_simp; try with_reducible rfl)); (try simp only [Act.put, List.setIfInBounds_toArray, List.set_cons_zero, List.set_cons_succ]))
      (refine' wpAnyH_take (i := 31) (oi := _) (v := _) ?_ (by kernel_rfl) (by kernel_rfl) (by kernel_rfl) (fun _ _ _ h => h) ?_ (by assumption) ?_; rotate_left; rotate_left; (focus (first | (simp only [List.getElem?_toArray, List.getElem?_cons_succ, List.getElem?_cons_zero]; done) | (simp only [List.getElem?_toArray, List.getElem?_cons_succ, List.getElem?_cons_zero]; rfl))); (focus (refine Or.inl ⟨by rfl, ?_⟩; intro W' hSw; (try dsimp only at hSw); go_simp; try with_reducible rfl)); (try simp only [Act.put, List.setIfInBounds_toArray, List.set_cons_zero, List.set_cons_succ]))
      (refine' wpAnyH_take (i := 32) (oi := _) (v := _) ?_ (by kernel_rfl) (by kernel_rfl) (by kernel_rfl) (fun _ _ _ h => h) ?_ (by assumption) ?_; rotate_left; rotate_left; (focus (first | (simp only [List.getElem?_toArray, List.getElem?_cons_succ, List.getElem?_cons_zero]; done) | (simp only [List.getElem?_toArray, List.getElem?_cons_succ, List.getElem?_cons_zero]; rfl))); (focus (refine Or.inl ⟨by rfl, ?_⟩; intro W' hSw; (try dsimp only at hSw); go_simp; try with_reducible rfl)); (try simp only [Act.put, List.setIfInBounds_toArray, List.set_cons_zero, List.set_cons_succ]))
      (refine' wpAnyH_take (i := 33) (oi := _) (v := _) ?_ (by kernel_rfl) (by kernel_rfl) (by kernel_rfl) (fun _ _ _ h => h) ?_ (by assumption) ?_; rotate_left; rotate_left; (focus (first | (simp only [List.getElem?_toArray, List.getElem?_cons_succ, List.getElem?_cons_zero]; done) | (simp only [List.getElem?_toArray, List.getElem?_cons_succ, List.getElem?_cons_zero]; rfl))); (focus (refine Or.inl ⟨by rfl, ?_⟩; intro W' hSw; (try dsimp only at hSw); go_simp; try with_reducible rfl)); (try simp only [Act.put, List.setIfInBounds_toArray, List.set_cons_zero, List.set_cons_succ]))
      (refine' wpAnyH_take (i := 34) (oi := _) (v := _) ?_ (by kernel_rfl) (by kernel_rfl) (by kernel_rfl) (fun _ _ _ h => h) ?_ (by assumption) ?_; rotate_left; rotate_left; (focus (first | (simp only [List.getElem?_toArray, List.getElem?_cons_succ, List.getElem?_cons_zero]; done) | (simp only [List.getElem?_toArray, List.getElem?_cons_succ, List.getElem?_cons_zero]; rfl))); (focus (refine Or.inl ⟨by rfl, ?_⟩; intro W' hSw; (try dsimp only at hSw); go_simp; try with_reducible rfl)); (try simp only [Act.put, List.setIfInBounds_toArray, List.set_cons_zero, List.set_cons_succ]))
      (refine' wpAnyH_take (i := 35) (oi := _) (v := _) ?_ (by kernel_rfl) (by kernel_rfl) (by kernel_rfl) (fun _ _ _ h => h) ?_ (by assumption) ?_; rotate_left; rotate_left; (focus (first | (simp only [List.getElem?_toArray, List.getElem?_cons_succ, List.getElem?_cons_zero]; done) | (simp only [List.getElem?_toArray, List.getElem?_cons_succ, List.getElem?_cons_zero]; rfl))); (focus (refine Or.inl ⟨by rfl, ?_⟩; intro W' hSw; (try dsimp only at hSw); go_simp; try with_reducible rfl)); (try simp only [Act.put, List.setIfInBounds_toArray, List.set_cons_zero, List.set_cons_succ]))
      (refine' wpAnyH_take (i := 36) (oi := _) (v := _) ?_ (by kernel_rfl) (by kernel_rfl) (by kernel_rfl) (fun _ _ _ h => h) ?_ (by assumption) ?_; rotate_left; rotate_left; (focus (first | (simp only [List.getElem?_toArray, List.getElem?_cons_succ, List.getElem?_cons_zero]; done) | (simp only [List.getElem?_toArray, List.getElem?_cons_succ, List.getElem?_cons_zero]; rfl))); (focus (refine Or.inl ⟨by rfl, ?_⟩; intro W' hSw; (try dsimp only at hSw); go_simp; try with_reducible rfl)); (try simp only [Act.put, List.setIfInBounds_toArray, List.set_cons_zero, List.set_cons_succ]))
      (refine' wpAnyH_take (i := 37) (oi := _) (v := _) ?_ (by kernel_rfl) (by kernel_rfl) (by kernel_rfl) (fun _ _ _ h => h) ?_ (by assumption) ?_; rotate_left; rotate_left; (focus (first | (simp only [List.getElem?_toArray, List.getElem?_cons_succ, List.getElem?_cons_zero]; done) | (simp only [List.getElem?_toArray, List.getElem?_cons_succ, List.getElem?_cons_zero]; rfl))); (focus (refine Or.inl ⟨by rfl, ?_⟩; intro W' hSw; (try dsimp only at hSw); go_simp; try with_reducible rfl)); (try simp only [Act.put, List.setIfInBounds_toArray, List.set_cons_zero, List.set_cons_succ]))
      (refine' wpAnyH_take (i := 38) (oi := _) (v := _) ?_ (by kernel_rfl) (by kernel_rfl) (by kernel_rfl) (fun _ _ _ h => h) ?_ (by assumption) ?_; rotate_left; rotate_left; (focus (first | (simp only [List.getElem?_toArray, List.getElem?_cons_succ, List.getElem?_cons_zero]; done) | (simp only [List.getElem?_toArray, List.getElem?_cons_succ, List.getElem?_cons_zero]; rfl))); (focus (refine Or.inl ⟨by rfl, ?_⟩; intro W' hSw; (try dsimp only at hSw); go_simp; try with_reducible rfl)); (try simp only [Act.put, List.setIfInBounds_toArray, List.set_cons_zero, List.set_cons_succ]))
      (refine' wpAnyH_take (i := 39) (oi := _) (v := _) ?_ (by kernel_rfl) (by kernel_rfl) (by kernel_rfl) (fun _ _ _ h => h) ?_ (by assumption) ?_; rotate_left; rotate_left; (focus (first | (simp only [List.getElem?_toArray, List.getElem?_cons_succ, List.getElem?_cons_zero]; done) | (simp only [List.getElem?_toArray, List.getElem?_cons_succ, List.getElem?_cons_zero]; rfl))); (focus (refine Or.inl ⟨by rfl, ?_⟩; intro W' hSw; (try dsimp only at hSw); go_simp; try with_reducible rfl)); (try simp only [Act.put, List.setIfInBounds_toArray, List.set_cons_zero, List.set_cons_succ]))
      (refine' wpAnyH_take (i := 40) (oi := _) (v := _) ?_ (by kernel_rfl) (by kernel_rfl) (by kernel_rfl) (fun _ _ _ h => h) ?_ (by assumption) ?_; rotate_left; rotate_left; (focus (first | (simp only [List.getElem?_toArray, List.getElem?_cons_succ, List.getElem?_cons_zero]; done) | (simp only [List.getElem?_toArray, List.getElem?_cons_succ, List.getElem?_cons_zero]; rfl))); (focus (refine Or.inl ⟨by rfl, ?_⟩; intro W' hSw; (try dsimp only at hSw); go_simp; try with_reducible rfl)); (try simp only [Act.put, List.setIfInBounds_toArray, List.set_cons_zero, List.set_cons_succ]))
      (refine' wpAnyH_take (i := 41) (oi := _) (v := _) ?_ (by kernel_rfl) (by kernel_rfl) (by kernel_rfl) (fun _ _ _ h => h) ?_ (by assumption) ?_; rotate_left; rotate_left; (focus (first | (simp only [List.getElem?_toArray, List.getElem?_cons_succ, List.getElem?_cons_zero]; done) | (simp only [List.getElem?_toArray, List.getElem?_cons_succ, List.getElem?_cons_zero]; rfl))); (focus (refine Or.inl ⟨by rfl, ?_⟩; intro W' hSw; (try dsimp only at hSw); go_simp; try with_reducible rfl)); (try simp only [Act.put, List.setIfInBounds_toArray, List.set_cons_zero, List.set_cons_succ]))
      (refine' wpAnyH_take (i := 42) (oi := _) (v := _) ?_ (by kernel_rfl) (by kernel_rfl) (by kernel_rfl) (fun _ _ _ h => h) ?_ (by assumption) ?_; rotate_left; rotate_left; (focus (first | (simp only [List.getElem?_toArray, List.getElem?_cons_succ, List.getElem?_cons_zero]; done) | (simp only [List.getElem?_toArray, List.getElem?_cons_succ, List.getElem?_cons_zero]; rfl))); (focus (refine Or.inl ⟨by rfl, ?_⟩; intro W' hSw; (try dsimp only at hSw); go_simp; try with_reducible rfl)); (try simp only [Act.put, List.setIfInBounds_toArray, List.set_cons_zero, List.set_cons_succ]))
      (refine' wpAnyH_take (i := 43) (oi := _) (v := _) ?_ (by kernel_rfl) (by kernel_rfl) (by kernel_rfl) (fun _ _ _ h => h) ?_ (by assumption) ?_; rotate_left; rotate_left; (focus (first | (simp only [List.getElem?_toArray, List.getElem?_cons_succ, List.getElem?_cons_zero]; done) | (simp only [List.getElem?_toArray, List.getElem?_cons_succ, List.getElem?_cons_zero]; rfl))); (focus (refine Or.inl ⟨by rfl, ?_⟩; intro W' hSw; (try dsimp only at hSw); go_simp; try with_reducible rfl)); (try simp only [Act.put, List.setIfInBounds_toArray, List.set_cons_zero, List.set_cons_succ]))
      (refine wpAnyH_ready (rs := [44]) (by kernel_rfl) (by simp) ?_; refine' AllReadyH.cons (o := _) ?_ (fun K hK => ?_) AllReadyH.nil; rotate_left; (focus (first | (simp only [List.getElem?_toArray, List.getElem?_cons_succ, List.getElem?_cons_zero]; done) | (simp only [List.getElem?_toArray, List.getElem?_cons_succ, List.getElem?_cons_zero]; rfl))))
      go_simp
      go_at_call 15
      with_reducible refine (live07 _).mono ?_
      rintro e w144 ⟨rfl, hb⟩
      go_wp2_with fail
      refine hK.out _ _ ?_ (fun hHeld44 => ?_)
      · exact BX.out _ (hHeld20.2.2.2.2.2.trans (Keep.of_below' hb) (fun _ _ h => h))
      clear hK K
      (try simp only [Act.put, List.setIfInBounds_toArray, List.set_cons_zero, List.set_cons_succ])
      (refine' wpAnyH_take (i := 45) (oi := _) (v := _) ?_ (by kernel_rfl) (by kernel_rfl) (by kernel_rfl) (fun _ _ _ h => h) ?_ (by assumption) ?_; rotate_left; rotate_left; (focus (first | (simp only [List.getElem?_toArray, List.getElem?_cons_succ, List.getElem?_cons_zero]; done) | (simp only [List.getElem?_toArray, List.getElem?_cons_succ, List.getElem?_cons_zero]; rfl))); (focus (refine Or.inl ⟨by rfl, ?_⟩; intro W' hSw; (try dsimp only at hSw); go_simp; try with_reducible rfl)); (try simp only [Act.put, List.setIfInBounds_toArray, List.set_cons_zero, List.set_cons_succ]))
      (refine' wpAnyH_take (i := 46) (oi := _) (v := _) ?_ (by kernel_rfl) (by kernel_rfl) (by kernel_rfl) (fun _ _ _ h => h) ?_ (by assumption) ?_; rotate_left; rotate_left; (focus (first | (simp only [List.getElem?_toArray, List.getElem?_cons_succ, List.getElem?_cons_zero]; done) | (simp only [List.getElem?_toArray, List.getElem?_cons_succ, List.getElem?_cons_zero]; rfl))); (focus (refine Or.inl ⟨by rfl, ?_⟩; intro W' hSw; (try dsimp only at hSw); go_simp; try with_reducible rfl)); (try simp only [Act.put, List.setIfInBounds_toArray, List.set_cons_zero, List.set_cons_succ]))
      refine wpAnyH_done (by kernel_rfl) ?_ _
      refine NoPanic.normal ?_
      go_wp2
      go_ret
      exact ⟨rfl, HX.out.2.2.trans ((K1.out.trans hHeld44.2.2.2.2.2 (fun _ _ h => h)).to_below'.mono HX.out.2.2.size)⟩
end Go.Proofs.Ythkgchlndfcmpaa

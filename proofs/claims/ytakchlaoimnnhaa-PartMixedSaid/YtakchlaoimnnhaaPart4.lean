/- Contracts of slices.EqualFunc (with bytes.Equal), vivariumref17.Same. -/
import Derived.Test.YtakchlaoimnnhaaRdr
namespace Go.Proofs.Ytakchlaoimnnhaa
open Go.RowKit
set_option maxRecDepth 100000
set_option linter.unusedVariables false

theorem bequal_any (xs ys : List UInt8) (u v : Value) (F G : Nat → Prop) (w : World) (ha : By w F u xs) (hb : By w G v ys) :
    Calls Try.prog 64 #[u, v] w fun e w' => e = .returned (.bool (decide (xs = ys))) ∧ w = w' := by
  have r1 := run_str (P := Try.prog) ha Try.underlying22 Try.underlying5 Try.underlying9
  have r2 := run_str (P := Try.prog) hb Try.underlying22 Try.underlying5 Try.underlying9
  clear ha hb
  go_enter Try.func64, Try.ntmps64
  go_wp2
  go_ret
  refine ⟨ret_bool ?_, rfl⟩
  show (xs == ys) = _
  rw [Bool.eq_iff_iff, beq_iff_eq, decide_eq_true_iff]

theorem rsame17 (R Q : List (List UInt8)) (u v : Value) (F G : Nat → Prop) (w : World) (ha : Bys w F u R) (hb : Bys w G v Q) :
    Calls Try.prog 17 #[u, v] w fun e w' => e = .returned (.bool (decide (R = Q))) ∧ Keep (fun _ => False) w w' := by
  obtain ⟨A, c, rfl, _, hcm, hat⟩ := ha.form
  obtain ⟨B, d, rfl, _, hdm, hbt⟩ := hb.form
  obtain ⟨r, hr⟩ : ∃ r, r = decide (R = Q) := ⟨_, rfl⟩
  rw [← hr]
  by_cases hl : R.length = Q.length
  · have HL := Lib.hid hl
    have h0 : ((R.length : Int) != (Q.length : Int)) = false := by rw [hl]; simp
    have HA := Lib.hid hat
    have HB := Lib.hid hbt
    clear hat hbt ha hb hl
    unfold maxLen at hcm hdm
    have HR := Lib.hid (show ∀ k, k < R.length → R.getD k [] = Q.getD k [] → R.take k = Q.take k → R.take (k + 1) = Q.take (k + 1) from fun k hk e h => by
      have h2 := HL.out
      rw [List.take_add_one, List.take_add_one, h, List.getElem?_eq_getElem hk, List.getElem?_eq_getElem (by omega)]
      rw [List.getD_eq_getElem?_getD, List.getD_eq_getElem?_getD, List.getElem?_eq_getElem hk, List.getElem?_eq_getElem (by omega)] at e
      simp at e
      rw [e])
    have HE := Lib.hid (show R.take R.length = Q.take R.length → r = true from fun h => by
      rw [hr, decide_eq_true_iff]
      rw [List.take_length, HL.out, List.take_length] at h
      exact h)
    have HN := Lib.hid (show ∀ k, R.getD k [] ≠ Q.getD k [] → r = false from fun k h => by
      rw [hr, decide_eq_false_iff_not]
      rintro rfl
      exact h rfl)
    clear hr
    generalize hn : R.length = n at *
    have HQ := HL.out
    generalize Q.length = m at *
    subst HQ
    clear hn HL
    go_enter Try.func17, Try.ntmps17
    go_wp2
    go_loopw [5] (fun i wr => ∃ (k q : Nat), k ≤ n ∧ i = .int .i64 k ∧ wr = w.drewN q ∧ Hid (R.take k = Q.take k)) (fun i _ => n - (intOf i).toNat)
    case atStart => exact ⟨0, 0, by omega, rfl, rfl, Lib.hid rfl⟩
    case round =>
      obtain ⟨k, q, hk, rfl, rfl, ht⟩ := hrel
      by_cases hlt : k < n
      · obtain ⟨b1, o1, u1, rfl, c1, y1⟩ := HA.out k hlt
        obtain ⟨b2, o2, u2, rfl, c2, y2⟩ := HB.out k hlt
        have SM := Lib.hid (fun W (hk : Keep (fun _ => False) w W) => same_any _ _ u1 u2 _ _ W (y1.keep hk (fun _ _ _ h => h)) (y2.keep hk (fun _ _ _ h => h)))
        obtain ⟨A1, d1, rfl, _⟩ := y1
        obtain ⟨A2, d2, rfl, _⟩ := y2
        generalize (R.getD k []).length = n1 at *
        generalize (Q.getD k []).length = n2 at *
        have f0 : (0 : Int) ≤ (k : Int) := by omega
        have f1 : (k : Int) < (n : Int) := by omega
        have x1 : (w.drewN q).cell? ⟨b1, o1 + k, none⟩ = some (.slice A1 n1 d1) := c1
        have x2 : (w.drewN q).cell? ⟨b2, o2 + k, none⟩ = some (.slice A2 n2 d2) := c2
        by_cases hxy : R.getD k [] = Q.getD k []
        · have NX := Lib.hid (HR.out k hlt hxy ht.out)
          rw [decide_eq_true hxy] at SM
          clear hxy
          go_wp2
          go_region_held3 (fun w' => w'.cell? ⟨b1, o1 + k, none⟩ = some (.slice A1 n1 d1) ∧ w'.cell? ⟨b2, o2 + k, none⟩ = some (.slice A2 n2 d2)) (go_keep) ((go_at_call 20; refine (SM.out _ (by exact (by repeat first | exact Keep.refl _ _ | refine Keep.alloc ?_ _ | refine Keep.drew ?_ | refine Keep.drewN ?_ _))).mono ?_; rintro e w1 ⟨rfl, rfl⟩))
          go_wp2
          go_roundw
          case rel => exact ⟨k + 1, _, by omega, by go_num, World.drewN_drewN w q 1, NX⟩
          case measure => simp [intOf]; omega
        · have Z := Lib.hid (HN.out k hxy)
          rw [decide_eq_false hxy] at SM
          clear hxy
          go_wp2
          go_region_held3 (fun w' => w'.cell? ⟨b1, o1 + k, none⟩ = some (.slice A1 n1 d1) ∧ w'.cell? ⟨b2, o2 + k, none⟩ = some (.slice A2 n2 d2)) (go_keep) ((go_at_call 20; refine (SM.out _ (by exact (by repeat first | exact Keep.refl _ _ | refine Keep.alloc ?_ _ | refine Keep.drew ?_ | refine Keep.drewN ?_ _))).mono ?_; rintro e w1 ⟨rfl, rfl⟩))
          go_wp2
          go_ret
          exact ⟨ret_bool Z.out.symm, (by repeat first | exact Keep.refl _ _ | refine Keep.alloc ?_ _ | refine Keep.drew ?_ | refine Keep.drewN ?_ _)⟩
      · obtain rfl : k = n := by omega
        have Z := Lib.hid (HE.out ht.out)
        go_wp2
        go_ret
        exact ⟨ret_bool Z.out.symm, (by repeat first | exact Keep.refl _ _ | refine Keep.alloc ?_ _ | refine Keep.drew ?_ | refine Keep.drewN ?_ _)⟩
  · have Z := Lib.hid (show r = false by rw [hr, decide_eq_false_iff_not]; rintro rfl; exact hl rfl)
    have h0 : ((R.length : Int) != (Q.length : Int)) = true := by rw [bne_iff_ne]; omega
    clear hat hbt ha hb hr
    go_enter Try.func17, Try.ntmps17
    go_wp2
    go_ret
    exact ⟨ret_bool Z.out.symm, Keep.refl _ _⟩

theorem efun_any (R Q : List (List UInt8)) (u v : Value) (F G : Nat → Prop) (w : World) (ha : Bys w F u R) (hb : Bys w G v Q) :
    Calls Try.prog 63 #[u, v, .func (Fn.func 64) #[] #[]] w fun e w' => e = .returned (.bool (decide (R = Q))) ∧ w = w' := by
  obtain ⟨A, c, rfl, _, hcm, hat⟩ := ha.form
  obtain ⟨B, d, rfl, _, hdm, hbt⟩ := hb.form
  obtain ⟨r, hr⟩ : ∃ r, r = decide (R = Q) := ⟨_, rfl⟩
  rw [← hr]
  by_cases hl : R.length = Q.length
  · have HL := Lib.hid hl
    have h0 : ((R.length : Int) != (Q.length : Int)) = false := by rw [hl]; simp
    have HA := Lib.hid hat
    have HB := Lib.hid hbt
    clear hat hbt ha hb hl
    unfold maxLen at hcm hdm
    have HR := Lib.hid (show ∀ k, k < R.length → R.getD k [] = Q.getD k [] → R.take k = Q.take k → R.take (k + 1) = Q.take (k + 1) from fun k hk e h => by
      have h2 := HL.out
      rw [List.take_add_one, List.take_add_one, h, List.getElem?_eq_getElem hk, List.getElem?_eq_getElem (by omega)]
      rw [List.getD_eq_getElem?_getD, List.getD_eq_getElem?_getD, List.getElem?_eq_getElem hk, List.getElem?_eq_getElem (by omega)] at e
      simp at e
      rw [e])
    have HE := Lib.hid (show R.take R.length = Q.take R.length → r = true from fun h => by
      rw [hr, decide_eq_true_iff]
      rw [List.take_length, HL.out, List.take_length] at h
      exact h)
    have HN := Lib.hid (show ∀ k, R.getD k [] ≠ Q.getD k [] → r = false from fun k h => by
      rw [hr, decide_eq_false_iff_not]
      rintro rfl
      exact h rfl)
    clear hr
    generalize hn : R.length = n at *
    have HQ := HL.out
    generalize Q.length = m at *
    subst HQ
    clear hn HL
    go_enter Try.func63, Try.ntmps63
    go_wp2
    go_loop [17] (fun i => ∃ k : Nat, k ≤ n ∧ i = .int .i64 k ∧ Hid (R.take k = Q.take k)) (fun i => n - (intOf i).toNat)
    case atStart => exact ⟨0, by omega, rfl, Lib.hid rfl⟩
    case round =>
      obtain ⟨k, hk, rfl, ht⟩ := hrel
      by_cases hlt : k < n
      · obtain ⟨b1, o1, u1, rfl, c1, y1⟩ := HA.out k hlt
        obtain ⟨b2, o2, u2, rfl, c2, y2⟩ := HB.out k hlt
        have SM := Lib.hid (fun W (hk : Keep (fun _ => False) w W) => bequal_any _ _ u1 u2 _ _ W (y1.keep hk (fun _ _ _ h => h)) (y2.keep hk (fun _ _ _ h => h)))
        obtain ⟨A1, d1, rfl, _⟩ := y1
        obtain ⟨A2, d2, rfl, _⟩ := y2
        generalize (R.getD k []).length = n1 at *
        generalize (Q.getD k []).length = n2 at *
        have f0 : (0 : Int) ≤ (k : Int) := by omega
        have f1 : (k : Int) < (n : Int) := by omega
        have x1 : w.cell? ⟨b1, o1 + k, none⟩ = some (.slice A1 n1 d1) := c1
        have x2 : w.cell? ⟨b2, o2 + k, none⟩ = some (.slice A2 n2 d2) := c2
        by_cases hxy : R.getD k [] = Q.getD k []
        · have NX := Lib.hid (HR.out k hlt hxy ht.out)
          rw [decide_eq_true hxy] at SM
          clear hxy
          go_wp2_with (go_at_call 64; refine (SM.out _ (by exact (by repeat first | exact Keep.refl _ _ | refine Keep.alloc ?_ _ | refine Keep.drew ?_ | refine Keep.drewN ?_ _))).mono ?_; rintro e w1 ⟨rfl, rfl⟩)
          go_round
          case rel => exact ⟨k + 1, by omega, by go_num, NX⟩
          case measure => simp [intOf]; omega
        · have Z := Lib.hid (HN.out k hxy)
          rw [decide_eq_false hxy] at SM
          clear hxy
          go_wp2_with (go_at_call 64; refine (SM.out _ (by exact (by repeat first | exact Keep.refl _ _ | refine Keep.alloc ?_ _ | refine Keep.drew ?_ | refine Keep.drewN ?_ _))).mono ?_; rintro e w1 ⟨rfl, rfl⟩)
          go_ret
          exact ⟨ret_bool Z.out.symm, rfl⟩
      · obtain rfl : k = n := by omega
        have Z := Lib.hid (HE.out ht.out)
        go_wp2
        go_ret
        exact ⟨ret_bool Z.out.symm, rfl⟩
  · have Z := Lib.hid (show r = false by rw [hr, decide_eq_false_iff_not]; rintro rfl; exact hl rfl)
    have h0 : ((R.length : Int) != (Q.length : Int)) = true := by rw [bne_iff_ne]; omega
    clear hat hbt ha hb hr
    go_enter Try.func63, Try.ntmps63
    go_wp2
    go_ret
    exact ⟨ret_bool Z.out.symm, rfl⟩
end Go.Proofs.Ytakchlaoimnnhaa

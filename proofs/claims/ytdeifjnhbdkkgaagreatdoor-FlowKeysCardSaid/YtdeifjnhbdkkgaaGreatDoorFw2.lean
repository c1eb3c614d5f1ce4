/- Contracts of bits.Has, flow.Right, rank, Order, Find, and of vivariumref22's. -/
import Derived.Test.YtdeifjnhbdkkgaaGreatDoorFw1
import Derived.Test.YtdeifjnhbdkkgaaGreatDoorBits2
import Derived.Test.YtdeifjnhbdkkgaaGreatDoorScr1
import Derived.BigQuiet
import Derived.Deep.QuietTactic
import Derived.Deep.DeepCutAuto
namespace Go.Proofs.YtdeifjnhbdkkgaaGreatDoor
open Go.RowKit
set_option maxRecDepth 100000
set_option linter.unusedVariables false
set_option linter.unusedSimpArgs false

def kyV (k : KyZ) : Value := .agg #[.int .i64 k.kind, .int .u64 (k.sig : Int), .int .i64 k.comp]
theorem flow_right (k : KyZ) (hs : k.sig < 18446744073709551616) (w : World) :
    Calls Tryz.prog 8 #[kyV k] w fun e w' => e = .returned (.bool (rightK k)) ∧ Keep (fun _ => False) w w' := by
  have HS := Lib.hid (fun X => bitsHas_any k.sig k.comp hs X)
  obtain ⟨kd, sg, cc⟩ := k
  unfold kyV rightK
  simp only at *
  clear hs
  generalize hasB sg cc = r at *
  have XB := Lib.hid (heap_alloc_new w (.cells #[.int .i64 kd, .int .u64 (sg : Int), .int .i64 cc] 24 (0, 0)))
  obtain ⟨x0, x1, x2, xf⟩ := cells3 XB.out
  by_cases h0 : kd = 0
  · subst h0
    by_cases hs0 : sg = 0
    · subst hs0
      go_enter Tryz.func8, Tryz.ntmps8
      go_wp2
      go_ret
      exact ⟨by simp; rfl, (by repeat first | (with_reducible assumption) | (with_reducible exact Keep.refl _ _) | (with_reducible refine Keep.alloc ?_ _) | (with_reducible refine Keep.drew ?_) | (with_reducible refine Keep.drewN ?_ _) | (with_reducible refine Keep.setCell ?_ (.inl (by first | omega | (simp; done) | (simp; omega) | fail)) _))⟩
    · have e1 : ((sg : Int) == 0) = false := by simpa using hs0
      go_enter Tryz.func8, Tryz.ntmps8
      go_wp2
      go_ret
      exact ⟨by simp [hs0], (by repeat first | (with_reducible assumption) | (with_reducible exact Keep.refl _ _) | (with_reducible refine Keep.alloc ?_ _) | (with_reducible refine Keep.drew ?_) | (with_reducible refine Keep.drewN ?_ _) | (with_reducible refine Keep.setCell ?_ (.inl (by first | omega | (simp; done) | (simp; omega) | fail)) _))⟩
  · by_cases h1 : kd = 1
    · subst h1
      by_cases hs0 : sg = 0
      · subst hs0
        go_enter Tryz.func8, Tryz.ntmps8
        go_wp2
        go_ret
        exact ⟨by simp; rfl, (by repeat first | (with_reducible assumption) | (with_reducible exact Keep.refl _ _) | (with_reducible refine Keep.alloc ?_ _) | (with_reducible refine Keep.drew ?_) | (with_reducible refine Keep.drewN ?_ _) | (with_reducible refine Keep.setCell ?_ (.inl (by first | omega | (simp; done) | (simp; omega) | fail)) _))⟩
      · have e1 : ((sg : Int) == 0) = false := by simpa using hs0
        go_enter Tryz.func8, Tryz.ntmps8
        go_wp2
        go_ret
        exact ⟨by simp [hs0], (by repeat first | (with_reducible assumption) | (with_reducible exact Keep.refl _ _) | (with_reducible refine Keep.alloc ?_ _) | (with_reducible refine Keep.drew ?_) | (with_reducible refine Keep.drewN ?_ _) | (with_reducible refine Keep.setCell ?_ (.inl (by first | omega | (simp; done) | (simp; omega) | fail)) _))⟩
    · by_cases h2 : kd = 2
      · subst h2
        go_enter Tryz.func8, Tryz.ntmps8
        go_wp2
        go_ret
        exact ⟨by simp; rfl, (by repeat first | (with_reducible assumption) | (with_reducible exact Keep.refl _ _) | (with_reducible refine Keep.alloc ?_ _) | (with_reducible refine Keep.drew ?_) | (with_reducible refine Keep.drewN ?_ _) | (with_reducible refine Keep.setCell ?_ (.inl (by first | omega | (simp; done) | (simp; omega) | fail)) _))⟩
      · by_cases h3 : kd = 3
        · subst h3
          go_enter Tryz.func8, Tryz.ntmps8
          go_wp2_with (first | (go_at_call 17; with_reducible refine (HS.out _).mono ?_; rintro e w' ⟨rfl, rfl⟩) | fail)
          go_ret
          exact ⟨by simp, (by repeat first | (with_reducible assumption) | (with_reducible exact Keep.refl _ _) | (with_reducible refine Keep.alloc ?_ _) | (with_reducible refine Keep.drew ?_) | (with_reducible refine Keep.drewN ?_ _) | (with_reducible refine Keep.setCell ?_ (.inl (by first | omega | (simp; done) | (simp; omega) | fail)) _))⟩
        · have e0 : (kd == 0) = false := by simpa using h0
          have e1 : (kd == 1) = false := by simpa using h1
          have e2 : (kd == 2) = false := by simpa using h2
          have e3 : (kd == 3) = false := by simpa using h3
          rw [if_neg (by omega), if_neg h2, if_neg h3]
          clear h0 h1 h2 h3
          go_enter Tryz.func8, Tryz.ntmps8
          go_wp2
          go_ret
          exact ⟨rfl, (by repeat first | (with_reducible assumption) | (with_reducible exact Keep.refl _ _) | (with_reducible refine Keep.alloc ?_ _) | (with_reducible refine Keep.drew ?_) | (with_reducible refine Keep.drewN ?_ _) | (with_reducible refine Keep.setCell ?_ (.inl (by first | omega | (simp; done) | (simp; omega) | fail)) _))⟩
theorem ref_right (k : KyZ) (hs : k.sig < 18446744073709551616) (w : World) :
    Calls Tryz.prog 9 #[kyV k] w fun e w' => e = .returned (.bool (rightK k)) ∧ Keep (fun _ => False) w w' := by
  have HS := Lib.hid (fun X => has_any k.sig k.comp hs X)
  obtain ⟨kd, sg, cc⟩ := k
  unfold kyV rightK
  simp only at *
  clear hs
  generalize hasB sg cc = r at *
  have XB := Lib.hid (heap_alloc_new w (.cells #[.int .i64 kd, .int .u64 (sg : Int), .int .i64 cc] 24 (0, 0)))
  obtain ⟨x0, x1, x2, xf⟩ := cells3 XB.out
  by_cases h0 : kd = 0
  · subst h0
    by_cases hs0 : sg = 0
    · subst hs0
      go_enter Tryz.func9, Tryz.ntmps9
      go_wp2
      go_ret
      exact ⟨by simp; rfl, (by repeat first | (with_reducible assumption) | (with_reducible exact Keep.refl _ _) | (with_reducible refine Keep.alloc ?_ _) | (with_reducible refine Keep.drew ?_) | (with_reducible refine Keep.drewN ?_ _) | (with_reducible refine Keep.setCell ?_ (.inl (by first | omega | (simp; done) | (simp; omega) | fail)) _))⟩
    · have e1 : ((sg : Int) == 0) = false := by simpa using hs0
      go_enter Tryz.func9, Tryz.ntmps9
      go_wp2
      go_ret
      exact ⟨by simp [hs0], (by repeat first | (with_reducible assumption) | (with_reducible exact Keep.refl _ _) | (with_reducible refine Keep.alloc ?_ _) | (with_reducible refine Keep.drew ?_) | (with_reducible refine Keep.drewN ?_ _) | (with_reducible refine Keep.setCell ?_ (.inl (by first | omega | (simp; done) | (simp; omega) | fail)) _))⟩
  · have e0 : (kd == 0) = false := by simpa using h0
    by_cases h1 : kd = 1
    · subst h1
      by_cases hs0 : sg = 0
      · subst hs0
        go_enter Tryz.func9, Tryz.ntmps9
        go_wp2
        go_ret
        exact ⟨by simp; rfl, (by repeat first | (with_reducible assumption) | (with_reducible exact Keep.refl _ _) | (with_reducible refine Keep.alloc ?_ _) | (with_reducible refine Keep.drew ?_) | (with_reducible refine Keep.drewN ?_ _) | (with_reducible refine Keep.setCell ?_ (.inl (by first | omega | (simp; done) | (simp; omega) | fail)) _))⟩
      · have e1 : ((sg : Int) == 0) = false := by simpa using hs0
        go_enter Tryz.func9, Tryz.ntmps9
        go_wp2
        go_ret
        exact ⟨by simp [hs0], (by repeat first | (with_reducible assumption) | (with_reducible exact Keep.refl _ _) | (with_reducible refine Keep.alloc ?_ _) | (with_reducible refine Keep.drew ?_) | (with_reducible refine Keep.drewN ?_ _) | (with_reducible refine Keep.setCell ?_ (.inl (by first | omega | (simp; done) | (simp; omega) | fail)) _))⟩
    · have e1 : (kd == 1) = false := by simpa using h1
      by_cases h2 : kd = 2
      · subst h2
        rw [if_neg (by decide), if_pos rfl]
        by_cases hc0 : cc = 0
        · subst hc0
          go_enter Tryz.func9, Tryz.ntmps9
          go_wp2
          go_ret
          exact ⟨rfl, (by repeat first | (with_reducible assumption) | (with_reducible exact Keep.refl _ _) | (with_reducible refine Keep.alloc ?_ _) | (with_reducible refine Keep.drew ?_) | (with_reducible refine Keep.drewN ?_ _) | (with_reducible refine Keep.setCell ?_ (.inl (by first | omega | (simp; done) | (simp; omega) | fail)) _))⟩
        · have e9 : (cc == 0) = false := by simpa using hc0
          rw [decide_eq_false hc0]
          clear hc0
          go_enter Tryz.func9, Tryz.ntmps9
          go_wp2
          go_ret
          exact ⟨rfl, (by repeat first | (with_reducible assumption) | (with_reducible exact Keep.refl _ _) | (with_reducible refine Keep.alloc ?_ _) | (with_reducible refine Keep.drew ?_) | (with_reducible refine Keep.drewN ?_ _) | (with_reducible refine Keep.setCell ?_ (.inl (by first | omega | (simp; done) | (simp; omega) | fail)) _))⟩
      · have e2 : (kd == 2) = false := by simpa using h2
        by_cases h3 : kd = 3
        · subst h3
          rw [if_neg (by decide), if_neg (by decide), if_pos rfl]
          go_enter Tryz.func9, Tryz.ntmps9
          go_wp2_with (first | (go_at_call 18; with_reducible refine (HS.out _).mono ?_; rintro e w' ⟨rfl, rfl⟩) | fail)
          go_ret
          exact ⟨rfl, (by repeat first | (with_reducible assumption) | (with_reducible exact Keep.refl _ _) | (with_reducible refine Keep.alloc ?_ _) | (with_reducible refine Keep.drew ?_) | (with_reducible refine Keep.drewN ?_ _) | (with_reducible refine Keep.setCell ?_ (.inl (by first | omega | (simp; done) | (simp; omega) | fail)) _))⟩
        · have e3 : (kd == 3) = false := by simpa using h3
          rw [if_neg (by omega), if_neg h2, if_neg h3]
          clear h0 h1 h2 h3
          go_enter Tryz.func9, Tryz.ntmps9
          go_wp2
          go_ret
          exact ⟨rfl, (by repeat first | (with_reducible assumption) | (with_reducible exact Keep.refl _ _) | (with_reducible refine Keep.alloc ?_ _) | (with_reducible refine Keep.drew ?_) | (with_reducible refine Keep.drewN ?_ _) | (with_reducible refine Keep.setCell ?_ (.inl (by first | omega | (simp; done) | (simp; omega) | fail)) _))⟩
theorem flow_rank (k : KyZ) (w : World) : Calls Tryz.prog 21 #[kyV k] w fun e w' => e = .returned (.int .i64 (rankK k)) ∧ Keep (fun _ => False) w w' := by
  obtain ⟨kd, sg, cc⟩ := k
  unfold kyV rankK
  simp only
  have XB := Lib.hid (heap_alloc_new w (.cells #[.int .i64 kd, .int .u64 (sg : Int), .int .i64 cc] 24 (0, 0)))
  obtain ⟨x0, x1, x2, xf⟩ := cells3 XB.out
  obtain ⟨r, hr⟩ : ∃ r, (if kd ≤ 2 then kd else 2) = r := ⟨_, rfl⟩
  rw [hr]
  by_cases h : kd ≤ 2
  · rw [if_pos h] at hr
    subst hr
    go_enter Tryz.func21, Tryz.ntmps21
    go_wp2
    all_goals
      go_ret
      exact ⟨by first | rfl | (congr 2; omega), (by repeat first | (with_reducible assumption) | (with_reducible exact Keep.refl _ _) | (with_reducible refine Keep.alloc ?_ _) | (with_reducible refine Keep.drew ?_) | (with_reducible refine Keep.drewN ?_ _) | (with_reducible refine Keep.setCell ?_ (.inl (by first | omega | (simp; done) | (simp; omega) | fail)) _))⟩
  · rw [if_neg h] at hr
    subst hr
    go_enter Tryz.func21, Tryz.ntmps21
    go_wp2
    all_goals
      go_ret
      exact ⟨by first | rfl | (congr 2; omega), (by repeat first | (with_reducible assumption) | (with_reducible exact Keep.refl _ _) | (with_reducible refine Keep.alloc ?_ _) | (with_reducible refine Keep.drew ?_) | (with_reducible refine Keep.drewN ?_ _) | (with_reducible refine Keep.setCell ?_ (.inl (by first | omega | (simp; done) | (simp; omega) | fail)) _))⟩
end Go.Proofs.YtdeifjnhbdkkgaaGreatDoor

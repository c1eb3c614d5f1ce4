/- The walk of vivariumlaw15.FlushFinds: it returns true, old memory unchanged. -/
import Derived.Test.YtglliendhbkkhaaDoorFl5
namespace Go.Proofs.YtglliendhbkkhaaDoor
open Go.ChangeShapes Go.WideShapes Go.ChangeAt Go.RowKit
set_option maxRecDepth 100000
set_option linter.unusedVariables false
set_option linter.unusedSimpArgs false

set_option maxHeartbeats 2000000 in
theorem flushFinds_walk (l : List Cmd) (v : Value) (d : List RsZ) (u : Value) (k : Int) (hk : -9223372036854775808 ≤ k ∧ k ≤ 9223372036854775807) (W : World) (hl : NS cmN W (fun _ => True) v l) (hd : Sl W (fun _ => True) 3 u d.length (d.flatMap rsC)) (hT : Tab W) :
    Calls Tryd.prog 3 #[v, u, .int .i64 k] W fun e w' => e = .returned (.bool true) ∧ Below W.heap.size W w' := by
  have LV := Lib.hid (fun X (hk : Keep (fun _ => False) W X) => live15 X (hT.same hk))
  have MC := Lib.hid (much13 l v _ W hl)
  have FF := Lib.hid (fun X (hk2 : Keep (fun _ => False) W X) (h70 : l.length ≤ 100000) => fl_find l v _ d u _ k hk X (hl.same hk2) (hd.keep hk2 (fun _ _ _ h => h)) h70)
  have RF := Lib.hid (fun X (hk2 : Keep (fun _ => False) W X) (h70 : l.length ≤ 100000) => rfl_find l v _ d u _ k hk X (hl.same hk2) (hd.keep hk2 (fun _ _ _ h => h)) h70)
  have M70 := Lib.hid (show muchC l = false → l.length ≤ 100000 from fun h => by
    unfold muchC at h
    rw [Bool.or_eq_false_iff] at h
    have := of_decide_eq_false h.2
    omega)
  obtain ⟨A, c, rfl, hcm, hnc⟩ := hl.form
  unfold maxLen at hcm
  obtain ⟨Ad, cd, rfl, hd1, hd2, -⟩ := hd
  unfold maxLen at hd2
  clear hT hl
  generalize hR : findF l d k = R at *
  obtain ⟨⟨ix, gn⟩, ok⟩ := R
  simp only at *
  generalize muchC l = mb at *
  generalize l.length = n at *
  generalize d.length = nd at *
  clear hR
  have e1 : (ix != ix) = false := by simp
  have e2 : (gn != gn) = false := by simp
  have e3 : (ok != ok) = false := by simp
  have e4 : ((n : Int) != (n : Int)) = false := by simp
  go_enter Tryd.func3, Tryd.ntmps3
  go_wp2_with fail
  with_reducible refine MC.out.mono ?_
  rintro e w1 ⟨rfl, rfl⟩
  cases mb with
  | true =>
    go_wp2_with fail
    with_reducible refine (LV.out _ (by exact (by repeat first | (with_reducible assumption) | (with_reducible exact Keep.refl _ _) | (with_reducible refine Keep.alloc ?_ _) | (with_reducible refine Keep.drew ?_) | (with_reducible refine Keep.drewN ?_ _) | (with_reducible refine Keep.setCell ?_ (.inl (by first | omega | (simp; done) | (simp; omega) | fail)) _)))).mono ?_
    rintro e w2 ⟨rfl, hb2⟩
    have H2 := Lib.hid hb2
    clear hb2
    go_wp2
    go_ret
    exact ⟨rfl, H2.out⟩
  | false =>
    by_cases h100 : 100 < nd
    · have f1 : (100 : Int) < (nd : Int) := by omega
      go_wp2_with fail
      with_reducible refine (LV.out _ (by exact (by repeat first | (with_reducible assumption) | (with_reducible exact Keep.refl _ _) | (with_reducible refine Keep.alloc ?_ _) | (with_reducible refine Keep.drew ?_) | (with_reducible refine Keep.drewN ?_ _) | (with_reducible refine Keep.setCell ?_ (.inl (by first | omega | (simp; done) | (simp; omega) | fail)) _)))).mono ?_
      rintro e w2 ⟨rfl, hb2⟩
      have H2 := Lib.hid hb2
      clear hb2
      go_wp2
      go_ret
      exact ⟨rfl, H2.out⟩
    · have f1 : decide ((100 : Int) < (nd : Int)) = false := decide_eq_false (by omega)
      have n70 := M70.out rfl
      go_wp2_with fail
      with_reducible refine (FF.out _ (by exact (by repeat first | (with_reducible assumption) | (with_reducible exact Keep.refl _ _) | (with_reducible refine Keep.alloc ?_ _) | (with_reducible refine Keep.drew ?_) | (with_reducible refine Keep.drewN ?_ _) | (with_reducible refine Keep.setCell ?_ (.inl (by first | omega | (simp; done) | (simp; omega) | fail)) _))) n70).mono ?_
      rintro e w2 ⟨rfl, hk2⟩
      have K2 := Lib.hid (show Keep (fun _ => False) W w2 from Keep.trans (T := fun _ => False) (by exact (by repeat first | (with_reducible assumption) | (with_reducible exact Keep.refl _ _) | (with_reducible refine Keep.alloc ?_ _) | (with_reducible refine Keep.drew ?_) | (with_reducible refine Keep.drewN ?_ _) | (with_reducible refine Keep.setCell ?_ (.inl (by first | omega | (simp; done) | (simp; omega) | fail)) _))) hk2 (fun _ _ h => h))
      clear hk2
      go_wp2_with fail
      with_reducible refine (RF.out _ (by exact Keep.trans (T := fun _ => False) K2.out (by exact (by repeat first | (with_reducible assumption) | (with_reducible exact Keep.refl _ _) | (with_reducible refine Keep.alloc ?_ _) | (with_reducible refine Keep.drew ?_) | (with_reducible refine Keep.drewN ?_ _) | (with_reducible refine Keep.setCell ?_ (.inl (by first | omega | (simp; done) | (simp; omega) | fail)) _))) (fun _ _ h => h)) n70).mono ?_
      rintro e w3 ⟨rfl, hk3⟩
      have K3 := Lib.hid (show Keep (fun _ => False) W w3 ∧ w3.heap[w2.heap.size]? = some (.cells #[.int .i64 ix, .int .i64 gn] 27 (0, 0)) from ⟨K2.out.trans (Keep.trans (T := fun _ => False) (by exact (by repeat first | (with_reducible assumption) | (with_reducible exact Keep.refl _ _) | (with_reducible refine Keep.alloc ?_ _) | (with_reducible refine Keep.drew ?_) | (with_reducible refine Keep.drewN ?_ _) | (with_reducible refine Keep.setCell ?_ (.inl (by first | omega | (simp; done) | (simp; omega) | fail)) _))) hk3 (fun _ _ h => h)) (fun _ _ h => h), (hk3.block w2.heap.size (by simp) (fun h => h)).trans (heap_alloc_new w2 _)⟩)
      clear hk3
      go_wp2_with fail
      with_reducible refine (fl_core_nil A n c n70 _).mono ?_
      rintro e w4 ⟨A4, c4, rfl, ho4, hk4⟩
      have K4 := Lib.hid (show Keep (fun _ => False) W w4 ∧ w4.heap[w2.heap.size]? = some (.cells #[.int .i64 ix, .int .i64 gn] 27 (0, 0)) ∧ w4.heap[w3.heap.size]? = some (.cells #[.int .i64 ix, .int .i64 gn] 27 (0, 0)) from ⟨K3.out.1.trans (Keep.trans (T := fun _ => False) (by exact (by repeat first | (with_reducible assumption) | (with_reducible exact Keep.refl _ _) | (with_reducible refine Keep.alloc ?_ _) | (with_reducible refine Keep.drew ?_) | (with_reducible refine Keep.drewN ?_ _) | (with_reducible refine Keep.setCell ?_ (.inl (by first | omega | (simp; done) | (simp; omega) | fail)) _))) hk4 (fun _ _ h => h)) (fun _ _ h => h), (hk4.block w2.heap.size (by have := (Array.getElem?_eq_some_iff.1 K3.out.2).1; simp; omega) (fun h => h)).trans ((((Keep.refl (fun _ => False) w3).alloc _).block w2.heap.size (Array.getElem?_eq_some_iff.1 K3.out.2).1 (fun h => h)).trans K3.out.2), (hk4.block w3.heap.size (by simp) (fun h => h)).trans (heap_alloc_new w3 _)⟩)
      have O4 := Lib.hid (show Sl w4 (fun _ => True) 3 (.slice A4 n c4) n ((List.replicate n nilR).flatMap rsC) from ho4.sl.mono (fun _ _ _ => trivial))
      clear ho4 hk4
      obtain ⟨x0, x1, xf⟩ := cells2 K4.out.2.1
      obtain ⟨y0, y1, yf⟩ := cells2 K4.out.2.2
      go_wp2
      go_loopw [12] (fun i wr => ∃ j : Nat, j ≤ n ∧ i = .int .i64 j ∧ w4 = wr) (fun i _ => n - (intOf i).toNat)
      case atStart => exact ⟨0, by omega, rfl, rfl⟩
      case round =>
        obtain ⟨j, hj, rfl, rfl⟩ := hrel
        by_cases hlt : j < n
        · have hi : (j : Int) < (n : Int) := by omega
          have hi0 : (0 : Int) ≤ (j : Int) := by omega
          obtain ⟨br, orr, rfl, -, s0, s1, s2⟩ := rs_at O4.out (List.length_replicate ..) hlt
          have en : (List.replicate n nilR).getD j default = nilR := by
            rw [List.getD_eq_getElem?_getD, List.getElem?_replicate, if_pos hlt]; rfl
          rw [en] at s0 s1 s2
          simp only [nilR] at s0 s1 s2
          go_wp2
          go_roundw
          case rel => exact ⟨j + 1, by omega, by go_num, by first | rfl | trivial⟩
          case measure => simp [intOf]; omega
        · have hi : ¬ (j : Int) < (n : Int) := by omega
          go_wp2_with fail
          with_reducible refine (LV.out _ K4.out.1).mono ?_
          rintro e w5 ⟨rfl, hb5⟩
          have H5 := Lib.hid hb5
          clear hb5
          go_wp2
          go_ret
          exact ⟨rfl, ((K4.out.1.mono (T := fun b => W.heap.size ≤ b) (fun _ _ h => h.elim)).to_below (Nat.le_refl _)).trans (H5.out.mono (by have := K4.out.1.size; omega))⟩
end Go.Proofs.YtglliendhbkkhaaDoor

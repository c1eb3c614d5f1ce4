/- Contracts of flow.Find, vivariumref22.Find, Order, Much. -/
import Derived.Test.YtdeifjnhbdkkgaaGreatDoorFw2
import Derived.Test.YtdeifjnhbdkkgaaGreatDoorCol1
namespace Go.Proofs.YtdeifjnhbdkkgaaGreatDoor
open Go.RowKit
set_option maxRecDepth 100000
set_option linter.unusedVariables false
set_option linter.unusedSimpArgs false

theorem findW_at {l : List FwZ} {k : KyZ} {j : Nat} {x : FwZ} (h : l[j]? = some x) (hx : x.key = k) (hb : ∀ (i : Nat) (y : FwZ), i < j → l[i]? = some y → y.key ≠ k) : findW l k = (x.data, true) := by
  unfold findW
  have : l.find? (fun e => decide (e.key = k)) = some x := by
    rw [List.find?_eq_some_iff_getElem]
    refine ⟨decide_eq_true hx, j, (List.getElem?_eq_some_iff.1 h).1, (List.getElem?_eq_some_iff.1 h).2, fun i hi => ?_⟩
    have hl := (List.getElem?_eq_some_iff.1 h).1
    have := hb i _ hi (List.getElem?_eq_getElem (by omega))
    simpa using this
  rw [this]
theorem findW_no {l : List FwZ} {k : KyZ} (hb : ∀ (i : Nat) (y : FwZ), l[i]? = some y → y.key ≠ k) : findW l k = ([], false) := by
  unfold findW
  have : l.find? (fun e => decide (e.key = k)) = none := by
    rw [List.find?_eq_none]
    intro x hx
    obtain ⟨i, hi⟩ := List.getElem?_of_mem hx
    have := hb i x hi
    simpa using this
  rw [this]
set_option maxHeartbeats 1000000 in
theorem ref_find (l : List FwZ) (k : KyZ) (v : Value) (F : Nat → Prop) (w : World) (hv : NS fwN w F v l) :
    Calls Tryz.prog 7 #[v, kyV k] w fun e w' => ∃ A n c, e = .returned (.tuple #[.slice A n c, .bool (findW l k).2]) ∧ By w' F (.slice A n c) (findW l k).1 ∧ Keep (fun _ => False) w w' := by
  have HV := Lib.hid hv
  obtain ⟨Al, cl, rfl, hcl, hnl⟩ := hv.form
  unfold maxLen at hcl
  obtain ⟨R, hR⟩ : ∃ R, findW l k = R := ⟨_, rfl⟩
  rw [hR]
  have YES := Lib.hid (show ∀ (j : Nat) (x : FwZ), l[j]? = some x → x.key = k → (∀ (i : Nat) (y : FwZ), i < j → l[i]? = some y → y.key ≠ k) → R = (x.data, true) from fun j x h1 h2 h3 => by rw [← hR]; exact findW_at h1 h2 h3)
  have NO := Lib.hid (show (∀ (i : Nat) (y : FwZ), l[i]? = some y → y.key ≠ k) → R = ([], false) from fun h => by rw [← hR]; exact findW_no h)
  obtain ⟨n, hn⟩ : ∃ n, l.length = n := ⟨_, rfl⟩
  have HN := Lib.hid hn
  rw [hn] at HV hnl ⊢
  clear hn hR hv
  obtain ⟨kd, sg, cc⟩ := k
  unfold kyV
  simp only
  have XB := Lib.hid (heap_alloc_new w (.cells #[.int .i64 kd, .int .u64 (sg : Int), .int .i64 cc] 24 (0, 0)))
  go_enter Tryz.func7, Tryz.ntmps7
  go_upto_region 1 with fail
  refine wp_world (S := fun X => X.heap[w.heap.size]? = some (.cells #[.int .i64 kd, .int .u64 (sg : Int), .int .i64 cc] 24 (0, 0)) ∧ Keep (fun _ => False) w X) ⟨XB.out, (by repeat first | (with_reducible assumption) | (with_reducible exact Keep.refl _ _) | (with_reducible refine Keep.alloc ?_ _) | (with_reducible refine Keep.drew ?_) | (with_reducible refine Keep.drewN ?_ _) | (with_reducible refine Keep.setCell ?_ (.inl (by first | omega | (simp; done) | (simp; omega) | fail)) _))⟩ ?_
  rintro X ⟨hx1, hx2⟩
  have HX := Lib.hid (And.intro hx1 hx2)
  clear hx1 hx2 XB
  go_wp2
  go_loopw [6] (fun i wr => ∃ j : Nat, j ≤ n ∧ i = .int .i64 (j : Int) ∧ Hid (Keep (fun _ => False) X wr) ∧ Hid (∀ (i : Nat) (y : FwZ), i < j → l[i]? = some y → y.key ≠ ⟨kd, sg, cc⟩)) (fun i _ => n - (intOf i).toNat)
  case atStart => exact ⟨0, by omega, rfl, Lib.hid (Keep.refl _ _), Lib.hid (fun i y h => by omega)⟩
  case round =>
    obtain ⟨j, hj, rfl, hkw, hb⟩ := hrel
    have K := Lib.hid (HX.out.2.trans hkw.out (fun _ _ h => h))
    obtain ⟨y0, y1, y2, yf⟩ := cells3 ((hkw.out.block w.heap.size (Array.getElem?_eq_some_iff.1 HX.out.1).1 (fun h => h)).trans HX.out.1)
    by_cases hlt : j < n
    · have f1 : (j : Int) < (n : Int) := by omega
      have f0 : (0 : Int) ≤ (j : Int) := by omega
      obtain ⟨b, off, x, d, rfl, -, hx, hin, hc⟩ := NS.at_ (HV.out.same K.out) hlt
      have g0 := hc 0 _ rfl
      have g1 := hc 1 _ rfl
      have g2 := hc 2 _ rfl
      have g3 := hc 3 _ rfl
      simp only [show fwN.m = 4 from rfl, Nat.add_zero] at g0 g1 g2 g3
      have Y1 := Lib.hid (YES.out j x hx)
      have HD := Lib.hid (show By wr F d x.data from hin)
      obtain ⟨A9, c9, rfl, -⟩ := HD.out
      have B1 := Lib.hid (show x.key ≠ ⟨kd, sg, cc⟩ → ∀ (i : Nat) (y : FwZ), i < j + 1 → l[i]? = some y → y.key ≠ ⟨kd, sg, cc⟩ from fun hne i y hi hy => by
        rcases Nat.lt_or_ge i j with h | h
        · exact hb.out i y h hy
        · obtain rfl : i = j := by omega
          rw [hx] at hy
          injection hy with hy
          rw [← hy]; exact hne)
      obtain ⟨⟨kd2, sg2, cc2⟩, dat⟩ := x
      simp only at g0 g1 g2 g3 Y1 B1 HD
      generalize dat.length = nd at *
      clear hc hx hin
      have CE := Lib.hid (show ∀ W', Keep (fun _ => False) wr W' → ((W'.cell? ⟨w.heap.size, 0, none⟩ = some (.int .i64 kd) ∧ W'.cell? ⟨w.heap.size, 1, none⟩ = some (.int .u64 (sg : Int)) ∧ W'.cell? ⟨w.heap.size, 2, none⟩ = some (.int .i64 cc)) ∧ (W'.cell? ⟨b, off + j * 4, none⟩ = some (.int .i64 kd2) ∧ W'.cell? ⟨b, off + j * 4 + 1, none⟩ = some (.int .u64 (sg2 : Int)) ∧ W'.cell? ⟨b, off + j * 4 + 2, none⟩ = some (.int .i64 cc2) ∧ W'.cell? ⟨b, off + j * 4 + 3, none⟩ = some (.slice A9 nd c9)) ∧ Keep (fun _ => False) wr W') from fun W' hk => ⟨⟨hk.cell (fun h => h) y0, hk.cell (fun h => h) y1, hk.cell (fun h => h) y2⟩, ⟨hk.cell (fun h => h) g0, hk.cell (fun h => h) g1, hk.cell (fun h => h) g2, hk.cell (fun h => h) g3⟩, hk⟩)
      by_cases he : (⟨kd2, sg2, cc2⟩ : KyZ) = ⟨kd, sg, cc⟩
      · have RS := Lib.hid (Y1.out he hb.out)
        injection he with he1 he2 he3
        subst he1 he2 he3
        have ex1 : (kd2 == kd2) = true := by simp
        have ex2 : ((sg2 : Int) == (sg2 : Int)) = true := by simp
        have ex3 : (cc2 == cc2) = true := by simp
        go_upto_region 4 with fail
        go_region_held3 (fun W' => ((W'.cell? ⟨w.heap.size, 0, none⟩ = some (.int .i64 kd2) ∧ W'.cell? ⟨w.heap.size, 1, none⟩ = some (.int .u64 (sg2 : Int)) ∧ W'.cell? ⟨w.heap.size, 2, none⟩ = some (.int .i64 cc2)) ∧ (W'.cell? ⟨b, off + j * 4, none⟩ = some (.int .i64 kd2) ∧ W'.cell? ⟨b, off + j * 4 + 1, none⟩ = some (.int .u64 (sg2 : Int)) ∧ W'.cell? ⟨b, off + j * 4 + 2, none⟩ = some (.int .i64 cc2) ∧ W'.cell? ⟨b, off + j * 4 + 3, none⟩ = some (.slice A9 nd c9)) ∧ Keep (fun _ => False) wr W')) (exact CE.out _ (by exact (by repeat first | (with_reducible assumption) | (with_reducible exact Keep.refl _ _) | (with_reducible refine Keep.alloc ?_ _) | (with_reducible refine Keep.drew ?_) | (with_reducible refine Keep.drewN ?_ _) | (with_reducible refine Keep.setCell ?_ (.inl (by first | omega | (simp; done) | (simp; omega) | fail)) _)))) (fail)
        go_wp2
        go_ret2
        exact ⟨A9, nd, c9, by rw [RS.out]; rfl, by rw [RS.out]; exact HD.out.keep (S := fun _ => False) (by exact (by repeat first | (with_reducible assumption) | (with_reducible exact Keep.refl _ _) | (with_reducible refine Keep.alloc ?_ _) | (with_reducible refine Keep.drew ?_) | (with_reducible refine Keep.drewN ?_ _) | (with_reducible refine Keep.setCell ?_ (.inl (by first | omega | (simp; done) | (simp; omega) | fail)) _))) (fun _ _ _ h => h), K.out.trans (T := fun _ => False) (by exact (by repeat first | (with_reducible assumption) | (with_reducible exact Keep.refl _ _) | (with_reducible refine Keep.alloc ?_ _) | (with_reducible refine Keep.drew ?_) | (with_reducible refine Keep.drewN ?_ _) | (with_reducible refine Keep.setCell ?_ (.inl (by first | omega | (simp; done) | (simp; omega) | fail)) _))) (fun _ _ h => h)⟩
      · have B2 := Lib.hid (B1.out he)
        by_cases h1 : kd2 = kd
        · obtain rfl := h1
          have ex1 : (kd2 == kd2) = true := by simp
          by_cases h2 : sg2 = sg
          · obtain rfl := h2
            have ex2 : ((sg2 : Int) == (sg2 : Int)) = true := by simp
            have ex3 : (cc2 == cc) = false := by
              have : cc2 ≠ cc := fun e => he (by rw [e])
              simpa using this
            go_upto_region 4 with fail
            go_region_held3 (fun W' => ((W'.cell? ⟨w.heap.size, 0, none⟩ = some (.int .i64 kd2) ∧ W'.cell? ⟨w.heap.size, 1, none⟩ = some (.int .u64 (sg2 : Int)) ∧ W'.cell? ⟨w.heap.size, 2, none⟩ = some (.int .i64 cc)) ∧ (W'.cell? ⟨b, off + j * 4, none⟩ = some (.int .i64 kd2) ∧ W'.cell? ⟨b, off + j * 4 + 1, none⟩ = some (.int .u64 (sg2 : Int)) ∧ W'.cell? ⟨b, off + j * 4 + 2, none⟩ = some (.int .i64 cc2) ∧ W'.cell? ⟨b, off + j * 4 + 3, none⟩ = some (.slice A9 nd c9)) ∧ Keep (fun _ => False) wr W')) (exact CE.out _ (by exact (by repeat first | (with_reducible assumption) | (with_reducible exact Keep.refl _ _) | (with_reducible refine Keep.alloc ?_ _) | (with_reducible refine Keep.drew ?_) | (with_reducible refine Keep.drewN ?_ _) | (with_reducible refine Keep.setCell ?_ (.inl (by first | omega | (simp; done) | (simp; omega) | fail)) _)))) (fail)
            go_wp2
            go_roundw
            case rel => exact ⟨j + 1, by omega, by go_num, Lib.hid (Keep.trans (T := fun _ => False) hkw.out (by exact (by repeat first | (with_reducible assumption) | (with_reducible exact Keep.refl _ _) | (with_reducible refine Keep.alloc ?_ _) | (with_reducible refine Keep.drew ?_) | (with_reducible refine Keep.drewN ?_ _) | (with_reducible refine Keep.setCell ?_ (.inl (by first | omega | (simp; done) | (simp; omega) | fail)) _))) (fun _ _ h => h)), B2⟩
            case measure => simp [intOf]; omega
          · have ex2 : ((sg2 : Int) == (sg : Int)) = false := by
              have : (sg2 : Int) ≠ (sg : Int) := by omega
              simpa using this
            go_upto_region 4 with fail
            go_region_held3 (fun W' => ((W'.cell? ⟨w.heap.size, 0, none⟩ = some (.int .i64 kd2) ∧ W'.cell? ⟨w.heap.size, 1, none⟩ = some (.int .u64 (sg : Int)) ∧ W'.cell? ⟨w.heap.size, 2, none⟩ = some (.int .i64 cc)) ∧ (W'.cell? ⟨b, off + j * 4, none⟩ = some (.int .i64 kd2) ∧ W'.cell? ⟨b, off + j * 4 + 1, none⟩ = some (.int .u64 (sg2 : Int)) ∧ W'.cell? ⟨b, off + j * 4 + 2, none⟩ = some (.int .i64 cc2) ∧ W'.cell? ⟨b, off + j * 4 + 3, none⟩ = some (.slice A9 nd c9)) ∧ Keep (fun _ => False) wr W')) (exact CE.out _ (by exact (by repeat first | (with_reducible assumption) | (with_reducible exact Keep.refl _ _) | (with_reducible refine Keep.alloc ?_ _) | (with_reducible refine Keep.drew ?_) | (with_reducible refine Keep.drewN ?_ _) | (with_reducible refine Keep.setCell ?_ (.inl (by first | omega | (simp; done) | (simp; omega) | fail)) _)))) (fail)
            go_wp2
            go_roundw
            case rel => exact ⟨j + 1, by omega, by go_num, Lib.hid (Keep.trans (T := fun _ => False) hkw.out (by exact (by repeat first | (with_reducible assumption) | (with_reducible exact Keep.refl _ _) | (with_reducible refine Keep.alloc ?_ _) | (with_reducible refine Keep.drew ?_) | (with_reducible refine Keep.drewN ?_ _) | (with_reducible refine Keep.setCell ?_ (.inl (by first | omega | (simp; done) | (simp; omega) | fail)) _))) (fun _ _ h => h)), B2⟩
            case measure => simp [intOf]; omega
        · have ex1 : (kd2 == kd) = false := by simpa using h1
          go_upto_region 4 with fail
          go_region_held3 (fun W' => ((W'.cell? ⟨w.heap.size, 0, none⟩ = some (.int .i64 kd) ∧ W'.cell? ⟨w.heap.size, 1, none⟩ = some (.int .u64 (sg : Int)) ∧ W'.cell? ⟨w.heap.size, 2, none⟩ = some (.int .i64 cc)) ∧ (W'.cell? ⟨b, off + j * 4, none⟩ = some (.int .i64 kd2) ∧ W'.cell? ⟨b, off + j * 4 + 1, none⟩ = some (.int .u64 (sg2 : Int)) ∧ W'.cell? ⟨b, off + j * 4 + 2, none⟩ = some (.int .i64 cc2) ∧ W'.cell? ⟨b, off + j * 4 + 3, none⟩ = some (.slice A9 nd c9)) ∧ Keep (fun _ => False) wr W')) (exact CE.out _ (by exact (by repeat first | (with_reducible assumption) | (with_reducible exact Keep.refl _ _) | (with_reducible refine Keep.alloc ?_ _) | (with_reducible refine Keep.drew ?_) | (with_reducible refine Keep.drewN ?_ _) | (with_reducible refine Keep.setCell ?_ (.inl (by first | omega | (simp; done) | (simp; omega) | fail)) _)))) (fail)
          go_wp2
          go_roundw
          case rel => exact ⟨j + 1, by omega, by go_num, Lib.hid (Keep.trans (T := fun _ => False) hkw.out (by exact (by repeat first | (with_reducible assumption) | (with_reducible exact Keep.refl _ _) | (with_reducible refine Keep.alloc ?_ _) | (with_reducible refine Keep.drew ?_) | (with_reducible refine Keep.drewN ?_ _) | (with_reducible refine Keep.setCell ?_ (.inl (by first | omega | (simp; done) | (simp; omega) | fail)) _))) (fun _ _ h => h)), B2⟩
          case measure => simp [intOf]; omega
    · obtain rfl : j = n := by omega
      have f1 : ¬ (j : Int) < (j : Int) := by omega
      have RS := Lib.hid (NO.out (fun i y hy => hb.out i y (by have := (List.getElem?_eq_some_iff.1 hy).1; have := HN.out; omega) hy))
      go_wp2
      go_ret2
      exact ⟨none, 0, 0, by rw [RS.out]; rfl, by rw [RS.out]; exact By.nil _ _, K.out⟩
end Go.Proofs.YtdeifjnhbdkkgaaGreatDoor

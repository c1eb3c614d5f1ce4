/- Contract of flow.Order. -/
import Derived.Test.YtdeifjnhbdkkgaaGreatDoorFw5
import Derived.Test.YtdeifjnhbdkkgaaGreatDoorSt1
namespace Go.Proofs.YtdeifjnhbdkkgaaGreatDoor
open Go.RowKit
set_option maxRecDepth 100000
set_option linter.unusedVariables false
set_option linter.unusedSimpArgs false

theorem cmp_intZ (x y : Int) (w : World) : Calls Tryz.prog 20 #[.int .i64 x, .int .i64 y] w fun e w' => e = .returned (.int .i64 (cmpZ x y)) ∧ w = w' := cmp_int x y w
theorem cmp_u64 (x y : Nat) (w : World) : Calls Tryz.prog 22 #[.int .u64 (x : Int), .int .u64 (y : Int)] w fun e w' => e = .returned (.int .i64 (cmpZ (x : Int) (y : Int))) ∧ w = w' := by
  by_cases h1 : (x : Int) < (y : Int)
  · rw [cmpZ_lt h1]
    go_enter Tryz.func22, Tryz.ntmps22
    go_wp2
    go_ret
    exact ⟨rfl, rfl⟩
  · by_cases h2 : (y : Int) < (x : Int)
    · rw [cmpZ_gt h2]
      go_enter Tryz.func22, Tryz.ntmps22
      go_wp2
      go_ret
      exact ⟨rfl, rfl⟩
    · rw [show cmpZ (x : Int) (y : Int) = 0 from (cmpZ_zero _ _).2 (by omega)]
      go_enter Tryz.func22, Tryz.ntmps22
      go_wp2
      go_ret
      exact ⟨rfl, rfl⟩
def orF (l : List Int) : Int := (l.find? (fun x => decide (x ≠ 0))).getD 0
theorem orF_four (a b c d : Int) : orF [a, b, c, d] = orK a b c d := by
  unfold orF orK
  by_cases h1 : a = 0
  · by_cases h2 : b = 0
    · by_cases h3 : c = 0
      · by_cases h4 : d = 0 <;> simp [h1, h2, h3, h4, List.find?]
      · simp [h1, h2, h3, List.find?]
    · simp [h1, h2, List.find?]
  · simp [h1, List.find?]
theorem cmp_or (l : List Int) (u : Value) (F : Nat → Prop) (w : World) (hu : Sl w F 1 u l.length (iv l)) :
    Calls Tryz.prog 19 #[u] w fun e w' => e = .returned (.int .i64 (orF l)) ∧ w = w' := by
  have HU := Lib.hid hu
  obtain ⟨A, c, rfl, h1, h2, -⟩ := hu
  unfold maxLen at h2
  obtain ⟨r, hr⟩ : ∃ r, orF l = r := ⟨_, rfl⟩
  rw [hr]
  obtain ⟨n, hn⟩ : ∃ n, l.length = n := ⟨_, rfl⟩
  have HN := Lib.hid hn
  have YES := Lib.hid (show ∀ k, k < n → l.getD k 0 ≠ 0 → (∀ j, j < k → l.getD j 0 = 0) → r = l.getD k 0 from fun k hk he hb => by
    rw [← hr]
    unfold orF
    have : l.find? (fun x => decide (x ≠ 0)) = some (l.getD k 0) := by
      rw [List.getD_eq_getElem?_getD, List.getElem?_eq_getElem (by omega)] at he ⊢
      rw [List.find?_eq_some_iff_getElem]
      refine ⟨decide_eq_true he, k, by omega, rfl, fun j hj => ?_⟩
      have := hb j hj
      rw [List.getD_eq_getElem?_getD, List.getElem?_eq_getElem (by omega)] at this
      have h9 : l[j] = 0 := this
      simp [h9]
    rw [this]; rfl)
  have NO := Lib.hid (show (∀ j, j < n → l.getD j 0 = 0) → r = 0 from fun hb => by
    rw [← hr]
    unfold orF
    have : l.find? (fun x => decide (x ≠ 0)) = none := by
      rw [List.find?_eq_none]
      intro x hx
      obtain ⟨j, hj, rfl⟩ := List.getElem_of_mem hx
      have := hb j (by omega)
      rw [List.getD_eq_getElem?_getD, List.getElem?_eq_getElem hj] at this
      have h9 : l[j] = 0 := this
      simp [h9]
    rw [this]; rfl)
  rw [hn] at HU h1 ⊢
  clear hn hr
  go_enter Tryz.func19, Tryz.ntmps19
  go_wp2
  go_loopw [8] (fun i wr => ∃ (k : Nat), k ≤ n ∧ i = .int .i64 k ∧ w = wr ∧ Hid (∀ j, j < k → l.getD j 0 = 0)) (fun i _ => n - (intOf i).toNat)
  case atStart => exact ⟨0, by omega, rfl, rfl, Lib.hid (fun j h => by omega)⟩
  case round =>
    obtain ⟨k, hk, rfl, rfl, hb⟩ := hrel
    by_cases hlt : k < n
    · have hi : (k : Int) < (n : Int) := by omega
      have h0 : (0 : Int) ≤ (k : Int) := by omega
      obtain ⟨b, off, rfl, -, f1⟩ := nums_at HU.out HN.out hlt
      by_cases he : l.getD k 0 = 0
      · have B1 := Lib.hid (show ∀ j, j < k + 1 → l.getD j 0 = 0 from fun j hj => by
          rcases Nat.lt_or_ge j k with h | h
          · exact hb.out j h
          · obtain rfl : j = k := by omega
            exact he)
        rw [he] at f1
        clear he
        go_wp2
        go_roundw
        case rel => exact ⟨k + 1, by omega, by go_num, by first | rfl | trivial, B1⟩
        case measure => simp [intOf]; omega
      · have Y := Lib.hid (YES.out k hlt he hb.out)
        have ex : (l.getD k 0 != 0) = true := by simpa using he
        clear he
        generalize l.getD k 0 = z at *
        go_wp2
        go_ret
        exact ⟨congrArg (fun z => Ending.returned (Value.int .i64 z)) Y.out.symm, rfl⟩
    · obtain rfl : k = n := by omega
      have hi : ¬ (k : Int) < (k : Int) := by omega
      have Y := Lib.hid (NO.out hb.out)
      go_wp2
      go_ret
      exact ⟨congrArg (fun z => Ending.returned (Value.int .i64 z)) Y.out.symm, rfl⟩
theorem sl_lit4 (w : World) (a b c d : Int) (t : TypeId) : Sl (w.alloc (.cells #[.int .i64 a, .int .i64 b, .int .i64 c, .int .i64 d] t (0, 0))) (fun k => k = w.heap.size) 1 (.slice (some ⟨w.heap.size, 0, none⟩) 4 4) [a, b, c, d].length (iv [a, b, c, d]) :=
  ⟨_, 4, rfl, Nat.le_refl _, by unfold maxLen; decide, (fun e => by cases e), Rd.lit w t [.int .i64 a, .int .i64 b, .int .i64 c, .int .i64 d]⟩
set_option maxHeartbeats 2000000 in
theorem flow_order (a b : KyZ) (w : World) : Calls Tryz.prog 10 #[kyV a, kyV b] w fun e w' => e = .returned (.int .i64 (orderK a b)) ∧ Keep (fun _ => False) w w' := by
  have RA := Lib.hid (fun X => flow_rank a X)
  have RB := Lib.hid (fun X => flow_rank b X)
  have C1 := Lib.hid (fun X => cmp_intZ (rankK a) (rankK b) X)
  have C2 := Lib.hid (fun X => cmp_u64 a.sig b.sig X)
  have C3 := Lib.hid (fun X => cmp_intZ a.kind b.kind X)
  have C4 := Lib.hid (fun X => cmp_intZ a.comp b.comp X)
  unfold orderK
  rw [← orF_four]
  unfold kyV at *
  obtain ⟨k1, s1, c1⟩ := a
  obtain ⟨k2, s2, c2⟩ := b
  simp only at *
  generalize rankK ⟨k1, s1, c1⟩ = r1 at *
  generalize rankK ⟨k2, s2, c2⟩ = r2 at *
  have OR := Lib.hid (fun X u F hu => cmp_or [cmpZ r1 r2, cmpZ (s1 : Int) (s2 : Int), cmpZ k1 k2, cmpZ c1 c2] u F X hu)
  generalize cmpZ r1 r2 = z1 at *
  generalize cmpZ (s1 : Int) (s2 : Int) = z2 at *
  generalize cmpZ k1 k2 = z3 at *
  generalize cmpZ c1 c2 = z4 at *
  go_enter Tryz.func10, Tryz.ntmps10
  go_upto_region 1 with fail
  refine wp_world (S := fun X => X.heap[w.heap.size]? = some (.cells #[.int .i64 k1, .int .u64 (s1 : Int), .int .i64 c1] 24 (0, 0)) ∧ X.heap[w.heap.size + 1]? = some (.cells #[.int .i64 k2, .int .u64 (s2 : Int), .int .i64 c2] 24 (0, 0)) ∧ Keep (fun _ => False) w X) ⟨(by (try simp only [heap_drew']); (try simp only [World.heap_drewN]); repeat (first | exact heap_alloc_at _ _ _ (by first | rfl | simp) | rw [Below.heap_alloc _ _ _ (by first | (simp; done) | (simp; omega))])), (by (try simp only [heap_drew']); (try simp only [World.heap_drewN]); repeat (first | exact heap_alloc_at _ _ _ (by first | rfl | simp) | rw [Below.heap_alloc _ _ _ (by first | (simp; done) | (simp; omega))])), by exact (by repeat first | (with_reducible assumption) | (with_reducible exact Keep.refl _ _) | (with_reducible refine Keep.alloc ?_ _) | (with_reducible refine Keep.drew ?_) | (with_reducible refine Keep.drewN ?_ _) | (with_reducible refine Keep.setCell ?_ (.inl (by first | omega | (simp; done) | (simp; omega) | fail)) _))⟩ ?_
  rintro X ⟨b1, b2, hkX⟩
  have HX := Lib.hid hkX
  obtain ⟨x0, x1, x2, xf⟩ := cells3 b1
  obtain ⟨y0, y1, y2, yf⟩ := cells3 b2
  have CE := Lib.hid (show ∀ W', Keep (fun _ => False) X W' → ((W'.cell? ⟨w.heap.size, 0, none⟩ = some (.int .i64 k1) ∧ W'.cell? ⟨w.heap.size, 1, none⟩ = some (.int .u64 (s1 : Int)) ∧ W'.cell? ⟨w.heap.size, 2, none⟩ = some (.int .i64 c1)) ∧ (W'.cell? ⟨w.heap.size + 1, 0, none⟩ = some (.int .i64 k2) ∧ W'.cell? ⟨w.heap.size + 1, 1, none⟩ = some (.int .u64 (s2 : Int)) ∧ W'.cell? ⟨w.heap.size + 1, 2, none⟩ = some (.int .i64 c2)) ∧ Keep (fun _ => False) X W') from fun W' hk => ⟨⟨hk.cell (fun h => h) x0, hk.cell (fun h => h) x1, hk.cell (fun h => h) x2⟩, ⟨hk.cell (fun h => h) y0, hk.cell (fun h => h) y1, hk.cell (fun h => h) y2⟩, hk⟩)
  clear b1 b2 hkX
  go_region_held3 (fun W' => ((W'.cell? ⟨w.heap.size, 0, none⟩ = some (.int .i64 k1) ∧ W'.cell? ⟨w.heap.size, 1, none⟩ = some (.int .u64 (s1 : Int)) ∧ W'.cell? ⟨w.heap.size, 2, none⟩ = some (.int .i64 c1)) ∧ (W'.cell? ⟨w.heap.size + 1, 0, none⟩ = some (.int .i64 k2) ∧ W'.cell? ⟨w.heap.size + 1, 1, none⟩ = some (.int .u64 (s2 : Int)) ∧ W'.cell? ⟨w.heap.size + 1, 2, none⟩ = some (.int .i64 c2)) ∧ Keep (fun _ => False) X W')) (exact CE.out _ (by exact (by repeat first | (with_reducible assumption) | (with_reducible exact Keep.refl _ _) | (with_reducible refine Keep.alloc ?_ _) | (with_reducible refine Keep.drew ?_) | (with_reducible refine Keep.drewN ?_ _) | (with_reducible refine Keep.setCell ?_ (.inl (by first | omega | (simp; done) | (simp; omega) | fail)) _)))) (first
    | (go_at_call 21; (first | (with_reducible refine (RA.out _).mono ?_) | (with_reducible refine (RB.out _).mono ?_)); rintro e w4 ⟨rfl, hk4⟩; have k4 : Keep (fun _ => False) X w4 := Keep.trans (T := fun _ => False) (by exact (by repeat first | (with_reducible assumption) | (with_reducible exact Keep.refl _ _) | (with_reducible refine Keep.alloc ?_ _) | (with_reducible refine Keep.drew ?_) | (with_reducible refine Keep.drewN ?_ _) | (with_reducible refine Keep.setCell ?_ (.inl (by first | omega | (simp; done) | (simp; omega) | fail)) _))) hk4 (fun _ _ h => h); clear hk4)
    | (go_at_call 20; (first | (with_reducible refine (C1.out _).mono ?_) | (with_reducible refine (C3.out _).mono ?_) | (with_reducible refine (C4.out _).mono ?_)); rintro e w5 ⟨rfl, rfl⟩)
    | (go_at_call 22; (with_reducible refine (C2.out _).mono ?_); rintro e w5 ⟨rfl, rfl⟩)
    | (go_at_call 19; (with_reducible refine (OR.out _ _ _ (sl_lit4 _ z1 z2 z3 z4 _)).mono ?_); rintro e w6 ⟨rfl, rfl⟩)
    | fail)
  go_wp2
  go_ret
  exact ⟨rfl, HX.out.trans (T := fun _ => False) (by exact (by repeat first | (with_reducible assumption) | (with_reducible exact Keep.refl _ _) | (with_reducible refine Keep.alloc ?_ _) | (with_reducible refine Keep.drew ?_) | (with_reducible refine Keep.drewN ?_ _) | (with_reducible refine Keep.setCell ?_ (.inl (by first | omega | (simp; done) | (simp; omega) | fail)) _))) (fun _ _ h => h)⟩
end Go.Proofs.YtdeifjnhbdkkgaaGreatDoor

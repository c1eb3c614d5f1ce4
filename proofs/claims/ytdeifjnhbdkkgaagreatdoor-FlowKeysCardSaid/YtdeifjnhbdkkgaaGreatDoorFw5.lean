/- Contracts of vivariumref22.Order, flow.Order. -/
import Derived.Test.YtdeifjnhbdkkgaaGreatDoorFw4
import Derived.Test.YtdeifjnhbdkkgaaGreatDoorSort
import Derived.Deep.RegionHeld3
namespace Go.Proofs.YtdeifjnhbdkkgaaGreatDoor
open Go.RowKit
set_option maxRecDepth 100000
set_option linter.unusedVariables false
set_option linter.unusedSimpArgs false

set_option maxHeartbeats 2000000 in
theorem ref_order (a b : KyZ) (w : World) : Calls Tryz.prog 12 #[kyV a, kyV b] w fun e w' => e = .returned (.int .i64 (orderR a b)) ∧ Keep (fun _ => False) w w' := by
  obtain ⟨r, hr⟩ : ∃ r, orderR a b = r := ⟨_, rfl⟩
  rw [hr]
  obtain ⟨k1, s1, c1⟩ := a
  obtain ⟨k2, s2, c2⟩ := b
  unfold kyV
  simp only
  unfold orderR at hr
  dsimp only at hr
  have HH := Lib.hid hr
  clear hr
  by_cases h1 : k1 = k2
  · subst h1
    have ex1 : (k1 == k1) = true := by simp
    by_cases h2 : s1 = s2
    · subst h2
      have ex2 : ((s1 : Int) == (s1 : Int)) = true := by simp
      by_cases h3 : c1 = c2
      · subst h3
        have ex3 : (c1 == c1) = true := by simp
        obtain ⟨x0, x1, x2, xf⟩ := cells3 ((((Keep.refl (fun _ => False) _).alloc (.cells #[.int .i64 k1, .int .u64 (s1 : Int), .int .i64 c1] 24 (0, 0))).block w.heap.size (by simp) (fun h => h)).trans (heap_alloc_new w (.cells #[.int .i64 k1, .int .u64 (s1 : Int), .int .i64 c1] 24 (0, 0))))
        obtain ⟨y0, y1, y2, yf⟩ := cells3 (heap_alloc_at (w.alloc (.cells #[.int .i64 k1, .int .u64 (s1 : Int), .int .i64 c1] 24 (0, 0))) (.cells #[.int .i64 k1, .int .u64 (s1 : Int), .int .i64 c1] 24 (0, 0)) (w.heap.size + 1) (by simp))
        have RS := Lib.hid (show r = 0 from by rw [← HH.out]; rw [if_pos rfl])
        clear HH
        go_enter Tryz.func12, Tryz.ntmps12
        go_wp2
        go_ret
        exact ⟨congrArg (fun z => Ending.returned (Value.int .i64 z)) RS.out.symm, (by repeat first | (with_reducible assumption) | (with_reducible exact Keep.refl _ _) | (with_reducible refine Keep.alloc ?_ _) | (with_reducible refine Keep.drew ?_) | (with_reducible refine Keep.drewN ?_ _) | (with_reducible refine Keep.setCell ?_ (.inl (by first | omega | (simp; done) | (simp; omega) | fail)) _))⟩
      · have hne := Lib.hid (show ¬ ((⟨k1, s1, c1⟩ : KyZ) = ⟨k1, s1, c2⟩) from fun e => by injection e with e1 e2 e3; exact h3 e3)
        have ex3 : (c1 == c2) = false := by simpa using h3
        obtain ⟨x0, x1, x2, xf⟩ := cells3 ((((Keep.refl (fun _ => False) _).alloc (.cells #[.int .i64 k1, .int .u64 (s1 : Int), .int .i64 c2] 24 (0, 0))).block w.heap.size (by simp) (fun h => h)).trans (heap_alloc_new w (.cells #[.int .i64 k1, .int .u64 (s1 : Int), .int .i64 c1] 24 (0, 0))))
        obtain ⟨y0, y1, y2, yf⟩ := cells3 (heap_alloc_at (w.alloc (.cells #[.int .i64 k1, .int .u64 (s1 : Int), .int .i64 c1] 24 (0, 0))) (.cells #[.int .i64 k1, .int .u64 (s1 : Int), .int .i64 c2] 24 (0, 0)) (w.heap.size + 1) (by simp))
        by_cases g : k1 < 2
        · have RS := Lib.hid (show r = 1 from by rw [← HH.out]; rw [if_neg hne.out, if_pos (.inl g), if_neg (by omega)])
          clear HH
          go_enter Tryz.func12, Tryz.ntmps12
          go_wp2
          go_ret
          exact ⟨congrArg (fun z => Ending.returned (Value.int .i64 z)) RS.out.symm, (by repeat first | (with_reducible assumption) | (with_reducible exact Keep.refl _ _) | (with_reducible refine Keep.alloc ?_ _) | (with_reducible refine Keep.drew ?_) | (with_reducible refine Keep.drewN ?_ _) | (with_reducible refine Keep.setCell ?_ (.inl (by first | omega | (simp; done) | (simp; omega) | fail)) _))⟩
        · by_cases hc : c1 < c2
          · have RS := Lib.hid (show r = -1 from by rw [← HH.out]; rw [if_neg hne.out, if_neg (by omega), if_pos (.inr ⟨rfl, .inr ⟨rfl, hc⟩⟩)])
            clear HH
            go_enter Tryz.func12, Tryz.ntmps12
            go_wp2
            go_ret
            exact ⟨congrArg (fun z => Ending.returned (Value.int .i64 z)) RS.out.symm, (by repeat first | (with_reducible assumption) | (with_reducible exact Keep.refl _ _) | (with_reducible refine Keep.alloc ?_ _) | (with_reducible refine Keep.drew ?_) | (with_reducible refine Keep.drewN ?_ _) | (with_reducible refine Keep.setCell ?_ (.inl (by first | omega | (simp; done) | (simp; omega) | fail)) _))⟩
          · have RS := Lib.hid (show r = 1 from by rw [← HH.out]; rw [if_neg hne.out, if_neg (by omega), if_neg (by omega)])
            clear HH
            go_enter Tryz.func12, Tryz.ntmps12
            go_wp2
            go_ret
            exact ⟨congrArg (fun z => Ending.returned (Value.int .i64 z)) RS.out.symm, (by repeat first | (with_reducible assumption) | (with_reducible exact Keep.refl _ _) | (with_reducible refine Keep.alloc ?_ _) | (with_reducible refine Keep.drew ?_) | (with_reducible refine Keep.drewN ?_ _) | (with_reducible refine Keep.setCell ?_ (.inl (by first | omega | (simp; done) | (simp; omega) | fail)) _))⟩
    · have hne := Lib.hid (show ¬ ((⟨k1, s1, c1⟩ : KyZ) = ⟨k1, s2, c2⟩) from fun e => by injection e with e1 e2 e3; exact h2 e2)
      have ex2 : ((s1 : Int) == (s2 : Int)) = false := by
        have : (s1 : Int) ≠ (s2 : Int) := by omega
        simpa using this
      obtain ⟨x0, x1, x2, xf⟩ := cells3 ((((Keep.refl (fun _ => False) _).alloc (.cells #[.int .i64 k1, .int .u64 (s2 : Int), .int .i64 c2] 24 (0, 0))).block w.heap.size (by simp) (fun h => h)).trans (heap_alloc_new w (.cells #[.int .i64 k1, .int .u64 (s1 : Int), .int .i64 c1] 24 (0, 0))))
      obtain ⟨y0, y1, y2, yf⟩ := cells3 (heap_alloc_at (w.alloc (.cells #[.int .i64 k1, .int .u64 (s1 : Int), .int .i64 c1] 24 (0, 0))) (.cells #[.int .i64 k1, .int .u64 (s2 : Int), .int .i64 c2] 24 (0, 0)) (w.heap.size + 1) (by simp))
      by_cases g : k1 < 2
      · have RS := Lib.hid (show r = 1 from by rw [← HH.out]; rw [if_neg hne.out, if_pos (.inl g), if_neg (by omega)])
        clear HH
        go_enter Tryz.func12, Tryz.ntmps12
        go_wp2
        go_ret
        exact ⟨congrArg (fun z => Ending.returned (Value.int .i64 z)) RS.out.symm, (by repeat first | (with_reducible assumption) | (with_reducible exact Keep.refl _ _) | (with_reducible refine Keep.alloc ?_ _) | (with_reducible refine Keep.drew ?_) | (with_reducible refine Keep.drewN ?_ _) | (with_reducible refine Keep.setCell ?_ (.inl (by first | omega | (simp; done) | (simp; omega) | fail)) _))⟩
      · by_cases hs : (s1 : Int) < (s2 : Int)
        · have RS := Lib.hid (show r = -1 from by rw [← HH.out]; rw [if_neg hne.out, if_neg (by omega), if_pos (.inl (by omega))])
          clear HH
          go_enter Tryz.func12, Tryz.ntmps12
          go_wp2
          go_ret
          exact ⟨congrArg (fun z => Ending.returned (Value.int .i64 z)) RS.out.symm, (by repeat first | (with_reducible assumption) | (with_reducible exact Keep.refl _ _) | (with_reducible refine Keep.alloc ?_ _) | (with_reducible refine Keep.drew ?_) | (with_reducible refine Keep.drewN ?_ _) | (with_reducible refine Keep.setCell ?_ (.inl (by first | omega | (simp; done) | (simp; omega) | fail)) _))⟩
        · have RS := Lib.hid (show r = 1 from by rw [← HH.out]; rw [if_neg hne.out, if_neg (by omega), if_neg (by omega)])
          clear HH
          go_enter Tryz.func12, Tryz.ntmps12
          go_wp2
          go_ret
          exact ⟨congrArg (fun z => Ending.returned (Value.int .i64 z)) RS.out.symm, (by repeat first | (with_reducible assumption) | (with_reducible exact Keep.refl _ _) | (with_reducible refine Keep.alloc ?_ _) | (with_reducible refine Keep.drew ?_) | (with_reducible refine Keep.drewN ?_ _) | (with_reducible refine Keep.setCell ?_ (.inl (by first | omega | (simp; done) | (simp; omega) | fail)) _))⟩
  · have hne := Lib.hid (show ¬ ((⟨k1, s1, c1⟩ : KyZ) = ⟨k2, s2, c2⟩) from fun e => by injection e with e1 e2 e3; exact h1 e1)
    have ex1 : (k1 == k2) = false := by simpa using h1
    obtain ⟨x0, x1, x2, xf⟩ := cells3 ((((Keep.refl (fun _ => False) _).alloc (.cells #[.int .i64 k2, .int .u64 (s2 : Int), .int .i64 c2] 24 (0, 0))).block w.heap.size (by simp) (fun h => h)).trans (heap_alloc_new w (.cells #[.int .i64 k1, .int .u64 (s1 : Int), .int .i64 c1] 24 (0, 0))))
    obtain ⟨y0, y1, y2, yf⟩ := cells3 (heap_alloc_at (w.alloc (.cells #[.int .i64 k1, .int .u64 (s1 : Int), .int .i64 c1] 24 (0, 0))) (.cells #[.int .i64 k2, .int .u64 (s2 : Int), .int .i64 c2] 24 (0, 0)) (w.heap.size + 1) (by simp))
    by_cases g : k1 < 2
    · by_cases hk : k1 < k2
      · have RS := Lib.hid (show r = -1 from by rw [← HH.out]; rw [if_neg hne.out, if_pos (.inl g), if_pos hk])
        clear HH
        go_enter Tryz.func12, Tryz.ntmps12
        go_wp2
        go_ret
        exact ⟨congrArg (fun z => Ending.returned (Value.int .i64 z)) RS.out.symm, (by repeat first | (with_reducible assumption) | (with_reducible exact Keep.refl _ _) | (with_reducible refine Keep.alloc ?_ _) | (with_reducible refine Keep.drew ?_) | (with_reducible refine Keep.drewN ?_ _) | (with_reducible refine Keep.setCell ?_ (.inl (by first | omega | (simp; done) | (simp; omega) | fail)) _))⟩
      · have RS := Lib.hid (show r = 1 from by rw [← HH.out]; rw [if_neg hne.out, if_pos (.inl g), if_neg hk])
        clear HH
        go_enter Tryz.func12, Tryz.ntmps12
        go_wp2
        go_ret
        exact ⟨congrArg (fun z => Ending.returned (Value.int .i64 z)) RS.out.symm, (by repeat first | (with_reducible assumption) | (with_reducible exact Keep.refl _ _) | (with_reducible refine Keep.alloc ?_ _) | (with_reducible refine Keep.drew ?_) | (with_reducible refine Keep.drewN ?_ _) | (with_reducible refine Keep.setCell ?_ (.inl (by first | omega | (simp; done) | (simp; omega) | fail)) _))⟩
    · by_cases g2 : k2 < 2
      · have hk : ¬ k1 < k2 := by omega
        have RS := Lib.hid (show r = 1 from by rw [← HH.out]; rw [if_neg hne.out, if_pos (.inr g2), if_neg hk])
        clear HH
        go_enter Tryz.func12, Tryz.ntmps12
        go_wp2
        go_ret
        exact ⟨congrArg (fun z => Ending.returned (Value.int .i64 z)) RS.out.symm, (by repeat first | (with_reducible assumption) | (with_reducible exact Keep.refl _ _) | (with_reducible refine Keep.alloc ?_ _) | (with_reducible refine Keep.drew ?_) | (with_reducible refine Keep.drewN ?_ _) | (with_reducible refine Keep.setCell ?_ (.inl (by first | omega | (simp; done) | (simp; omega) | fail)) _))⟩
      · rcases Nat.lt_trichotomy s1 s2 with hs | hs | hs
        · have hs' : (s1 : Int) < (s2 : Int) := by omega
          have RS := Lib.hid (show r = -1 from by rw [← HH.out]; rw [if_neg hne.out, if_neg (by omega), if_pos (.inl hs)])
          clear HH
          go_enter Tryz.func12, Tryz.ntmps12
          go_wp2
          go_ret
          exact ⟨congrArg (fun z => Ending.returned (Value.int .i64 z)) RS.out.symm, (by repeat first | (with_reducible assumption) | (with_reducible exact Keep.refl _ _) | (with_reducible refine Keep.alloc ?_ _) | (with_reducible refine Keep.drew ?_) | (with_reducible refine Keep.drewN ?_ _) | (with_reducible refine Keep.setCell ?_ (.inl (by first | omega | (simp; done) | (simp; omega) | fail)) _))⟩
        · subst hs
          have es : ((s1 : Int) == (s1 : Int)) = true := by simp
          by_cases hk : k1 < k2
          · have RS := Lib.hid (show r = -1 from by rw [← HH.out]; rw [if_neg hne.out, if_neg (by omega), if_pos (.inr ⟨rfl, .inl hk⟩)])
            clear HH
            go_enter Tryz.func12, Tryz.ntmps12
            go_wp2
            go_ret
            exact ⟨congrArg (fun z => Ending.returned (Value.int .i64 z)) RS.out.symm, (by repeat first | (with_reducible assumption) | (with_reducible exact Keep.refl _ _) | (with_reducible refine Keep.alloc ?_ _) | (with_reducible refine Keep.drew ?_) | (with_reducible refine Keep.drewN ?_ _) | (with_reducible refine Keep.setCell ?_ (.inl (by first | omega | (simp; done) | (simp; omega) | fail)) _))⟩
          · have RS := Lib.hid (show r = 1 from by rw [← HH.out]; rw [if_neg hne.out, if_neg (by omega), if_neg (by omega)])
            clear HH
            go_enter Tryz.func12, Tryz.ntmps12
            go_wp2
            go_ret
            exact ⟨congrArg (fun z => Ending.returned (Value.int .i64 z)) RS.out.symm, (by repeat first | (with_reducible assumption) | (with_reducible exact Keep.refl _ _) | (with_reducible refine Keep.alloc ?_ _) | (with_reducible refine Keep.drew ?_) | (with_reducible refine Keep.drewN ?_ _) | (with_reducible refine Keep.setCell ?_ (.inl (by first | omega | (simp; done) | (simp; omega) | fail)) _))⟩
        · have hs' : ¬ (s1 : Int) < (s2 : Int) := by omega
          have es : ((s1 : Int) == (s2 : Int)) = false := by
            have : (s1 : Int) ≠ (s2 : Int) := by omega
            simpa using this
          have RS := Lib.hid (show r = 1 from by rw [← HH.out]; rw [if_neg hne.out, if_neg (by omega), if_neg (by omega)])
          clear HH
          go_enter Tryz.func12, Tryz.ntmps12
          go_wp2
          go_ret
          exact ⟨congrArg (fun z => Ending.returned (Value.int .i64 z)) RS.out.symm, (by repeat first | (with_reducible assumption) | (with_reducible exact Keep.refl _ _) | (with_reducible refine Keep.alloc ?_ _) | (with_reducible refine Keep.drew ?_) | (with_reducible refine Keep.drewN ?_ _) | (with_reducible refine Keep.setCell ?_ (.inl (by first | omega | (simp; done) | (simp; omega) | fail)) _))⟩
end Go.Proofs.YtdeifjnhbdkkgaaGreatDoor

/- Contract of vivariumref04.SameList. -/
import Derived.Test.YtglliendhbkkhaaGreatDoorProg
import Derived.Test.YtglliendhbkkhaaGreatDoorMem
import Derived.BigQuiet
import Derived.Deep.QuietTactic
import Derived.WalkKit
import Derived.Outline
import Derived.Lib.Hide
import Derived.WalkLawsBesides
import Derived.WalkSpells
namespace Go.Proofs.YtglliendhbkkhaaGreatDoor
open Go.RowKit
set_option maxRecDepth 100000

theorem sameList_any (xs ys : List Int) (A B : Option Addr) (n m c d : Nat) (F G : Nat → Prop) (w : World) (ha : Rd w F A n (iv xs)) (hb : Rd w G B m (iv ys)) (hn : n ≤ 4611686018427387904) (hm : m ≤ 4611686018427387904) :
    Calls Tryz.prog 45 #[.slice A n c, .slice B m d] w fun e w' => e = .returned (.bool (decide (xs = ys))) ∧ ∃ k, w' = w.drewN k := by
  have la : xs.length = n := by have := ha.1; simpa [iv] using this
  have lb : ys.length = m := by have := hb.1; simpa [iv] using this
  by_cases hnm : n = m
  · subst hnm
    have h0 : ((n : Int) != n) = false := by simp
    have HX := Lib.hid (show ∀ k, k < n → xs[k]? = some (xs.getD k 0) by
      intro k hk; rw [List.getElem?_eq_getElem (by omega), List.getD_eq_getElem?_getD, List.getElem?_eq_getElem (by omega)]; rfl)
    have HY := Lib.hid (show ∀ k, k < n → ys[k]? = some (ys.getD k 0) by
      intro k hk; rw [List.getElem?_eq_getElem (by omega), List.getD_eq_getElem?_getD, List.getElem?_eq_getElem (by omega)]; rfl)
    have L := Lib.hid (And.intro la lb)
    clear la lb
    go_enter Tryz.func45, Tryz.ntmps45
    go_wp2
    go_loopw [5] (fun i wr => ∃ (k q : Nat), k ≤ n ∧ i = .int .i64 k ∧ wr = w.drewN q ∧ Hid (xs.take k = ys.take k)) (fun i _ => n - (intOf i).toNat)
    case atStart => exact ⟨0, 0, by omega, rfl, rfl, Lib.hid rfl⟩
    case round =>
      obtain ⟨k, q, hk, rfl, rfl, ht⟩ := hrel
      by_cases hlt : k < n
      · obtain ⟨b1, o1, rfl, _, c1⟩ := ha.at_ hlt
        obtain ⟨b2, o2, rfl, _, c2⟩ := hb.at_ hlt
        have c1 := c1 k (.int .i64 (xs.getD k 0)) (by rw [iv, List.getElem?_map, HX.out k hlt]; rfl)
        have c2 := c2 k (.int .i64 (ys.getD k 0)) (by rw [iv, List.getElem?_map, HY.out k hlt]; rfl)
        have T := Lib.hid (show xs.take (k + 1) = xs.take k ++ [xs.getD k 0] ∧ ys.take (k + 1) = ys.take k ++ [ys.getD k 0] by
          constructor
          · rw [List.take_add_one, HX.out k hlt]; rfl
          · rw [List.take_add_one, HY.out k hlt]; rfl)
        generalize xs.getD k 0 = x at *
        generalize ys.getD k 0 = y at *
        have hi : (k : Int) < (n : Int) := by omega
        by_cases hxy : x = y
        · subst hxy
          have hx : (x != x) = false := by simp
          go_wp2
          go_quiet (fail)
          go_wp2
          go_roundw
          case rel => exact ⟨k + 1, _, by omega, by go_num, rfl, Lib.hid (by rw [T.out.1, T.out.2, ht.out])⟩
          case measure => simp [intOf]; omega
        · have hx : (x != y) = true := by simpa using hxy
          have hf := Lib.hid (show decide (xs = ys) = false by
            rw [decide_eq_false_iff_not]; rintro rfl
            have := T.out.1.symm.trans T.out.2
            simp at this
            exact hxy this)
          go_wp2
          go_quiet (fail)
          go_wp2
          go_ret
          exact ⟨ret_bool hf.out.symm, _, World.drewN_drewN _ _ _⟩
      · have hf := Lib.hid (show decide (xs = ys) = true by
          rw [decide_eq_true_iff]
          have := ht.out
          rwa [List.take_of_length_le (by rw [L.out.1]; omega), List.take_of_length_le (by rw [L.out.2]; omega)] at this)
        go_wp2
        go_ret
        exact ⟨ret_bool hf.out.symm, q, rfl⟩
  · have h0 : ((n : Int) != m) = true := by rw [bne_iff_ne]; omega
    have hf : Hid (decide (xs = ys) = false) := by
      show decide (xs = ys) = false
      rw [decide_eq_false_iff_not]; rintro rfl; omega
    clear ha hb la lb
    go_enter Tryz.func45, Tryz.ntmps45
    go_wp2
    go_ret
    exact ⟨ret_bool hf.out.symm, 0, rfl⟩
end Go.Proofs.YtglliendhbkkhaaGreatDoor

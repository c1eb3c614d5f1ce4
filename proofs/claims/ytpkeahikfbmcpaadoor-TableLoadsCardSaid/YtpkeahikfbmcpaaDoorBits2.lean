/- Contracts of vivariumref05.Has, List: what they return; old memory unchanged. -/
import Derived.Test.YtpkeahikfbmcpaaDoorProg
import Derived.Test.YtpkeahikfbmcpaaDoorBitsPl
import Derived.Test.YtpkeahikfbmcpaaDoorMem
import Derived.WalkKit
import Derived.Outline
import Derived.Lib.Hide
import Derived.WalkLawsBesides
import Derived.WalkSpells
namespace Go.Proofs.YtpkeahikfbmcpaaDoor
open Go.RowKit
set_option maxRecDepth 100000

theorem info_int : (Tryd.prog.info? 3).map (fun i => (i.zero, i.size, i.bytes)) = some (some (.int .i64 0), 1, 8) := by kernel_rfl
theorem has_no (s : Nat) (c : Int) (hc : c < 0 ∨ 63 < c) (w : World) :
    Calls Tryd.prog 52 #[.int .u64 s, .int .i64 c] w fun e w' => e = .returned (.bool false) ∧ w = w' := by
  rcases hc with hc | hc
  · go_enter Tryd.func52, Tryd.ntmps52
    go_wp2
    go_ret
    exact ⟨rfl, rfl⟩
  · have h0 : ¬ c < 0 := by omega
    go_enter Tryd.func52, Tryd.ntmps52
    go_wp2
    go_ret
    exact ⟨rfl, rfl⟩

theorem has_yes (s c : Nat) (hs : s < 18446744073709551616) (hc : c ≤ 63) (w : World) :
    Calls Tryd.prog 52 #[.int .u64 s, .int .i64 c] w fun e w' => e = .returned (.bool (s.testBit c)) ∧ w = w' := by
  go_enter Tryd.func52, Tryd.ntmps52
  go_wp2
  go_loop [0, 5] (fun t i => ∃ k : Nat, k ≤ c ∧ i = .int .i64 k ∧ t = .int .u64 ((s / 2 ^ k : Nat) : Int)) (fun _ i => c - (intOf i).toNat)
  case atStart => exact ⟨0, by omega, rfl, by simp⟩
  case round =>
    obtain ⟨k, hk, rfl, rfl⟩ := hrel
    have hb : s / 2 ^ k < 18446744073709551616 := Nat.lt_of_le_of_lt (Nat.div_le_self _ _) hs
    have H := Lib.hid (show (s / 2 ^ (k + 1) : Nat) = s / 2 ^ k / 2 by rw [Nat.pow_succ, Nat.div_div_eq_div_mul])
    have T := Lib.hid (show k = c → s.testBit c = decide (s / 2 ^ k % 2 = 1) by rintro rfl; exact Nat.testBit_eq_decide_div_mod_eq)
    generalize s / 2 ^ k = q at *
    by_cases hlt : k < c
    · go_wp2
      go_round
      case rel => exact ⟨k + 1, by omega, by go_num, by rw [H.out]; go_num⟩
      case measure => simp [intOf]; omega
    · go_wp2
      go_ret
      refine ⟨ret_bool ?_, rfl⟩
      rw [T.out (by omega)]
      show ((q : Int) % 2 == 1) = _
      rw [Bool.eq_iff_iff, beq_iff_eq, decide_eq_true_iff]
      omega

theorem has_any (s : Nat) (c : Int) (hs : s < 18446744073709551616) (w : World) :
    Calls Tryd.prog 52 #[.int .u64 s, .int .i64 c] w fun e w' => e = .returned (.bool (hasB s c)) ∧ w = w' := by
  by_cases hc : c < 0 ∨ 63 < c
  · rw [hasB_out s c hc]
    exact has_no s c hc w
  · obtain ⟨n, rfl⟩ := Int.eq_ofNat_of_zero_le (show 0 ≤ c by omega)
    rw [hasB_nat s n (by omega)]
    exact has_yes s n hs (by omega) w

theorem refList_any (s : Nat) (hs : s < 18446744073709551616) (w : World) :
    Calls Tryd.prog 27 #[.int .u64 s] w fun e w' => ∃ v, e = .returned v ∧ Own w' w.heap.size 3 1 v (bl s 64).length (iv (ints (bl s 64))) ∧ Below w.heap.size w w' := by
  obtain ⟨i0, hi0, hz0, hz1, hz2⟩ := info_parts info_int
  go_enter Tryd.func27, Tryd.ntmps27
  go_wp2
  go_loopw [3, 4] (fun v i wr => ∃ k : Nat, k ≤ 64 ∧ i = .int .i64 k ∧ Own wr w.heap.size 3 1 v (bl s k).length (iv (ints (bl s k))) ∧ Below w.heap.size w wr) (fun _ i _ => 64 - (intOf i).toNat)
  case atStart => exact ⟨0, by omega, rfl, Own.none_ _ _ _ _ _, Below.refl _ _⟩
  case round =>
    obtain ⟨k, hk, rfl, hown, hbel⟩ := hrel
    have hlen := bl_len s k
    by_cases hlt : k < 64
    · by_cases hb : s.testBit k = true
      · have H := Lib.hid (show bl s (k + 1) = bl s k ++ [k] by rw [bl, if_pos hb])
        go_wp2_with (first
          | (go_at_call 52; refine (has_yes s k hs (by omega) _).mono ?_; rintro e w' ⟨rfl, rfl⟩)
          | (at_builtin; refine wpList_append_gen _ rfl _ _ _ _ rfl w.heap.size 3 i0 _ 1 8 Tryd.underlying32 hi0 hz0 hz1 hz2 rfl _ _ _ rfl (hown.alloc _) _ 1 _ rfl (src_one _ _ Tryd.underlying32 rfl) ?c1 ?c2 ?c3 ?_))
        case c1 => unfold maxLen; omega
        case c2 => omega
        case c3 => have := hbel.size; simp; omega
        intro v' w1 hown' hk1 _
        have hb1 : Below w.heap.size w w1 := (Keep.trans (S := fun k => w.heap.size ≤ k) ((Keep.of_below hbel).alloc _) hk1 (fun x hx ht => (hown.ownB x ht).1)).below (Nat.le_refl _) (fun x hx => by omega)
        clear hk1 hown hbel
        go_wp2
        go_roundw
        case rel => exact ⟨k + 1, by omega, by go_num, by rw [H.out]; simpa [ints, iv] using hown', hb1⟩
        case measure => simp [intOf]; omega
      · have H := Lib.hid (show bl s (k + 1) = bl s k by rw [bl, if_neg hb, List.append_nil])
        have hb' : s.testBit k = false := by simpa using hb
        clear hb
        go_wp2_with (go_at_call 52; refine (has_yes s k hs (by omega) _).mono ?_; rintro e w' ⟨rfl, rfl⟩)
        go_roundw
        case rel => exact ⟨k + 1, by omega, by go_num, by rw [H.out]; exact hown, hbel⟩
        case measure => simp [intOf]; omega
    · obtain rfl : k = 64 := by omega
      go_wp2
      go_ret
      exact ⟨_, rfl, hown, hbel⟩
end Go.Proofs.YtpkeahikfbmcpaaDoor

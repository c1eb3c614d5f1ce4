/- Contracts of vivariumref05.Has, List: what they return; old memory unchanged. -/
import Derived.Test.YtdeifjnhbdkkgaaGreatDoorProg
import Derived.Test.YtdeifjnhbdkkgaaGreatDoorBitsPl
import Derived.Test.YtdeifjnhbdkkgaaGreatDoorMem
import Derived.WalkKit
import Derived.Outline
import Derived.Lib.Hide
import Derived.WalkLawsBesides
import Derived.WalkSpells
import Derived.Laws.BitsAllLaws
namespace Go.Proofs.YtdeifjnhbdkkgaaGreatDoor
open Go.RowKit
set_option maxRecDepth 100000

theorem info_int : (Tryz.prog.info? 3).map (fun i => (i.zero, i.size, i.bytes)) = some (some (.int .i64 0), 1, 8) := by kernel_rfl
theorem has_no (s : Nat) (c : Int) (hc : c < 0 ∨ 63 < c) (w : World) :
    Calls Tryz.prog 18 #[.int .u64 s, .int .i64 c] w fun e w' => e = .returned (.bool false) ∧ w = w' := by
  rcases hc with hc | hc
  · go_enter Tryz.func18, Tryz.ntmps18
    go_wp2
    go_ret
    exact ⟨rfl, rfl⟩
  · have h0 : ¬ c < 0 := by omega
    go_enter Tryz.func18, Tryz.ntmps18
    go_wp2
    go_ret
    exact ⟨rfl, rfl⟩

theorem has_yes (s c : Nat) (hs : s < 18446744073709551616) (hc : c ≤ 63) (w : World) :
    Calls Tryz.prog 18 #[.int .u64 s, .int .i64 c] w fun e w' => e = .returned (.bool (s.testBit c)) ∧ w = w' := by
  go_enter Tryz.func18, Tryz.ntmps18
  go_wp2
  go_loop [0, 5] (fun t i => ∃ k : Nat, k ≤ c ∧ i = .int .i64 k ∧ t = .int .u64 ((s / 2 ^ k : Nat) : Int)) (fun _ i => c - (intOf i).toNat)
  case atStart => exact ⟨0, by omega, rfl, by simp⟩
  case round =>
    obtain ⟨k, hk, rfl, rfl⟩ := hrel
    have hb : s / 2 ^ k < 18446744073709551616 := Nat.lt_of_le_of_lt (Nat.div_le_self _ _) hs
    have H := Lib.hid (show (s / 2 ^ (k + 1) : Nat) = s / 2 ^ k / 2 by rw [Nat.pow_succ, Nat.div_div_eq_div_mul])
    have T := Lib.hid (show k = c → s.testBit c = decide (s / 2 ^ k % 2 = 1) by rintro rfl; exact Nat.testBit_eq_decide_div_mod_eq)
    generalize s / 2 ^ k = q at *
    by_cases hlt : k < c
    · go_wp2
      go_round
      case rel => exact ⟨k + 1, by omega, by go_num, by rw [H.out]; go_num⟩
      case measure => simp [intOf]; omega
    · go_wp2
      go_ret
      refine ⟨ret_bool ?_, rfl⟩
      rw [T.out (by omega)]
      show ((q : Int) % 2 == 1) = _
      rw [Bool.eq_iff_iff, beq_iff_eq, decide_eq_true_iff]
      omega

theorem has_any (s : Nat) (c : Int) (hs : s < 18446744073709551616) (w : World) :
    Calls Tryz.prog 18 #[.int .u64 s, .int .i64 c] w fun e w' => e = .returned (.bool (hasB s c)) ∧ w = w' := by
  by_cases hc : c < 0 ∨ 63 < c
  · rw [hasB_out s c hc]
    exact has_no s c hc w
  · obtain ⟨n, rfl⟩ := Int.eq_ofNat_of_zero_le (show 0 ≤ c by omega)
    rw [hasB_nat s n (by omega)]
    exact has_yes s n hs (by omega) w

end Go.Proofs.YtdeifjnhbdkkgaaGreatDoor
namespace Go.Proofs.YtdeifjnhbdkkgaaGreatDoor
open Go.RowKit
set_option maxRecDepth 100000

theorem u64_pow (n : Nat) (hn : n < 64) : IntKind.u64.wrap ((2 : Int) ^ n) = ((2 ^ n : Nat) : Int) := by
  rw [show ∀ y : Int, IntKind.u64.wrap y = y % 18446744073709551616 by intro y; simp [IntKind.wrap, IntKind.bits, IntKind.signed]]
  have h : 2 ^ n < 2 ^ 64 := Nat.pow_lt_pow_right (by omega) hn
  have e : ((2 : Int) ^ n) = ((2 ^ n : Nat) : Int) := by rw [Int.natCast_pow]; rfl
  rw [e]
  generalize 2 ^ n = q at *
  omega

theorem bit_any (c : Int) (w : World) :
    Calls Tryz.prog 35 #[.int .i64 c] w fun e w' => e = .returned (.int .u64 (bitN c : Nat)) ∧ w = w' := by
  by_cases hc : 0 ≤ c ∧ c < 64
  · obtain ⟨n, rfl⟩ := Int.eq_ofNat_of_zero_le hc.1
    have hn : n < 64 := by omega
    have e := Lib.hid (show bitN (n : Int) = 2 ^ n by unfold bitN; rw [if_pos ⟨by omega, by omega⟩, Int.toNat_natCast])
    clear hc
    go_enter Tryz.func35, Tryz.ntmps35
    go_wp2
    go_ret
    refine ⟨ret_int ?_, rfl⟩
    rw [e.out]
    exact u64_pow n hn
  · have e := Lib.hid (show bitN c = 0 by unfold bitN; rw [if_neg hc])
    rcases (show c < 0 ∨ 64 ≤ c by omega) with h | h
    · clear hc
      go_enter Tryz.func35, Tryz.ntmps35
      go_wp2
      go_ret
      exact ⟨by rw [e.out]; rfl, rfl⟩
    · have h0 : ¬ c < 0 := by omega
      clear hc
      go_enter Tryz.func35, Tryz.ntmps35
      go_wp2
      go_ret
      exact ⟨by rw [e.out]; rfl, rfl⟩

theorem with_any (s : Nat) (c : Int) (hs : s < 18446744073709551616) (w : World) :
    Calls Tryz.prog 71 #[.int .u64 s, .int .i64 c] w fun e w' => e = .returned (.int .u64 (s ||| bitN c : Nat)) ∧ w = w' := by
  have hb : bitN c < 18446744073709551616 := bitN_lt c
  have e := u64_or_nat s (bitN c) hs hb
  have B := Lib.hid (bit_any c)
  generalize bitN c = b at *
  go_enter Tryz.func71, Tryz.ntmps71
  go_wp2_with (go_at_call 35; refine (B.out _).mono ?_; rintro e w' ⟨rfl, rfl⟩)
  go_ret
  exact ⟨rfl, rfl⟩
theorem bitsHas_any (s : Nat) (c : Int) (hs : s < 18446744073709551616) (w : World) :
    Calls Tryz.prog 17 #[.int .u64 s, .int .i64 c] w fun e w' => e = .returned (.bool (hasB s c)) ∧ w = w' := by
  have hb : bitN c < 18446744073709551616 := bitN_lt c
  have e := u64_and_nat s (bitN c) hs hb
  have B := Lib.hid (bit_any c)
  have H := Lib.hid (has_eq s c)
  generalize bitN c = b at *
  go_enter Tryz.func17, Tryz.ntmps17
  go_wp2_with (go_at_call 35; refine (B.out _).mono ?_; rintro e w' ⟨rfl, rfl⟩)
  go_ret
  refine ⟨ret_bool ?_, rfl⟩
  rw [← H.out]
  show (((s &&& b : Nat) : Int) != 0) = _
  rw [Bool.eq_iff_iff, bne_iff_ne, bne_iff_ne]
  omega

theorem orL_take (l : List Int) (k : Nat) (c : Int) (h : l[k]? = some c) : orL (l.take (k + 1)) 0 = orL (l.take k) 0 ||| bitN c := by
  have key : ∀ (a b : List Int) (s : Nat), orL (a ++ b) s = orL b (orL a s) := by
    intro a
    induction a with
    | nil => intro b s; rfl
    | cons x r ih => intro b s; exact ih b _
  rw [List.take_add_one, h, key]
  rfl

end Go.Proofs.YtdeifjnhbdkkgaaGreatDoor
namespace Go.Proofs.YtdeifjnhbdkkgaaGreatDoor
open Go.RowKit
set_option maxRecDepth 100000

def pw (k : Nat) : Nat := 2 ^ k % 18446744073709551616
theorem pw_lt (k : Nat) : pw k < 18446744073709551616 := Nat.mod_lt _ (by omega)
theorem pw_of (k : Nat) (h : k < 64) : pw k = 2 ^ k := Nat.mod_eq_of_lt (Nat.pow_lt_pow_right (by omega) h : 2 ^ k < 2 ^ 64)
theorem pw_succ (k : Nat) : IntKind.u64.wrap ((pw k : Int) * 2) = (pw (k + 1) : Nat) := by
  rw [show ∀ y : Int, IntKind.u64.wrap y = y % 18446744073709551616 by intro y; simp [IntKind.wrap, IntKind.bits, IntKind.signed]]
  unfold pw
  rw [Nat.pow_succ]
  generalize 2 ^ k = q
  omega

theorem ints_len (l : List Nat) : (ints l).length = l.length := by simp [ints]

end Go.Proofs.YtdeifjnhbdkkgaaGreatDoor

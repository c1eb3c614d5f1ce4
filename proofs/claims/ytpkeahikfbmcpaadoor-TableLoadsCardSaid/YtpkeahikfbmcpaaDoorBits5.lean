/- Contracts of bits.bit, With, Without, Has, Of. -/
import Derived.Test.YtpkeahikfbmcpaaDoorProg
import Derived.Test.YtpkeahikfbmcpaaDoorBits2
import Derived.Laws.BitsAllLaws
namespace Go.Proofs.YtpkeahikfbmcpaaDoor
open Go.RowKit
set_option maxRecDepth 100000

theorem u64_pow (n : Nat) (hn : n < 64) : IntKind.u64.wrap ((2 : Int) ^ n) = ((2 ^ n : Nat) : Int) := by
  rw [show ∀ y : Int, IntKind.u64.wrap y = y % 18446744073709551616 by intro y; simp [IntKind.wrap, IntKind.bits, IntKind.signed]]
  have h : 2 ^ n < 2 ^ 64 := Nat.pow_lt_pow_right (by omega) hn
  have e : ((2 : Int) ^ n) = ((2 ^ n : Nat) : Int) := by rw [Int.natCast_pow]; rfl
  rw [e]
  generalize 2 ^ n = q at *
  omega

theorem bit_any (c : Int) (w : World) :
    Calls Tryd.prog 62 #[.int .i64 c] w fun e w' => e = .returned (.int .u64 (bitN c : Nat)) ∧ w = w' := by
  by_cases hc : 0 ≤ c ∧ c < 64
  · obtain ⟨n, rfl⟩ := Int.eq_ofNat_of_zero_le hc.1
    have hn : n < 64 := by omega
    have e := Lib.hid (show bitN (n : Int) = 2 ^ n by unfold bitN; rw [if_pos ⟨by omega, by omega⟩, Int.toNat_natCast])
    clear hc
    go_enter Tryd.func62, Tryd.ntmps62
    go_wp2
    go_ret
    refine ⟨ret_int ?_, rfl⟩
    rw [e.out]
    exact u64_pow n hn
  · have e := Lib.hid (show bitN c = 0 by unfold bitN; rw [if_neg hc])
    rcases (show c < 0 ∨ 64 ≤ c by omega) with h | h
    · clear hc
      go_enter Tryd.func62, Tryd.ntmps62
      go_wp2
      go_ret
      exact ⟨by rw [e.out]; rfl, rfl⟩
    · have h0 : ¬ c < 0 := by omega
      clear hc
      go_enter Tryd.func62, Tryd.ntmps62
      go_wp2
      go_ret
      exact ⟨by rw [e.out]; rfl, rfl⟩

theorem with_any (s : Nat) (c : Int) (hs : s < 18446744073709551616) (w : World) :
    Calls Tryd.prog 53 #[.int .u64 s, .int .i64 c] w fun e w' => e = .returned (.int .u64 (s ||| bitN c : Nat)) ∧ w = w' := by
  have hb : bitN c < 18446744073709551616 := bitN_lt c
  have e := u64_or_nat s (bitN c) hs hb
  have B := Lib.hid (bit_any c)
  generalize bitN c = b at *
  go_enter Tryd.func53, Tryd.ntmps53
  go_wp2_with (go_at_call 62; refine (B.out _).mono ?_; rintro e w' ⟨rfl, rfl⟩)
  go_ret
  exact ⟨rfl, rfl⟩

theorem orL_take (l : List Int) (k : Nat) (c : Int) (h : l[k]? = some c) : orL (l.take (k + 1)) 0 = orL (l.take k) 0 ||| bitN c := by
  have key : ∀ (a b : List Int) (s : Nat), orL (a ++ b) s = orL b (orL a s) := by
    intro a
    induction a with
    | nil => intro b s; rfl
    | cons x r ih => intro b s; exact ih b _
  rw [List.take_add_one, h, key]
  rfl

end Go.Proofs.YtpkeahikfbmcpaaDoor

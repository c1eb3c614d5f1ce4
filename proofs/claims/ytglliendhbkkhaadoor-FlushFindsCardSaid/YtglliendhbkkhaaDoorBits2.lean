/- Contracts of vivariumref05.Has, List: what they return; old memory unchanged. -/
import Derived.Test.YtglliendhbkkhaaDoorProg
import Derived.Test.YtglliendhbkkhaaDoorBitsPl
import Derived.Test.YtglliendhbkkhaaDoorMem
import Derived.WalkKit
import Derived.Outline
import Derived.Lib.Hide
import Derived.WalkLawsBesides
import Derived.WalkSpells
import Derived.Laws.BitsAllLaws
namespace Go.Proofs.YtglliendhbkkhaaDoor
open Go.RowKit
set_option maxRecDepth 100000

theorem info_int : (Tryd.prog.info? 3).map (fun i => (i.zero, i.size, i.bytes)) = some (some (.int .i64 0), 1, 8) := by kernel_rfl
end Go.Proofs.YtglliendhbkkhaaDoor
namespace Go.Proofs.YtglliendhbkkhaaDoor
open Go.RowKit
set_option maxRecDepth 100000

theorem u64_pow (n : Nat) (hn : n < 64) : IntKind.u64.wrap ((2 : Int) ^ n) = ((2 ^ n : Nat) : Int) := by
  rw [show ∀ y : Int, IntKind.u64.wrap y = y % 18446744073709551616 by intro y; simp [IntKind.wrap, IntKind.bits, IntKind.signed]]
  have h : 2 ^ n < 2 ^ 64 := Nat.pow_lt_pow_right (by omega) hn
  have e : ((2 : Int) ^ n) = ((2 ^ n : Nat) : Int) := by rw [Int.natCast_pow]; rfl
  rw [e]
  generalize 2 ^ n = q at *
  omega

theorem bit_any (c : Int) (w : World) :
    Calls Tryd.prog 29 #[.int .i64 c] w fun e w' => e = .returned (.int .u64 (bitN c : Nat)) ∧ w = w' := by
  by_cases hc : 0 ≤ c ∧ c < 64
  · obtain ⟨n, rfl⟩ := Int.eq_ofNat_of_zero_le hc.1
    have hn : n < 64 := by omega
    have e := Lib.hid (show bitN (n : Int) = 2 ^ n by unfold bitN; rw [if_pos ⟨by omega, by omega⟩, Int.toNat_natCast])
    clear hc
    go_enter Tryd.func29, Tryd.ntmps29
    go_wp2
    go_ret
    refine ⟨ret_int ?_, rfl⟩
    rw [e.out]
    exact u64_pow n hn
  · have e := Lib.hid (show bitN c = 0 by unfold bitN; rw [if_neg hc])
    rcases (show c < 0 ∨ 64 ≤ c by omega) with h | h
    · clear hc
      go_enter Tryd.func29, Tryd.ntmps29
      go_wp2
      go_ret
      exact ⟨by rw [e.out]; rfl, rfl⟩
    · have h0 : ¬ c < 0 := by omega
      clear hc
      go_enter Tryd.func29, Tryd.ntmps29
      go_wp2
      go_ret
      exact ⟨by rw [e.out]; rfl, rfl⟩

theorem with_any (s : Nat) (c : Int) (hs : s < 18446744073709551616) (w : World) :
    Calls Tryd.prog 27 #[.int .u64 s, .int .i64 c] w fun e w' => e = .returned (.int .u64 (s ||| bitN c : Nat)) ∧ w = w' := by
  have hb : bitN c < 18446744073709551616 := bitN_lt c
  have e := u64_or_nat s (bitN c) hs hb
  have B := Lib.hid (bit_any c)
  generalize bitN c = b at *
  go_enter Tryd.func27, Tryd.ntmps27
  go_wp2_with (go_at_call 29; refine (B.out _).mono ?_; rintro e w' ⟨rfl, rfl⟩)
  go_ret
  exact ⟨rfl, rfl⟩
theorem without_any (s : Nat) (c : Int) (hs : s < 18446744073709551616) (w : World) :
    Calls Tryd.prog 80 #[.int .u64 s, .int .i64 c] w fun e w' => e = .returned (.int .u64 (without s c : Nat)) ∧ w = w' := by
  have hb : bitN c < 18446744073709551616 := bitN_lt c
  have e := u64_andNot_nat s (bitN c) hs hb
  have B := Lib.hid (bit_any c)
  unfold without
  generalize bitN c = b at *
  go_enter Tryd.func80, Tryd.ntmps80
  go_wp2_with (go_at_call 29; refine (B.out _).mono ?_; rintro e w' ⟨rfl, rfl⟩)
  go_ret
  exact ⟨rfl, rfl⟩
theorem bitsHas_any (s : Nat) (c : Int) (hs : s < 18446744073709551616) (w : World) :
    Calls Tryd.prog 67 #[.int .u64 s, .int .i64 c] w fun e w' => e = .returned (.bool (hasB s c)) ∧ w = w' := by
  have hb : bitN c < 18446744073709551616 := bitN_lt c
  have e := u64_and_nat s (bitN c) hs hb
  have B := Lib.hid (bit_any c)
  have H := Lib.hid (has_eq s c)
  generalize bitN c = b at *
  go_enter Tryd.func67, Tryd.ntmps67
  go_wp2_with (go_at_call 29; refine (B.out _).mono ?_; rintro e w' ⟨rfl, rfl⟩)
  go_ret
  refine ⟨ret_bool ?_, rfl⟩
  rw [← H.out]
  show (((s &&& b : Nat) : Int) != 0) = _
  rw [Bool.eq_iff_iff, bne_iff_ne, bne_iff_ne]
  omega

theorem orL_take (l : List Int) (k : Nat) (c : Int) (h : l[k]? = some c) : orL (l.take (k + 1)) 0 = orL (l.take k) 0 ||| bitN c := by
  have key : ∀ (a b : List Int) (s : Nat), orL (a ++ b) s = orL b (orL a s) := by
    intro a
    induction a with
    | nil => intro b s; rfl
    | cons x r ih => intro b s; exact ih b _
  rw [List.take_add_one, h, key]
  rfl

end Go.Proofs.YtglliendhbkkhaaDoor
namespace Go.Proofs.YtglliendhbkkhaaDoor
open Go.RowKit
set_option maxRecDepth 100000

def pw (k : Nat) : Nat := 2 ^ k % 18446744073709551616
theorem pw_lt (k : Nat) : pw k < 18446744073709551616 := Nat.mod_lt _ (by omega)
theorem pw_of (k : Nat) (h : k < 64) : pw k = 2 ^ k := Nat.mod_eq_of_lt (Nat.pow_lt_pow_right (by omega) h : 2 ^ k < 2 ^ 64)
theorem pw_succ (k : Nat) : IntKind.u64.wrap ((pw k : Int) * 2) = (pw (k + 1) : Nat) := by
  rw [show ∀ y : Int, IntKind.u64.wrap y = y % 18446744073709551616 by intro y; simp [IntKind.wrap, IntKind.bits, IntKind.signed]]
  unfold pw
  rw [Nat.pow_succ]
  generalize 2 ^ k = q
  omega

theorem ints_len (l : List Nat) : (ints l).length = l.length := by simp [ints]

end Go.Proofs.YtglliendhbkkhaaDoor

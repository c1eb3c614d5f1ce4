/- Contracts of bits.bit, With, Without, Has, Of. -/
import Derived.Test.YtmlbkenbgajkmaaDoorProg
import Derived.Test.YtmlbkenbgajkmaaDoorBits2
import Derived.Laws.BitsAllLaws
namespace Go.Proofs.YtmlbkenbgajkmaaDoor
open Go.RowKit

theorem u64_pow (n : Nat) (hn : n < 64) : IntKind.u64.wrap ((2 : Int) ^ n) = ((2 ^ n : Nat) : Int) := by
  rw [show ∀ y : Int, IntKind.u64.wrap y = y % 18446744073709551616 by intro y; simp [IntKind.wrap, IntKind.bits, IntKind.signed]]
  have h : 2 ^ n < 2 ^ 64 := Nat.pow_lt_pow_right (by omega) hn
  have e : ((2 : Int) ^ n) = ((2 ^ n : Nat) : Int) := by rw [Int.natCast_pow]; rfl
  rw [e]
  generalize 2 ^ n = q at *
  omega

theorem bit_any (c : Int) (w : World) :
    Calls Tryd.prog 21 #[.int .i64 c] w fun e w' => e = .returned (.int .u64 (bitN c : Nat)) ∧ w = w' := by
  by_cases hc : 0 ≤ c ∧ c < 64
  · obtain ⟨n, rfl⟩ := Int.eq_ofNat_of_zero_le hc.1
    have hn : n < 64 := by omega
    have e := Lib.hid (show bitN (n : Int) = 2 ^ n by unfold bitN; rw [if_pos ⟨by omega, by omega⟩, Int.toNat_natCast])
    clear hc
    go_enter Tryd.func21, Tryd.ntmps21
    go_wp2
    go_ret
    refine ⟨ret_int ?_, rfl⟩
    rw [e.out]
    exact u64_pow n hn
  · have e := Lib.hid (show bitN c = 0 by unfold bitN; rw [if_neg hc])
    rcases (show c < 0 ∨ 64 ≤ c by omega) with h | h
    · clear hc
      go_enter Tryd.func21, Tryd.ntmps21
      go_wp2
      go_ret
      exact ⟨by rw [e.out]; rfl, rfl⟩
    · have h0 : ¬ c < 0 := by omega
      clear hc
      go_enter Tryd.func21, Tryd.ntmps21
      go_wp2
      go_ret
      exact ⟨by rw [e.out]; rfl, rfl⟩

theorem with_any (s : Nat) (c : Int) (hs : s < 18446744073709551616) (w : World) :
    Calls Tryd.prog 13 #[.int .u64 s, .int .i64 c] w fun e w' => e = .returned (.int .u64 (s ||| bitN c : Nat)) ∧ w = w' := by
  have hb : bitN c < 18446744073709551616 := bitN_lt c
  have e := u64_or_nat s (bitN c) hs hb
  have B := Lib.hid (bit_any c)
  generalize bitN c = b at *
  go_enter Tryd.func13, Tryd.ntmps13
  go_wp2_with (go_at_call 21; refine (B.out _).mono ?_; rintro e w' ⟨rfl, rfl⟩)
  go_ret
  exact ⟨rfl, rfl⟩
theorem without_any (s : Nat) (c : Int) (hs : s < 18446744073709551616) (w : World) :
    Calls Tryd.prog 15 #[.int .u64 s, .int .i64 c] w fun e w' => e = .returned (.int .u64 (without s c : Nat)) ∧ w = w' := by
  have hb : bitN c < 18446744073709551616 := bitN_lt c
  have e := u64_andNot_nat s (bitN c) hs hb
  have B := Lib.hid (bit_any c)
  unfold without
  generalize bitN c = b at *
  go_enter Tryd.func15, Tryd.ntmps15
  go_wp2_with (go_at_call 21; refine (B.out _).mono ?_; rintro e w' ⟨rfl, rfl⟩)
  go_ret
  exact ⟨rfl, rfl⟩
theorem bitsHas_any (s : Nat) (c : Int) (hs : s < 18446744073709551616) (w : World) :
    Calls Tryd.prog 17 #[.int .u64 s, .int .i64 c] w fun e w' => e = .returned (.bool (hasB s c)) ∧ w = w' := by
  have hb : bitN c < 18446744073709551616 := bitN_lt c
  have e := u64_and_nat s (bitN c) hs hb
  have B := Lib.hid (bit_any c)
  have H := Lib.hid (has_eq s c)
  generalize bitN c = b at *
  go_enter Tryd.func17, Tryd.ntmps17
  go_wp2_with (go_at_call 21; refine (B.out _).mono ?_; rintro e w' ⟨rfl, rfl⟩)
  go_ret
  refine ⟨ret_bool ?_, rfl⟩
  rw [← H.out]
  show (((s &&& b : Nat) : Int) != 0) = _
  rw [Bool.eq_iff_iff, bne_iff_ne, bne_iff_ne]
  omega

theorem orL_take (l : List Int) (k : Nat) (c : Int) (h : l[k]? = some c) : orL (l.take (k + 1)) 0 = orL (l.take k) 0 ||| bitN c := by
  have key : ∀ (a b : List Int) (s : Nat), orL (a ++ b) s = orL b (orL a s) := by
    intro a
    induction a with
    | nil => intro b s; rfl
    | cons x r ih => intro b s; exact ih b _
  rw [List.take_add_one, h, key]
  rfl
/-- An int's list, element by element. -/
theorem iv_at {l : List Int} {k : Nat} (h : k < l.length) : (iv l)[k]? = some (.int .i64 (l.getD k 0)) ∧ l[k]? = some (l.getD k 0) := by
  have e : l[k]? = some (l.getD k 0) := by rw [List.getElem?_eq_getElem h, List.getD_eq_getElem?_getD, List.getElem?_eq_getElem h]; rfl
  exact ⟨by rw [iv, List.getElem?_map, e]; rfl, e⟩

theorem bitsOf_any (l : List Int) (A : Option Addr) (n c : Nat) (F : Nat → Prop) (w : World) (hr : Rd w F A n (iv l)) (hn : n ≤ 4611686018427387904) :
    Calls Tryd.prog 11 #[.slice A n c] w fun e w' => e = .returned (.int .u64 (orL l 0 : Nat)) ∧ w = w' := by
  have L := Lib.hid (show l.length = n by have := hr.1; simpa [iv] using this)
  go_enter Tryd.func11, Tryd.ntmps11
  go_wp2
  go_loop [3, 8] (fun s i => ∃ k : Nat, k ≤ n ∧ i = .int .i64 k ∧ s = .int .u64 (orL (l.take k) 0 : Nat)) (fun _ i => n - (intOf i).toNat)
  case atStart => exact ⟨0, by omega, rfl, rfl⟩
  case round =>
    obtain ⟨k, hk, rfl, rfl⟩ := hrel
    by_cases hlt : k < n
    · obtain ⟨b1, o1, rfl, _, c1⟩ := hr.at_ hlt
      obtain ⟨e1, e2⟩ := iv_at (l := l) (k := k) (by rw [L.out]; exact hlt)
      have c1 := c1 k _ e1
      have T := Lib.hid (orL_take l k _ e2)
      have hx : bitN (l.getD k 0) < 18446744073709551616 := bitN_lt _
      have hy : orL (l.take k) 0 < 18446744073709551616 := orL_lt _ 0 (by omega)
      clear e1 e2
      generalize l.getD k 0 = x at *
      have e := u64_or_nat (orL (l.take k) 0) (bitN x) hy hx
      have B := Lib.hid (bit_any x)
      generalize orL (l.take k) 0 = y at *
      generalize bitN x = b at *
      have hi : (k : Int) < (n : Int) := by omega
      go_wp2_with (go_at_call 21; refine (B.out _).mono ?_; rintro e w' ⟨rfl, rfl⟩)
      go_round
      case rel => exact ⟨k + 1, by omega, by go_num, by rw [T.out]⟩
      case measure => simp [intOf]; omega
    · have e := Lib.hid (show l.take k = l from List.take_of_length_le (by rw [L.out]; omega))
      go_wp2
      go_ret
      exact ⟨by rw [e.out]; rfl, rfl⟩

end Go.Proofs.YtmlbkenbgajkmaaDoor

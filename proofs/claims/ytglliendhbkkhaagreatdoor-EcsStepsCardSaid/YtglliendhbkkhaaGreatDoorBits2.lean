/- Contracts of vivariumref05.Has, List: what they return; old memory unchanged. -/
import Derived.Test.YtglliendhbkkhaaGreatDoorProg
import Derived.Test.YtglliendhbkkhaaGreatDoorBitsPl
import Derived.Test.YtglliendhbkkhaaGreatDoorMem
import Derived.WalkKit
import Derived.Outline
import Derived.Lib.Hide
import Derived.WalkLawsBesides
import Derived.WalkSpells
import Derived.Laws.BitsAllLaws
namespace Go.Proofs.YtglliendhbkkhaaGreatDoor
open Go.RowKit
set_option maxRecDepth 100000

theorem info_int : (Tryz.prog.info? 3).map (fun i => (i.zero, i.size, i.bytes)) = some (some (.int .i64 0), 1, 8) := by kernel_rfl
theorem has_yes (s c : Nat) (hs : s < 18446744073709551616) (hc : c ≤ 63) (w : World) :
    Calls Tryz.prog 126 #[.int .u64 s, .int .i64 c] w fun e w' => e = .returned (.bool (s.testBit c)) ∧ w = w' := by
  go_enter Tryz.func126, Tryz.ntmps126
  go_wp2
  go_loop [0, 5] (fun t i => ∃ k : Nat, k ≤ c ∧ i = .int .i64 k ∧ t = .int .u64 ((s / 2 ^ k : Nat) : Int)) (fun _ i => c - (intOf i).toNat)
  case atStart => exact ⟨0, by omega, rfl, by simp⟩
  case round =>
    obtain ⟨k, hk, rfl, rfl⟩ := hrel
    have hb : s / 2 ^ k < 18446744073709551616 := Nat.lt_of_le_of_lt (Nat.div_le_self _ _) hs
    have H := Lib.hid (show (s / 2 ^ (k + 1) : Nat) = s / 2 ^ k / 2 by rw [Nat.pow_succ, Nat.div_div_eq_div_mul])
    have T := Lib.hid (show k = c → s.testBit c = decide (s / 2 ^ k % 2 = 1) by rintro rfl; exact Nat.testBit_eq_decide_div_mod_eq)
    generalize s / 2 ^ k = q at *
    by_cases hlt : k < c
    · go_wp2
      go_round
      case rel => exact ⟨k + 1, by omega, by go_num, by rw [H.out]; go_num⟩
      case measure => simp [intOf]; omega
    · go_wp2
      go_ret
      refine ⟨ret_bool ?_, rfl⟩
      rw [T.out (by omega)]
      show ((q : Int) % 2 == 1) = _
      rw [Bool.eq_iff_iff, beq_iff_eq, decide_eq_true_iff]
      omega

end Go.Proofs.YtglliendhbkkhaaGreatDoor
namespace Go.Proofs.YtglliendhbkkhaaGreatDoor
open Go.RowKit
set_option maxRecDepth 100000

theorem u64_pow (n : Nat) (hn : n < 64) : IntKind.u64.wrap ((2 : Int) ^ n) = ((2 ^ n : Nat) : Int) := by
  rw [show ∀ y : Int, IntKind.u64.wrap y = y % 18446744073709551616 by intro y; simp [IntKind.wrap, IntKind.bits, IntKind.signed]]
  have h : 2 ^ n < 2 ^ 64 := Nat.pow_lt_pow_right (by omega) hn
  have e : ((2 : Int) ^ n) = ((2 ^ n : Nat) : Int) := by rw [Int.natCast_pow]; rfl
  rw [e]
  generalize 2 ^ n = q at *
  omega

theorem bit_any (c : Int) (w : World) :
    Calls Tryz.prog 175 #[.int .i64 c] w fun e w' => e = .returned (.int .u64 (bitN c : Nat)) ∧ w = w' := by
  by_cases hc : 0 ≤ c ∧ c < 64
  · obtain ⟨n, rfl⟩ := Int.eq_ofNat_of_zero_le hc.1
    have hn : n < 64 := by omega
    have e := Lib.hid (show bitN (n : Int) = 2 ^ n by unfold bitN; rw [if_pos ⟨by omega, by omega⟩, Int.toNat_natCast])
    clear hc
    go_enter Tryz.func175, Tryz.ntmps175
    go_wp2
    go_ret
    refine ⟨ret_int ?_, rfl⟩
    rw [e.out]
    exact u64_pow n hn
  · have e := Lib.hid (show bitN c = 0 by unfold bitN; rw [if_neg hc])
    rcases (show c < 0 ∨ 64 ≤ c by omega) with h | h
    · clear hc
      go_enter Tryz.func175, Tryz.ntmps175
      go_wp2
      go_ret
      exact ⟨by rw [e.out]; rfl, rfl⟩
    · have h0 : ¬ c < 0 := by omega
      clear hc
      go_enter Tryz.func175, Tryz.ntmps175
      go_wp2
      go_ret
      exact ⟨by rw [e.out]; rfl, rfl⟩

theorem with_any (s : Nat) (c : Int) (hs : s < 18446744073709551616) (w : World) :
    Calls Tryz.prog 145 #[.int .u64 s, .int .i64 c] w fun e w' => e = .returned (.int .u64 (s ||| bitN c : Nat)) ∧ w = w' := by
  have hb : bitN c < 18446744073709551616 := bitN_lt c
  have e := u64_or_nat s (bitN c) hs hb
  have B := Lib.hid (bit_any c)
  generalize bitN c = b at *
  go_enter Tryz.func145, Tryz.ntmps145
  go_wp2_with (go_at_call 175; refine (B.out _).mono ?_; rintro e w' ⟨rfl, rfl⟩)
  go_ret
  exact ⟨rfl, rfl⟩
theorem without_any (s : Nat) (c : Int) (hs : s < 18446744073709551616) (w : World) :
    Calls Tryz.prog 176 #[.int .u64 s, .int .i64 c] w fun e w' => e = .returned (.int .u64 (without s c : Nat)) ∧ w = w' := by
  have hb : bitN c < 18446744073709551616 := bitN_lt c
  have e := u64_andNot_nat s (bitN c) hs hb
  have B := Lib.hid (bit_any c)
  unfold without
  generalize bitN c = b at *
  go_enter Tryz.func176, Tryz.ntmps176
  go_wp2_with (go_at_call 175; refine (B.out _).mono ?_; rintro e w' ⟨rfl, rfl⟩)
  go_ret
  exact ⟨rfl, rfl⟩
theorem bitsHas_any (s : Nat) (c : Int) (hs : s < 18446744073709551616) (w : World) :
    Calls Tryz.prog 139 #[.int .u64 s, .int .i64 c] w fun e w' => e = .returned (.bool (hasB s c)) ∧ w = w' := by
  have hb : bitN c < 18446744073709551616 := bitN_lt c
  have e := u64_and_nat s (bitN c) hs hb
  have B := Lib.hid (bit_any c)
  have H := Lib.hid (has_eq s c)
  generalize bitN c = b at *
  go_enter Tryz.func139, Tryz.ntmps139
  go_wp2_with (go_at_call 175; refine (B.out _).mono ?_; rintro e w' ⟨rfl, rfl⟩)
  go_ret
  refine ⟨ret_bool ?_, rfl⟩
  rw [← H.out]
  show (((s &&& b : Nat) : Int) != 0) = _
  rw [Bool.eq_iff_iff, bne_iff_ne, bne_iff_ne]
  omega

theorem orL_take (l : List Int) (k : Nat) (c : Int) (h : l[k]? = some c) : orL (l.take (k + 1)) 0 = orL (l.take k) 0 ||| bitN c := by
  have key : ∀ (a b : List Int) (s : Nat), orL (a ++ b) s = orL b (orL a s) := by
    intro a
    induction a with
    | nil => intro b s; rfl
    | cons x r ih => intro b s; exact ih b _
  rw [List.take_add_one, h, key]
  rfl

end Go.Proofs.YtglliendhbkkhaaGreatDoor
namespace Go.Proofs.YtglliendhbkkhaaGreatDoor
open Go.RowKit
set_option maxRecDepth 100000

def pw (k : Nat) : Nat := 2 ^ k % 18446744073709551616
theorem pw_of (k : Nat) (h : k < 64) : pw k = 2 ^ k := Nat.mod_eq_of_lt (Nat.pow_lt_pow_right (by omega) h : 2 ^ k < 2 ^ 64)
theorem pw_succ (k : Nat) : IntKind.u64.wrap ((pw k : Int) * 2) = (pw (k + 1) : Nat) := by
  rw [show ∀ y : Int, IntKind.u64.wrap y = y % 18446744073709551616 by intro y; simp [IntKind.wrap, IntKind.bits, IntKind.signed]]
  unfold pw
  rw [Nat.pow_succ]
  generalize 2 ^ k = q
  omega

theorem refOf_any (l : List Int) (A : Option Addr) (n c : Nat) (F : Nat → Prop) (w : World) (hr : Rd w F A n (iv l)) (hn : n ≤ 4611686018427387904) :
    Calls Tryz.prog 127 #[.slice A n c] w fun e w' => e = .returned (.int .u64 (ofTo l 64 : Nat)) ∧ w = w' := by
  have L := Lib.hid (show l.length = n by have := hr.1; simpa [iv] using this)
  go_enter Tryz.func127, Tryz.ntmps127
  go_wp2
  go_loop [3, 4, 5] (fun s b i => ∃ k : Nat, k ≤ 64 ∧ i = .int .i64 k ∧ s = .int .u64 (ofTo l k : Nat) ∧ b = .int .u64 (pw k : Nat)) (fun _ _ i => 64 - (intOf i).toNat)
  case atStart => exact ⟨0, by omega, rfl, rfl, rfl⟩
  case round =>
    obtain ⟨k, hk, rfl, rfl, rfl⟩ := hrel
    by_cases hlt : k < 64
    · have hy := ofTo_lt l k
      rw [← pw_of k hlt] at hy
      have hp : pw k ≤ 9223372036854775808 := by rw [pw_of k hlt]; exact (Nat.pow_le_pow_right (by omega) (by omega) : 2 ^ k ≤ 2 ^ 63)
      have hpw := pw_succ k
      have T := Lib.hid (show ∀ b : Bool, decide ((k : Int) ∈ l) = b → ofTo l (k + 1) = ofTo l k + if b = true then pw k else 0 by
        intro b hb; subst hb; rw [ofTo, pw_of k hlt]; simp)
      generalize ofTo l k = y at *
      generalize pw k = p at *
      go_wp2
      go_loop [3, 6] (fun s i => s = .int .u64 y ∧ ∃ j : Nat, j ≤ n ∧ i = .int .i64 j ∧ Hid ((k : Int) ∉ l.take j)) (fun _ i => n - (intOf i).toNat)
      case atStart => exact ⟨rfl, 0, by omega, rfl, Lib.hid (by simp)⟩
      case round =>
        obtain ⟨rfl, j, hj, rfl, hno⟩ := hrel
        by_cases hjn : j < n
        · obtain ⟨b1, o1, rfl, _, c1⟩ := hr.at_ hjn
          obtain ⟨e1, e2⟩ := iv_at (l := l) (k := j) (by rw [L.out]; exact hjn)
          have c1 := c1 j _ e1
          clear e1
          have hi : (j : Int) < (n : Int) := by omega
          by_cases hx : l.getD j 0 = k
          · have hm := Lib.hid (show decide ((k : Int) ∈ l) = true by rw [decide_eq_true_iff, ← hx]; exact List.mem_of_getElem? e2)
            rw [hx] at c1
            have hb : ((k : Int) == k) = true := by simp
            clear e2 hx hno
            go_wp2
            go_round
            case rel => exact ⟨k + 1, by omega, by go_num, by rw [T.out _ hm.out]; simp, rfl⟩
            case measure => simp [intOf]; omega
          · have hno' := Lib.hid (show (k : Int) ∉ l.take (j + 1) by
              rw [List.take_add_one, e2]
              simp only [Option.toList_some, List.mem_append, List.mem_singleton, not_or]
              exact ⟨hno.out, fun h => hx h.symm⟩)
            clear e2 hno
            have hb : (l.getD j 0 == (k : Int)) = false := by simpa using hx
            generalize l.getD j 0 = x at *
            clear hx
            go_wp2
            go_round
            case rel => exact ⟨rfl, j + 1, by omega, by go_num, hno'⟩
            case measure => simp [intOf]; omega
        · have hm := Lib.hid (show decide ((k : Int) ∈ l) = false by
            rw [decide_eq_false_iff_not]
            have := hno.out
            rwa [List.take_of_length_le (by rw [L.out]; omega)] at this)
          clear hno
          go_wp2
          go_round
          case rel => exact ⟨k + 1, by omega, by go_num, by rw [T.out _ hm.out]; simp, rfl⟩
          case measure => simp [intOf]; omega
    · obtain rfl : k = 64 := by omega
      go_wp2
      go_ret
      exact ⟨rfl, rfl⟩

end Go.Proofs.YtglliendhbkkhaaGreatDoor

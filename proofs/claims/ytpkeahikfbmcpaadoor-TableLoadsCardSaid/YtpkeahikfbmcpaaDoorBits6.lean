/- Contracts of vivariumref05.Of, With, Without. -/
import Derived.Test.YtpkeahikfbmcpaaDoorProg
import Derived.Test.YtpkeahikfbmcpaaDoorBits5
namespace Go.Proofs.YtpkeahikfbmcpaaDoor
open Go.RowKit
set_option maxRecDepth 100000

def pw (k : Nat) : Nat := 2 ^ k % 18446744073709551616
theorem pw_lt (k : Nat) : pw k < 18446744073709551616 := Nat.mod_lt _ (by omega)
theorem pw_of (k : Nat) (h : k < 64) : pw k = 2 ^ k := Nat.mod_eq_of_lt (Nat.pow_lt_pow_right (by omega) h : 2 ^ k < 2 ^ 64)
theorem pw_succ (k : Nat) : IntKind.u64.wrap ((pw k : Int) * 2) = (pw (k + 1) : Nat) := by
  rw [show ∀ y : Int, IntKind.u64.wrap y = y % 18446744073709551616 by intro y; simp [IntKind.wrap, IntKind.bits, IntKind.signed]]
  unfold pw
  rw [Nat.pow_succ]
  generalize 2 ^ k = q
  omega

theorem refOf_any (l : List Int) (A : Option Addr) (n c : Nat) (F : Nat → Prop) (w : World) (hr : Rd w F A n (iv l)) (hn : n ≤ 4611686018427387904) :
    Calls Tryd.prog 38 #[.slice A n c] w fun e w' => e = .returned (.int .u64 (ofTo l 64 : Nat)) ∧ w = w' := by
  have L := Lib.hid (show l.length = n by have := hr.1; simpa [iv] using this)
  go_enter Tryd.func38, Tryd.ntmps38
  go_wp2
  go_loop [3, 4, 5] (fun s b i => ∃ k : Nat, k ≤ 64 ∧ i = .int .i64 k ∧ s = .int .u64 (ofTo l k : Nat) ∧ b = .int .u64 (pw k : Nat)) (fun _ _ i => 64 - (intOf i).toNat)
  case atStart => exact ⟨0, by omega, rfl, rfl, rfl⟩
  case round =>
    obtain ⟨k, hk, rfl, rfl, rfl⟩ := hrel
    by_cases hlt : k < 64
    · have hy := ofTo_lt l k
      rw [← pw_of k hlt] at hy
      have hp : pw k ≤ 9223372036854775808 := by rw [pw_of k hlt]; exact (Nat.pow_le_pow_right (by omega) (by omega) : 2 ^ k ≤ 2 ^ 63)
      have hpw := pw_succ k
      have T := Lib.hid (show ∀ b : Bool, decide ((k : Int) ∈ l) = b → ofTo l (k + 1) = ofTo l k + if b = true then pw k else 0 by
        intro b hb; subst hb; rw [ofTo, pw_of k hlt]; simp)
      generalize ofTo l k = y at *
      generalize pw k = p at *
      go_wp2
      go_loop [3, 6] (fun s i => s = .int .u64 y ∧ ∃ j : Nat, j ≤ n ∧ i = .int .i64 j ∧ Hid ((k : Int) ∉ l.take j)) (fun _ i => n - (intOf i).toNat)
      case atStart => exact ⟨rfl, 0, by omega, rfl, Lib.hid (by simp)⟩
      case round =>
        obtain ⟨rfl, j, hj, rfl, hno⟩ := hrel
        by_cases hjn : j < n
        · obtain ⟨b1, o1, rfl, _, c1⟩ := hr.at_ hjn
          obtain ⟨e1, e2⟩ := iv_at (l := l) (k := j) (by rw [L.out]; exact hjn)
          have c1 := c1 j _ e1
          clear e1
          have hi : (j : Int) < (n : Int) := by omega
          by_cases hx : l.getD j 0 = k
          · have hm := Lib.hid (show decide ((k : Int) ∈ l) = true by rw [decide_eq_true_iff, ← hx]; exact List.mem_of_getElem? e2)
            rw [hx] at c1
            have hb : ((k : Int) == k) = true := by simp
            clear e2 hx hno
            go_wp2
            go_round
            case rel => exact ⟨k + 1, by omega, by go_num, by rw [T.out _ hm.out]; simp, rfl⟩
            case measure => simp [intOf]; omega
          · have hno' := Lib.hid (show (k : Int) ∉ l.take (j + 1) by
              rw [List.take_add_one, e2]
              simp only [Option.toList_some, List.mem_append, List.mem_singleton, not_or]
              exact ⟨hno.out, fun h => hx h.symm⟩)
            clear e2 hno
            have hb : (l.getD j 0 == (k : Int)) = false := by simpa using hx
            generalize l.getD j 0 = x at *
            clear hx
            go_wp2
            go_round
            case rel => exact ⟨rfl, j + 1, by omega, by go_num, hno'⟩
            case measure => simp [intOf]; omega
        · have hm := Lib.hid (show decide ((k : Int) ∈ l) = false by
            rw [decide_eq_false_iff_not]
            have := hno.out
            rwa [List.take_of_length_le (by rw [L.out]; omega)] at this)
          clear hno
          go_wp2
          go_round
          case rel => exact ⟨k + 1, by omega, by go_num, by rw [T.out _ hm.out]; simp, rfl⟩
          case measure => simp [intOf]; omega
    · obtain rfl : k = 64 := by omega
      go_wp2
      go_ret
      exact ⟨rfl, rfl⟩

theorem ints_len (l : List Nat) : (ints l).length = l.length := by simp [ints]

end Go.Proofs.YtpkeahikfbmcpaaDoor

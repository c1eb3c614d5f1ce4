/- Contracts of bits.Within, Apart. -/
import Derived.Test.YtdeifjnhbdkkgaaGreatDoorProg
import Derived.Test.YtdeifjnhbdkkgaaGreatDoorBits2
namespace Go.Proofs.YtdeifjnhbdkkgaaGreatDoor
open Go.RowKit
set_option maxRecDepth 100000

theorem within_any (a b : Nat) (ha : a < 18446744073709551616) (hb : b < 18446744073709551616) (w : World) :
    Calls Tryz.prog 73 #[.int .u64 a, .int .u64 b] w fun e w' => e = .returned (.bool ((bl a 64).all fun c => b.testBit c)) ∧ w = w' := by
  have h := Lib.hid (within_eq a b (by simpa using ha) (by simpa using hb))
  have e := u64_andNot_nat a b ha hb
  go_enter Tryz.func73, Tryz.ntmps73
  go_wp2
  go_ret
  refine ⟨ret_bool ?_, rfl⟩
  rw [← h.out]
  show (((a &&& (18446744073709551615 - b) : Nat) : Int) == 0) = _
  rw [Bool.eq_iff_iff, beq_iff_eq, beq_iff_eq]
  omega
theorem apart_any (a b : Nat) (ha : a < 18446744073709551616) (hb : b < 18446744073709551616) (w : World) :
    Calls Tryz.prog 74 #[.int .u64 a, .int .u64 b] w fun e w' => e = .returned (.bool ((bl a 64).all fun c => !b.testBit c)) ∧ w = w' := by
  have h := Lib.hid (apart_eq a b (by simpa using ha))
  have e := u64_and_nat a b ha hb
  go_enter Tryz.func74, Tryz.ntmps74
  go_wp2
  go_ret
  refine ⟨ret_bool ?_, rfl⟩
  rw [← h.out]
  show (((a &&& b : Nat) : Int) == 0) = _
  rw [Bool.eq_iff_iff, beq_iff_eq, beq_iff_eq]
  omega
end Go.Proofs.YtdeifjnhbdkkgaaGreatDoor

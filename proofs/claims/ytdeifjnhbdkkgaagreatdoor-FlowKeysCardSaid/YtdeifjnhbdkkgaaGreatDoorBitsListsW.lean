/- math/bits.OnesCount64, bits.Count; the walk of vivariumlaw05.BitsLists: it returns true, old memory unchanged. -/
import Derived.Test.YtdeifjnhbdkkgaaGreatDoorProg
import Derived.Test.YtdeifjnhbdkkgaaGreatDoorBits3
import Derived.Test.YtdeifjnhbdkkgaaGreatDoorBits2
import Derived.Test.YtdeifjnhbdkkgaaGreatDoorPopPl
namespace Go.Proofs.YtdeifjnhbdkkgaaGreatDoor
open Go.RowKit
set_option maxRecDepth 100000

theorem i64_and_127 (x : Nat) (h : x < 9223372036854775808) : bits .and .i64 (x : Int) 127 = ((x % 128 : Nat) : Int) := by
  have e : (BitVec.ofInt 64 (x : Int)).toNat = x := by
    rw [BitVec.ofInt_natCast, BitVec.toNat_ofNat]; exact Nat.mod_eq_of_lt (by omega)
  have e2 : (BitVec.ofInt 64 127).toNat = 127 := by decide
  show IntKind.i64.wrap ((BitVec.ofInt 64 (x : Int) &&& BitVec.ofInt 64 127).toNat : Int) = _
  rw [BitVec.toNat_and, e, e2, nat_mask7, IntKind.wrap_i64]
  omega

theorem u64_in (x : Nat) (h : x < 18446744073709551616) : IntKind.u64.wrap (x : Int) = x := by
  rw [show ∀ y : Int, IntKind.u64.wrap y = y % 18446744073709551616 by intro y; simp [IntKind.wrap, IntKind.bits, IntKind.signed]]
  omega
/-- What the walk comes to, as a number. -/
theorem ones_num (s : Nat) (hs : s < 18446744073709551616) :
    ∃ a b p q r t x y z : Nat, bits .and .u64 ((s : Int) / 2) 6148914691236517205 = (p : Int) ∧ bits .and .u64 (s : Int) 6148914691236517205 = (q : Int) ∧ IntKind.u64.wrap ((p : Int) + q) = a ∧
      bits .and .u64 ((a : Int) / 4) 3689348814741910323 = (r : Int) ∧ bits .and .u64 (a : Int) 3689348814741910323 = (t : Int) ∧ IntKind.u64.wrap ((r : Int) + t) = b ∧
      bits .and .u64 (IntKind.u64.wrap ((b : Int) / 16 + b)) 1085102592571150095 = (x : Int) ∧ IntKind.u64.wrap ((x : Int) + (x : Int) / 256) = y ∧ IntKind.u64.wrap ((y : Int) + (y : Int) / 65536) = z ∧
      bits .and .i64 (wrap64 (IntKind.u64.wrap ((z : Int) + (z : Int) / 4294967296))) 127 = ((bl s 64).length : Nat) := by
  obtain ⟨a, b, c, x, y, z, h1, h2, ha, hb, h3, h4, h5, hx, hy, hz, h6, hc⟩ := ones s hs
  rw [← hc]
  clear hc
  have e1 := u64_and_nat (s / 2) 6148914691236517205 (by omega) (by omega)
  have e2 := u64_and_nat s 6148914691236517205 hs (by omega)
  have e3 := u64_and_nat (a / 4) 3689348814741910323 (by omega) (by omega)
  have e4 := u64_and_nat a 3689348814741910323 ha (by omega)
  have e5 := u64_and_nat (b / 16 + b) 1085102592571150095 (by omega) (by omega)
  have e6 := i64_and_127 (z + z / 4294967296) (by omega)
  rw [h3] at e5
  rw [h6] at e6
  simp only [Int.cast_ofNat_Int, Int.natCast_ediv, Int.natCast_add] at e1 e2 e3 e4 e5 e6
  generalize s / 2 &&& 6148914691236517205 = p at *
  generalize s &&& 6148914691236517205 = q at *
  generalize a / 4 &&& 3689348814741910323 = r at *
  generalize a &&& 3689348814741910323 = t at *
  refine ⟨a, b, p, q, r, t, x, y, z, e1, e2, ?_, e3, e4, ?_, ?_, ?_, ?_, ?_⟩
  · rw [← Int.natCast_add, h1]; exact u64_in a ha
  · rw [← Int.natCast_add, h2]; exact u64_in b (by omega)
  · have e : IntKind.u64.wrap ((b : Int) / 16 + b) = (b : Int) / 16 + b := by
      have := u64_in (b / 16 + b) (by omega)
      simpa only [Int.cast_ofNat_Int, Int.natCast_ediv, Int.natCast_add] using this
    rw [e]; exact e5
  · have := u64_in y (by omega)
    rw [← h4] at this
    rw [← h4]
    simpa only [Int.cast_ofNat_Int, Int.natCast_ediv, Int.natCast_add] using this
  · have := u64_in z (by omega)
    rw [← h5] at this
    rw [← h5]
    simpa only [Int.cast_ofNat_Int, Int.natCast_ediv, Int.natCast_add] using this
  · have e : IntKind.u64.wrap ((z : Int) + (z : Int) / 4294967296) = (z : Int) + (z : Int) / 4294967296 := by
      have := u64_in (z + z / 4294967296) (by omega)
      simpa only [Int.cast_ofNat_Int, Int.natCast_ediv, Int.natCast_add] using this
    rw [e, IntWalk.wrap64_in _ ⟨by omega, by omega⟩]
    exact e6

end Go.Proofs.YtdeifjnhbdkkgaaGreatDoor

/- math/bits.OnesCount64, bits.Count; the walk of vivariumlaw05.BitsLists: it returns true, old memory unchanged. -/
import Derived.Test.YtmlbkenbgajkmaaDoorProg
import Derived.Test.YtmlbkenbgajkmaaDoorBits4
import Derived.Test.YtmlbkenbgajkmaaDoorBits6
import Derived.Test.YtmlbkenbgajkmaaDoorPopPl
namespace Go.Proofs.YtmlbkenbgajkmaaDoor
open Go.RowKit

theorem i64_and_127 (x : Nat) (h : x < 9223372036854775808) : bits .and .i64 (x : Int) 127 = ((x % 128 : Nat) : Int) := by
  have e : (BitVec.ofInt 64 (x : Int)).toNat = x := by
    rw [BitVec.ofInt_natCast, BitVec.toNat_ofNat]; exact Nat.mod_eq_of_lt (by omega)
  have e2 : (BitVec.ofInt 64 127).toNat = 127 := by decide
  show IntKind.i64.wrap ((BitVec.ofInt 64 (x : Int) &&& BitVec.ofInt 64 127).toNat : Int) = _
  rw [BitVec.toNat_and, e, e2, nat_mask7, IntKind.wrap_i64]
  omega

theorem u64_in (x : Nat) (h : x < 18446744073709551616) : IntKind.u64.wrap (x : Int) = x := by
  rw [show ∀ y : Int, IntKind.u64.wrap y = y % 18446744073709551616 by intro y; simp [IntKind.wrap, IntKind.bits, IntKind.signed]]
  omega
/-- What the walk comes to, as a number. -/
theorem ones_num (s : Nat) (hs : s < 18446744073709551616) :
    ∃ a b p q r t x y z : Nat, bits .and .u64 ((s : Int) / 2) 6148914691236517205 = (p : Int) ∧ bits .and .u64 (s : Int) 6148914691236517205 = (q : Int) ∧ IntKind.u64.wrap ((p : Int) + q) = a ∧
      bits .and .u64 ((a : Int) / 4) 3689348814741910323 = (r : Int) ∧ bits .and .u64 (a : Int) 3689348814741910323 = (t : Int) ∧ IntKind.u64.wrap ((r : Int) + t) = b ∧
      bits .and .u64 (IntKind.u64.wrap ((b : Int) / 16 + b)) 1085102592571150095 = (x : Int) ∧ IntKind.u64.wrap ((x : Int) + (x : Int) / 256) = y ∧ IntKind.u64.wrap ((y : Int) + (y : Int) / 65536) = z ∧
      bits .and .i64 (wrap64 (IntKind.u64.wrap ((z : Int) + (z : Int) / 4294967296))) 127 = ((bl s 64).length : Nat) := by
  obtain ⟨a, b, c, x, y, z, h1, h2, ha, hb, h3, h4, h5, hx, hy, hz, h6, hc⟩ := ones s hs
  rw [← hc]
  clear hc
  have e1 := u64_and_nat (s / 2) 6148914691236517205 (by omega) (by omega)
  have e2 := u64_and_nat s 6148914691236517205 hs (by omega)
  have e3 := u64_and_nat (a / 4) 3689348814741910323 (by omega) (by omega)
  have e4 := u64_and_nat a 3689348814741910323 ha (by omega)
  have e5 := u64_and_nat (b / 16 + b) 1085102592571150095 (by omega) (by omega)
  have e6 := i64_and_127 (z + z / 4294967296) (by omega)
  rw [h3] at e5
  rw [h6] at e6
  simp only [Int.cast_ofNat_Int, Int.natCast_ediv, Int.natCast_add] at e1 e2 e3 e4 e5 e6
  generalize s / 2 &&& 6148914691236517205 = p at *
  generalize s &&& 6148914691236517205 = q at *
  generalize a / 4 &&& 3689348814741910323 = r at *
  generalize a &&& 3689348814741910323 = t at *
  refine ⟨a, b, p, q, r, t, x, y, z, e1, e2, ?_, e3, e4, ?_, ?_, ?_, ?_, ?_⟩
  · rw [← Int.natCast_add, h1]; exact u64_in a ha
  · rw [← Int.natCast_add, h2]; exact u64_in b (by omega)
  · have e : IntKind.u64.wrap ((b : Int) / 16 + b) = (b : Int) / 16 + b := by
      have := u64_in (b / 16 + b) (by omega)
      simpa only [Int.cast_ofNat_Int, Int.natCast_ediv, Int.natCast_add] using this
    rw [e]; exact e5
  · have := u64_in y (by omega)
    rw [← h4] at this
    rw [← h4]
    simpa only [Int.cast_ofNat_Int, Int.natCast_ediv, Int.natCast_add] using this
  · have := u64_in z (by omega)
    rw [← h5] at this
    rw [← h5]
    simpa only [Int.cast_ofNat_Int, Int.natCast_ediv, Int.natCast_add] using this
  · have e : IntKind.u64.wrap ((z : Int) + (z : Int) / 4294967296) = (z : Int) + (z : Int) / 4294967296 := by
      have := u64_in (z + z / 4294967296) (by omega)
      simpa only [Int.cast_ofNat_Int, Int.natCast_ediv, Int.natCast_add] using this
    rw [e, IntWalk.wrap64_in _ ⟨by omega, by omega⟩]
    exact e6

theorem onesCount_any (s : Nat) (hs : s < 18446744073709551616) (w : World) :
    Calls Tryd.prog 23 #[.int .u64 s] w fun e w' => e = .returned (.int .i64 ((bl s 64).length : Nat)) ∧ w = w' := by
  have Hs := Lib.hid hs
  clear hs
  go_enter Tryd.func23, Tryd.ntmps23
  go_wp2
  go_ret
  obtain ⟨a, b, p, q, r, t, x, y, z, h1, h2, h3, h4, h5, h6, h7, h8, h9, h10⟩ := ones_num s Hs.out
  refine ⟨ret_int ?_, rfl⟩
  rw [h1, h2, h3, h4, h5, h6, h7, h8, h9, h10]

theorem count_any (s : Nat) (hs : s < 18446744073709551616) (w : World) :
    Calls Tryd.prog 20 #[.int .u64 s] w fun e w' => e = .returned (.int .i64 ((bl s 64).length : Nat)) ∧ w = w' := by
  have C := Lib.hid (onesCount_any s hs)
  generalize (bl s 64).length = n at *
  go_enter Tryd.func20, Tryd.ntmps20
  go_wp2_with (go_at_call 23; refine (C.out _).mono ?_; rintro e w' ⟨rfl, rfl⟩)
  go_ret
  exact ⟨rfl, rfl⟩

set_option maxHeartbeats 400000 in
theorem bitsLists_walk (s : Nat) (d : Int) (hs : s < 18446744073709551616) (w : World) (hT : Tab w) :
    Calls Tryd.prog 5 #[.int .u64 s, .int .i64 d] w fun e w' => e = .returned (.bool true) ∧ Below w.heap.size w w' := by
  have hT' : ∀ wr, Below w.heap.size w wr → Tab wr := fun wr hb k hk => (hb.cell (World.block_lt_of_cell? w _ (hT k hk))).trans (hT k hk)
  have HT := Lib.hid hT'
  have HT0 := Lib.hid hT
  clear hT hT'
  have hl := bl_len s 64
  have LL := Lib.hid (bitsList_any s hs)
  have RL := Lib.hid (refList_any s hs)
  have CN := Lib.hid (count_any s hs)
  have OF := Lib.hid (show orL (ints (bl s 64)) 0 = s by rw [of_eq]; exact of_bl s (by simpa using hs))
  have BK := Lib.hid (back_eq s d (by simpa using hs))
  have hwo : without s d < 18446744073709551616 := without_lt s d (by simpa using hs)
  generalize bl s 64 = l at *
  obtain ⟨n, hn⟩ : ∃ n, l.length = n := ⟨_, rfl⟩
  rw [hn] at LL RL CN hl
  clear hn
  go_enter Tryd.func5, Tryd.ntmps5
  go_wp2_with fail
  refine (LL.out _ HT0.out).mono ?_
  rintro e w1 ⟨v, rfl, hown, hb1⟩
  obtain ⟨A, c, rfl, hrd⟩ := hown.form
  rw [Nat.mul_one] at hrd
  clear hown
  have HA := Lib.hid (has_any s d hs)
  have tail : ∀ (a : Act), a.defers = [] → True := fun _ _ => trivial
  clear tail
  cases hh : hasB s d
  · rw [hh] at HA
    have HB := Lib.hid hh
    clear hh
    go_wp2_with fail
    refine (HA.out _).mono ?_
    rintro e w' ⟨rfl, rfl⟩
    go_wp2_with fail
    refine (RL.out _).mono ?_
    rintro e w2 ⟨v2, rfl, hown2, hb2⟩
    obtain ⟨A2, c2, rfl, hrd2⟩ := hown2.form
    rw [Nat.mul_one] at hrd2
    clear hown2
    go_wp2_with fail
    refine (sameList_any _ _ A A2 n n c c2 _ _ _ (hrd.below hb2) hrd2 (by omega) (by omega)).mono ?_
    rintro e w3 ⟨rfl, q, rfl⟩
    rw [decide_eq_true rfl]
    go_wp2_with fail
    refine (CN.out _).mono ?_
    rintro e w' ⟨rfl, rfl⟩
    go_wp2_with fail
    refine (bitsOf_any _ A n c _ _ ((hrd.below hb2).drewN q) (by omega)).mono ?_
    rintro e w' ⟨rfl, rfl⟩
    rw [OF.out]
    have hb3 := below_drewN (hb1.trans (hb2.mono hb1.size)) q
    go_wp2_with fail
    refine (live05_any _ (HT.out _ hb3)).mono ?_
    rintro e w4 ⟨rfl, hb4⟩
    go_wp2
    go_ret
    exact ⟨rfl, hb3.trans (hb4.mono hb3.size)⟩
  · rw [hh] at HA
    have HB := Lib.hid hh
    clear hh
    go_wp2_with fail
    refine (HA.out _).mono ?_
    rintro e w' ⟨rfl, rfl⟩
    go_wp2_with fail
    refine (without_any s d hs _).mono ?_
    rintro e w' ⟨rfl, rfl⟩
    go_wp2_with fail
    refine (with_any _ d hwo _).mono ?_
    rintro e w' ⟨rfl, rfl⟩
    rw [BK.out HB.out]
    go_wp2_with fail
    refine (RL.out _).mono ?_
    rintro e w2 ⟨v2, rfl, hown2, hb2⟩
    obtain ⟨A2, c2, rfl, hrd2⟩ := hown2.form
    rw [Nat.mul_one] at hrd2
    clear hown2
    go_wp2_with fail
    refine (sameList_any _ _ A A2 n n c c2 _ _ _ (hrd.below hb2) hrd2 (by omega) (by omega)).mono ?_
    rintro e w3 ⟨rfl, q, rfl⟩
    rw [decide_eq_true rfl]
    go_wp2_with fail
    refine (CN.out _).mono ?_
    rintro e w' ⟨rfl, rfl⟩
    go_wp2_with fail
    refine (bitsOf_any _ A n c _ _ ((hrd.below hb2).drewN q) (by omega)).mono ?_
    rintro e w' ⟨rfl, rfl⟩
    rw [OF.out]
    have hb3 := below_drewN (hb1.trans (hb2.mono hb1.size)) q
    go_wp2_with fail
    refine (live05_any _ (HT.out _ hb3)).mono ?_
    rintro e w4 ⟨rfl, hb4⟩
    go_wp2
    go_ret
    exact ⟨rfl, hb3.trans (hb4.mono hb3.size)⟩
end Go.Proofs.YtmlbkenbgajkmaaDoor

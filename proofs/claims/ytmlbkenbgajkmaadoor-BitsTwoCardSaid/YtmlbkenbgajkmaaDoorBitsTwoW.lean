/- The walk of vivariumlaw05.BitsTwo: it returns true, old memory unchanged. -/
import Derived.Test.YtmlbkenbgajkmaaDoorProg
import Derived.Test.YtmlbkenbgajkmaaDoorBits4
namespace Go.Proofs.YtmlbkenbgajkmaaDoor
open Go.RowKit

theorem within_any (a b : Nat) (ha : a < 18446744073709551616) (hb : b < 18446744073709551616) (w : World) :
    Calls Tryd.prog 8 #[.int .u64 a, .int .u64 b] w fun e w' => e = .returned (.bool ((bl a 64).all fun c => b.testBit c)) ∧ w = w' := by
  have h := Lib.hid (within_eq a b (by simpa using ha) (by simpa using hb))
  have e := u64_andNot_nat a b ha hb
  go_enter Tryd.func8, Tryd.ntmps8
  go_wp2
  go_ret
  refine ⟨ret_bool ?_, rfl⟩
  rw [← h.out]
  show (((a &&& (18446744073709551615 - b) : Nat) : Int) == 0) = _
  rw [Bool.eq_iff_iff, beq_iff_eq, beq_iff_eq]
  omega
theorem apart_any (a b : Nat) (ha : a < 18446744073709551616) (hb : b < 18446744073709551616) (w : World) :
    Calls Tryd.prog 9 #[.int .u64 a, .int .u64 b] w fun e w' => e = .returned (.bool ((bl a 64).all fun c => !b.testBit c)) ∧ w = w' := by
  have h := Lib.hid (apart_eq a b (by simpa using ha))
  have e := u64_and_nat a b ha hb
  go_enter Tryd.func9, Tryd.ntmps9
  go_wp2
  go_ret
  refine ⟨ret_bool ?_, rfl⟩
  rw [← h.out]
  show (((a &&& b : Nat) : Int) == 0) = _
  rw [Bool.eq_iff_iff, beq_iff_eq, beq_iff_eq]
  omega

theorem bitsTwo_walk (a b : Nat) (ha : a < 18446744073709551616) (hb : b < 18446744073709551616) (w : World) (hT : Tab w) :
    Calls Tryd.prog 3 #[.int .u64 a, .int .u64 b] w fun e w' => e = .returned (.bool true) ∧ Below w.heap.size w w' := by
  have hl := bl_len a 64
  have hT' : ∀ wr, Below w.heap.size w wr → Tab wr := fun wr hb k hk => (hb.cell (World.block_lt_of_cell? w _ (hT k hk))).trans (hT k hk)
  have HT := Lib.hid hT'
  clear hT hT'
  have hmem := Lib.hid (fun i => (bl_mem a 64 i).1)
  go_enter Tryd.func3, Tryd.ntmps3
  go_wp2_with fail
  refine (refList_any a ha _).mono ?_
  rintro e w1 ⟨v, rfl, hown, hbel⟩
  obtain ⟨A, c, rfl, hrd⟩ := hown.form
  clear hown
  rw [Nat.mul_one] at hrd
  have C := Lib.hid (And.intro (within_any a b ha hb) (apart_any a b ha hb))
  generalize bl a 64 = l at *
  have HN := Lib.hid (show ∀ k, k < l.length → l[k]? = some (l.getD k 0) ∧ l.getD k 0 ≤ 63 by
    intro k hk
    have e : l[k]? = some (l.getD k 0) := by rw [List.getElem?_eq_getElem hk, List.getD_eq_getElem?_getD, List.getElem?_eq_getElem hk]; rfl
    exact ⟨e, by have := (hmem.out _ (List.mem_of_getElem? e)).1; omega⟩)
  have HL := Lib.hid (show ∀ k, l.length ≤ k → l.take k = l from fun k hk => List.take_of_length_le hk)
  generalize l.length = n at *
  clear hmem
  go_wp2_with fail
  go_loop [5, 6, 8] (fun p q i => ∃ k : Nat, k ≤ n ∧ i = .int .i64 k ∧ p = .bool ((l.take k).all fun c => b.testBit c) ∧ q = .bool ((l.take k).all fun c => !b.testBit c)) (fun _ _ i => n - (intOf i).toNat)
  case atStart => exact ⟨0, by omega, rfl, rfl, rfl⟩
  case round =>
    obtain ⟨k, hk, rfl, rfl, rfl⟩ := hrel
    by_cases hlt : k < n
    · obtain ⟨b1, o1, rfl, _, c1⟩ := hrd.at_ hlt
      obtain ⟨he, h63⟩ := HN.out k hlt
      have c1 := c1 k (.int .i64 (l.getD k 0 : Nat)) (by rw [iv, ints, List.getElem?_map, List.getElem?_map, he]; rfl)
      have T := Lib.hid (show l.take (k + 1) = l.take k ++ [l.getD k 0] by rw [List.take_add_one, he]; rfl)
      clear he
      generalize l.getD k 0 = x at *
      have T1 := Lib.hid (show ((l.take (k + 1)).all fun c => b.testBit c) = (((l.take k).all fun c => b.testBit c) && b.testBit x) by rw [T.out, List.all_append]; simp)
      have T2 := Lib.hid (show ((l.take (k + 1)).all fun c => !b.testBit c) = (((l.take k).all fun c => !b.testBit c) && !b.testBit x) by rw [T.out, List.all_append]; simp)
      generalize ((l.take k).all fun c => b.testBit c) = P at *
      generalize ((l.take k).all fun c => !b.testBit c) = Q at *
      have hi : (k : Int) < (n : Int) := by omega
      cases P <;> cases Q
      all_goals
        go_wp2_with (go_at_call 7; refine (has_yes b x hb h63 _).mono ?_; rintro e w' ⟨rfl, rfl⟩)
        go_round
        case rel => exact ⟨k + 1, by omega, by go_num, by rw [T1.out]; simp, by rw [T2.out]; simp⟩
        case measure => simp [intOf]; omega
    · have e1 := HL.out k (by omega)
      rw [e1]
      clear e1 HL HN hrd
      have D1 := Lib.hid C.out.1
      have D2 := Lib.hid C.out.2
      clear C
      generalize (l.all fun c => b.testBit c) = P at *
      generalize (l.all fun c => !b.testBit c) = Q at *
      go_wp2_with (first
        | (go_at_call 8; refine (D1.out _).mono ?_; rintro e w' ⟨rfl, rfl⟩)
        | (go_at_call 9; refine (D2.out _).mono ?_; rintro e w' ⟨rfl, rfl⟩)
        | (go_at_call 10; refine (live05_any _ (HT.out _ hbel)).mono ?_; rintro e w2 ⟨rfl, hb2⟩))
      go_ret
      exact ⟨rfl, hbel.trans (hb2.mono hbel.size)⟩
end Go.Proofs.YtmlbkenbgajkmaaDoor

/- Contracts of vivariumref05.Of, With, Without. -/
import Derived.Test.YtmlbkenbgajkmaaProg
import Derived.Test.YtmlbkenbgajkmaaBits5
namespace Go.Proofs.Ytmlbkenbgajkmaa
open Go.RowKit
set_option maxRecDepth 100000

def pw (k : Nat) : Nat := 2 ^ k % 18446744073709551616
theorem pw_lt (k : Nat) : pw k < 18446744073709551616 := Nat.mod_lt _ (by omega)
theorem pw_of (k : Nat) (h : k < 64) : pw k = 2 ^ k := Nat.mod_eq_of_lt (Nat.pow_lt_pow_right (by omega) h : 2 ^ k < 2 ^ 64)
theorem pw_succ (k : Nat) : IntKind.u64.wrap ((pw k : Int) * 2) = (pw (k + 1) : Nat) := by
  rw [show ∀ y : Int, IntKind.u64.wrap y = y % 18446744073709551616 by intro y; simp [IntKind.wrap, IntKind.bits, IntKind.signed]]
  unfold pw
  rw [Nat.pow_succ]
  generalize 2 ^ k = q
  omega

theorem refOf_any (l : List Int) (A : Option Addr) (n c : Nat) (F : Nat → Prop) (w : World) (hr : Rd w F A n (iv l)) (hn : n ≤ 4611686018427387904) :
    Calls Try.prog 89 #[.slice A n c] w fun e w' => e = .returned (.int .u64 (ofTo l 64 : Nat)) ∧ w = w' := by
  have L := Lib.hid (show l.length = n by have := hr.1; simpa [iv] using this)
  go_enter Try.func89, Try.ntmps89
  go_wp2
  go_loop [3, 4, 5] (fun s b i => ∃ k : Nat, k ≤ 64 ∧ i = .int .i64 k ∧ s = .int .u64 (ofTo l k : Nat) ∧ b = .int .u64 (pw k : Nat)) (fun _ _ i => 64 - (intOf i).toNat)
  case atStart => exact ⟨0, by omega, rfl, rfl, rfl⟩
  case round =>
    obtain ⟨k, hk, rfl, rfl, rfl⟩ := hrel
    by_cases hlt : k < 64
    · have hy := ofTo_lt l k
      rw [← pw_of k hlt] at hy
      have hp : pw k ≤ 9223372036854775808 := by rw [pw_of k hlt]; exact (Nat.pow_le_pow_right (by omega) (by omega) : 2 ^ k ≤ 2 ^ 63)
      have hpw := pw_succ k
      have T := Lib.hid (show ∀ b : Bool, decide ((k : Int) ∈ l) = b → ofTo l (k + 1) = ofTo l k + if b = true then pw k else 0 by
        intro b hb; subst hb; rw [ofTo, pw_of k hlt]; simp)
      generalize ofTo l k = y at *
      generalize pw k = p at *
      go_wp2
      go_loop [3, 6] (fun s i => s = .int .u64 y ∧ ∃ j : Nat, j ≤ n ∧ i = .int .i64 j ∧ Hid ((k : Int) ∉ l.take j)) (fun _ i => n - (intOf i).toNat)
      case atStart => exact ⟨rfl, 0, by omega, rfl, Lib.hid (by simp)⟩
      case round =>
        obtain ⟨rfl, j, hj, rfl, hno⟩ := hrel
        by_cases hjn : j < n
        · obtain ⟨b1, o1, rfl, _, c1⟩ := hr.at_ hjn
          obtain ⟨e1, e2⟩ := iv_at (l := l) (k := j) (by rw [L.out]; exact hjn)
          have c1 := c1 j _ e1
          clear e1
          have hi : (j : Int) < (n : Int) := by omega
          by_cases hx : l.getD j 0 = k
          · have hm := Lib.hid (show decide ((k : Int) ∈ l) = true by rw [decide_eq_true_iff, ← hx]; exact List.mem_of_getElem? e2)
            rw [hx] at c1
            have hb : ((k : Int) == k) = true := by simp
            clear e2 hx hno
            go_wp2
            go_round
            case rel => exact ⟨k + 1, by omega, by go_num, by rw [T.out _ hm.out]; simp, rfl⟩
            case measure => simp [intOf]; omega
          · have hno' := Lib.hid (show (k : Int) ∉ l.take (j + 1) by
              rw [List.take_add_one, e2]
              simp only [Option.toList_some, List.mem_append, List.mem_singleton, not_or]
              exact ⟨hno.out, fun h => hx h.symm⟩)
            clear e2 hno
            have hb : (l.getD j 0 == (k : Int)) = false := by simpa using hx
            generalize l.getD j 0 = x at *
            clear hx
            go_wp2
            go_round
            case rel => exact ⟨rfl, j + 1, by omega, by go_num, hno'⟩
            case measure => simp [intOf]; omega
        · have hm := Lib.hid (show decide ((k : Int) ∈ l) = false by
            rw [decide_eq_false_iff_not]
            have := hno.out
            rwa [List.take_of_length_le (by rw [L.out]; omega)] at this)
          clear hno
          go_wp2
          go_round
          case rel => exact ⟨k + 1, by omega, by go_num, by rw [T.out _ hm.out]; simp, rfl⟩
          case measure => simp [intOf]; omega
    · obtain rfl : k = 64 := by omega
      go_wp2
      go_ret
      exact ⟨rfl, rfl⟩

theorem ints_len (l : List Nat) : (ints l).length = l.length := by simp [ints]

theorem refWith_any (s : Nat) (c : Int) (hs : s < 18446744073709551616) (w : World) :
    Calls Try.prog 69 #[.int .u64 s, .int .i64 c] w fun e w' => e = .returned (.int .u64 (s ||| bitN c : Nat)) ∧ Below w.heap.size w w' := by
  obtain ⟨i0, hi0, hz0, hz1, hz2⟩ := info_parts info_int
  have hl := bl_len s 64
  have E := Lib.hid (with_eq s c (by simpa using hs))
  go_enter Try.func69, Try.ntmps69
  go_wp2_with fail
  refine (refList_any s hs _).mono ?_
  rintro e w1 ⟨v, rfl, hown, hb1⟩
  generalize bl s 64 = l at *
  obtain ⟨n, hn⟩ : ∃ n, l.length = n := ⟨_, rfl⟩
  rw [hn] at hown hl
  clear hn
  go_wp2_with (at_builtin; refine wpList_append_gen _ rfl _ _ _ _ rfl w.heap.size 3 i0 _ 1 8 Try.underlying63 hi0 hz0 hz1 hz2 rfl _ _ _ rfl (hown.alloc _) _ 1 _ rfl (src_one _ _ Try.underlying63 rfl) ?c1 ?c2 ?c3 ?_)
  case c1 => unfold maxLen; omega
  case c2 => omega
  case c3 => have := hb1.size; simp; omega
  intro v' w2 hown' hk1 _
  have hb2 : Below w.heap.size w w2 := (Keep.trans (S := fun k => w.heap.size ≤ k) ((Keep.of_below hb1).alloc _) hk1 (fun x hx ht => (hown.ownB x ht).1)).below (Nat.le_refl _) (fun x hx => by omega)
  obtain ⟨A, c', rfl, hrd⟩ := hown'.form
  clear hk1 hown hown'
  rw [Nat.mul_one] at hrd
  have hrd' : Rd w2 (fun k => w.heap.size ≤ k) A (n + 1) (iv (ints l ++ [c])) := by simpa [iv] using hrd
  clear hrd
  go_wp2_with fail
  refine (refOf_any _ A (n + 1) c' _ _ hrd' (by omega)).mono ?_
  rintro e w' ⟨rfl, rfl⟩
  rw [E.out]
  go_wp2
  go_ret
  exact ⟨rfl, hb2⟩

theorem refWithout_any (s : Nat) (c : Int) (hs : s < 18446744073709551616) (w : World) :
    Calls Try.prog 70 #[.int .u64 s, .int .i64 c] w fun e w' => e = .returned (.int .u64 (without s c : Nat)) ∧ Below w.heap.size w w' := by
  obtain ⟨i0, hi0, hz0, hz1, hz2⟩ := info_parts info_int
  have hl := bl_len s 64
  have E := Lib.hid (without_eq s c (by simpa using hs))
  go_enter Try.func70, Try.ntmps70
  go_wp2_with fail
  refine (refList_any s hs _).mono ?_
  rintro e w1 ⟨v, rfl, hown, hb1⟩
  obtain ⟨A, c', rfl, hrd⟩ := hown.form
  have hlen := ints_len (bl s 64)
  have hvB := hown.ownB
  generalize ints (bl s 64) = l at *
  generalize (bl s 64).length = n at *
  have L := Lib.hid hlen
  clear hlen hown hvB
  rw [Nat.mul_one] at hrd
  go_wp2_with fail
  go_loopw [6, 7] (fun v i wr => ∃ k : Nat, k ≤ n ∧ i = .int .i64 k ∧ Own wr w1.heap.size 3 1 v ((l.take k).filter (fun x => x != c)).length (iv ((l.take k).filter (fun x => x != c))) ∧ Below w1.heap.size w1 wr) (fun _ i _ => n - (intOf i).toNat)
  case atStart => exact ⟨0, by omega, rfl, Own.none_ _ _ _ _ _, Below.refl _ _⟩
  case round =>
    obtain ⟨k, hk, rfl, hown, hbel⟩ := hrel
    by_cases hlt : k < n
    · have hrd' := hrd.below hbel
      obtain ⟨b1, o1, rfl, _, c1⟩ := hrd'.at_ hlt
      obtain ⟨e1, e2⟩ := iv_at (l := l) (k := k) (by rw [L.out]; exact hlt)
      have c1 := c1 k _ e1
      have hi : (k : Int) < (n : Int) := by omega
      have T := Lib.hid (show (l.take (k + 1)).filter (fun x => x != c) = (l.take k).filter (fun x => x != c) ++ if l.getD k 0 != c then [l.getD k 0] else [] by
        rw [List.take_add_one, e2, List.filter_append]
        simp [List.filter_cons])
      have hfl : ((l.take k).filter (fun x => x != c)).length ≤ 64 := Nat.le_trans (List.length_filter_le _ _) (by rw [List.length_take]; omega)
      clear e1 e2 hrd'
      generalize l.getD k 0 = x at *
      generalize (l.take k).filter (fun x => x != c) = d at *
      by_cases hx : x = c
      · have hb : (x != c) = false := by simpa using hx
        clear hx
        have T' := Lib.hid (T.out.trans (by rw [hb]; simp : _ = d))
        clear T
        go_wp2
        go_roundw
        case rel => exact ⟨k + 1, by omega, by go_num, by rw [T'.out]; exact hown, hbel⟩
        case measure => simp [intOf]; omega
      · have hb : (x != c) = true := by simpa using hx
        clear hx
        have T' := Lib.hid (T.out.trans (by rw [hb]; simp : _ = d ++ [x]))
        clear T
        go_wp2_with (at_builtin; refine wpList_append_gen _ rfl _ _ _ _ rfl w1.heap.size 3 i0 _ 1 8 Try.underlying63 hi0 hz0 hz1 hz2 rfl _ _ _ rfl (hown.alloc _) _ 1 _ rfl (src_one _ _ Try.underlying63 rfl) ?c1 ?c2 ?c3 ?_)
        case c1 => unfold maxLen; omega
        case c2 => omega
        case c3 => have := hbel.size; simp; omega
        intro v' w2 hown' hk1 _
        have hb2 : Below w1.heap.size w1 w2 := (Keep.trans (S := fun k => w1.heap.size ≤ k) ((Keep.of_below hbel).alloc _) hk1 (fun x hx ht => (hown.ownB x ht).1)).below (Nat.le_refl _) (fun x hx => by omega)
        clear hk1 hown hbel c1
        go_wp2
        go_roundw
        case rel => exact ⟨k + 1, by omega, by go_num, by rw [T'.out]; simpa [iv] using hown', hb2⟩
        case measure => simp [intOf]; omega
    · obtain ⟨A', c2, rfl, hrd2⟩ := hown.form
      have T := Lib.hid (show l.take k = l from List.take_of_length_le (by rw [L.out]; omega))
      have hfl : ((l.take k).filter (fun x => x != c)).length ≤ 64 := Nat.le_trans (List.length_filter_le _ _) (by rw [List.length_take]; omega)
      rw [Nat.mul_one] at hrd2
      rw [T.out] at hrd2 hfl
      rw [T.out]
      clear hown
      go_wp2_with fail
      refine (refOf_any _ A' _ c2 _ _ hrd2 (by omega)).mono ?_
      rintro e w' ⟨rfl, rfl⟩
      rw [E.out]
      go_wp2
      go_ret
      exact ⟨rfl, hb1.trans (hbel.mono hb1.size)⟩
end Go.Proofs.Ytmlbkenbgajkmaa

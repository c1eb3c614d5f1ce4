/- Contracts of bits.List, vivariumref04.SameList, vivariumlaw05.live. -/
import Derived.Test.YtmlbkenbgajkmaaDoorProg
import Derived.Test.YtmlbkenbgajkmaaDoorBits3
import Derived.BigQuiet
import Derived.Deep.QuietTactic
namespace Go.Proofs.YtmlbkenbgajkmaaDoor
open Go.RowKit

theorem bits_next (t : Nat) (h0 : 0 < t) (ht : t < 18446744073709551616) :
    ∃ t' : Nat, bits .and .u64 (t : Int) ((t : Int) - 1) = (t' : Int) ∧ t' < t ∧ t' < 18446744073709551616 ∧ bl t 64 = Lib.ctz 64 t :: bl t' 64 := by
  obtain ⟨m, hm, hc⟩ := Lib.ctzFrom_spec 64 t h0 (by simpa using ht)
  have e : Lib.ctz 64 t = Lib.ctzFrom 64 t := by unfold Lib.ctz; rw [if_neg (by omega)]
  rw [e]
  generalize Lib.ctzFrom 64 t = c at *
  obtain ⟨s1, s2, s3⟩ := strike_low c m
  rw [← hm] at s1 s2 s3
  refine ⟨t &&& (t - 1), ?_, ?_, ?_, bl_step t _ c s1 s2 s3 64 hc⟩
  · rw [show (t : Int) - 1 = ((t - 1 : Nat) : Int) by omega]
    exact u64_and_nat t (t - 1) ht (by omega)
  · have : t &&& (t - 1) ≤ t - 1 := Nat.and_le_right
    omega
  · have : t &&& (t - 1) ≤ t - 1 := Nat.and_le_right
    omega

theorem bitsList_any (s : Nat) (hs : s < 18446744073709551616) (w : World) (hT : Tab w) :
    Calls Tryd.prog 18 #[.int .u64 s] w fun e w' => ∃ v, e = .returned v ∧ Own w' w.heap.size 3 1 v (bl s 64).length (iv (ints (bl s 64))) ∧ Below w.heap.size w w' := by
  obtain ⟨i0, hi0, hz0, hz1, hz2⟩ := info_parts info_int
  have hT' : ∀ wr, Below w.heap.size w wr → Tab wr := fun wr hb k hk => (hb.cell (World.block_lt_of_cell? w _ (hT k hk))).trans (hT k hk)
  have HT := Lib.hid hT'
  clear hT hT'
  have hl := bl_len s 64
  go_enter Tryd.func18, Tryd.ntmps18
  go_wp2
  go_loopw [0, 3] (fun u v wr => ∃ (t : Nat) (d : List Nat), t < 18446744073709551616 ∧ u = .int .u64 t ∧ Own wr w.heap.size 3 1 v d.length (iv (ints d)) ∧ Below w.heap.size w wr ∧ Hid (bl s 64 = d ++ bl t 64)) (fun u _ _ => (intOf u).toNat)
  case atStart => exact ⟨s, [], hs, rfl, Own.none_ _ _ _ _ _, Below.refl _ _, Lib.hid (List.nil_append _).symm⟩
  case round =>
    obtain ⟨t, d, ht, rfl, hown, hbel, hd⟩ := hrel
    by_cases h0 : t = 0
    · subst h0
      have e : bl s 64 = d := by rw [hd.out, bl_zero, List.append_nil]
      have E := Lib.hid e
      clear e hd
      go_wp2
      go_ret
      exact ⟨_, rfl, by rw [E.out]; exact hown, hbel⟩
    · have hne : ((t : Int) != 0) = true := by rw [bne_iff_ne]; omega
      have h1 : 1 ≤ (t : Int) := by omega
      obtain ⟨t', e1, hlt, ht', hbl⟩ := bits_next t (by omega) ht
      have hdl : d.length + 1 ≤ 64 := by
        have := congrArg List.length hd.out
        rw [hbl] at this
        simp at this
        omega
      have D := Lib.hid (show bl s 64 = (d ++ [Lib.ctz 64 t]) ++ bl t' 64 by rw [hd.out, hbl]; simp only [List.append_assoc, List.singleton_append])
      clear hbl hd
      go_wp2_with (first
        | (go_at_call 22; refine (tz_any t (by omega) ht _ (HT.out _ hbel)).mono ?_; rintro e w' ⟨rfl, rfl⟩)
        | (at_builtin; refine wpList_append_gen _ rfl _ _ _ _ rfl w.heap.size 3 i0 _ 1 8 Tryd.underlying23 hi0 hz0 hz1 hz2 rfl _ _ _ rfl (hown.alloc _) _ 1 _ rfl (src_one _ _ Tryd.underlying23 rfl) ?c1 ?c2 ?c3 ?_))
      case c1 => unfold maxLen; omega
      case c2 => omega
      case c3 => have := hbel.size; simp; omega
      intro v' w1 hown' hk1 _
      have hb1 : Below w.heap.size w w1 := (Keep.trans (S := fun k => w.heap.size ≤ k) ((Keep.of_below hbel).alloc _) hk1 (fun x hx ht => (hown.ownB x ht).1)).below (Nat.le_refl _) (fun x hx => by omega)
      clear hk1 hown hbel
      go_wp2
      go_roundw
      case rel => exact ⟨t', d ++ [Lib.ctz 64 t], ht', rfl, by simpa [ints, iv] using hown', hb1, D⟩
      case measure => simp [intOf]; omega

theorem sameList_any (xs ys : List Int) (A B : Option Addr) (n m c d : Nat) (F G : Nat → Prop) (w : World) (ha : Rd w F A n (iv xs)) (hb : Rd w G B m (iv ys)) (hn : n ≤ 4611686018427387904) (hm : m ≤ 4611686018427387904) :
    Calls Tryd.prog 19 #[.slice A n c, .slice B m d] w fun e w' => e = .returned (.bool (decide (xs = ys))) ∧ ∃ k, w' = w.drewN k := by
  have la : xs.length = n := by have := ha.1; simpa [iv] using this
  have lb : ys.length = m := by have := hb.1; simpa [iv] using this
  by_cases hnm : n = m
  · subst hnm
    have h0 : ((n : Int) != n) = false := by simp
    have HX := Lib.hid (show ∀ k, k < n → xs[k]? = some (xs.getD k 0) by
      intro k hk; rw [List.getElem?_eq_getElem (by omega), List.getD_eq_getElem?_getD, List.getElem?_eq_getElem (by omega)]; rfl)
    have HY := Lib.hid (show ∀ k, k < n → ys[k]? = some (ys.getD k 0) by
      intro k hk; rw [List.getElem?_eq_getElem (by omega), List.getD_eq_getElem?_getD, List.getElem?_eq_getElem (by omega)]; rfl)
    have L := Lib.hid (And.intro la lb)
    clear la lb
    go_enter Tryd.func19, Tryd.ntmps19
    go_wp2
    go_loopw [5] (fun i wr => ∃ (k q : Nat), k ≤ n ∧ i = .int .i64 k ∧ wr = w.drewN q ∧ Hid (xs.take k = ys.take k)) (fun i _ => n - (intOf i).toNat)
    case atStart => exact ⟨0, 0, by omega, rfl, rfl, Lib.hid rfl⟩
    case round =>
      obtain ⟨k, q, hk, rfl, rfl, ht⟩ := hrel
      by_cases hlt : k < n
      · obtain ⟨b1, o1, rfl, _, c1⟩ := ha.at_ hlt
        obtain ⟨b2, o2, rfl, _, c2⟩ := hb.at_ hlt
        have c1 := c1 k (.int .i64 (xs.getD k 0)) (by rw [iv, List.getElem?_map, HX.out k hlt]; rfl)
        have c2 := c2 k (.int .i64 (ys.getD k 0)) (by rw [iv, List.getElem?_map, HY.out k hlt]; rfl)
        have T := Lib.hid (show xs.take (k + 1) = xs.take k ++ [xs.getD k 0] ∧ ys.take (k + 1) = ys.take k ++ [ys.getD k 0] by
          constructor
          · rw [List.take_add_one, HX.out k hlt]; rfl
          · rw [List.take_add_one, HY.out k hlt]; rfl)
        generalize xs.getD k 0 = x at *
        generalize ys.getD k 0 = y at *
        have hi : (k : Int) < (n : Int) := by omega
        by_cases hxy : x = y
        · subst hxy
          have hx : (x != x) = false := by simp
          go_wp2
          go_quiet (fail)
          go_wp2
          go_roundw
          case rel => exact ⟨k + 1, _, by omega, by go_num, rfl, Lib.hid (by rw [T.out.1, T.out.2, ht.out])⟩
          case measure => simp [intOf]; omega
        · have hx : (x != y) = true := by simpa using hxy
          have hf := Lib.hid (show decide (xs = ys) = false by
            rw [decide_eq_false_iff_not]; rintro rfl
            have := T.out.1.symm.trans T.out.2
            simp at this
            exact hxy this)
          go_wp2
          go_quiet (fail)
          go_wp2
          go_ret
          exact ⟨ret_bool hf.out.symm, _, World.drewN_drewN _ _ _⟩
      · have hf := Lib.hid (show decide (xs = ys) = true by
          rw [decide_eq_true_iff]
          have := ht.out
          rwa [List.take_of_length_le (by rw [L.out.1]; omega), List.take_of_length_le (by rw [L.out.2]; omega)] at this)
        go_wp2
        go_ret
        exact ⟨ret_bool hf.out.symm, q, rfl⟩
  · have h0 : ((n : Int) != m) = true := by rw [bne_iff_ne]; omega
    have hf : Hid (decide (xs = ys) = false) := by
      show decide (xs = ys) = false
      rw [decide_eq_false_iff_not]; rintro rfl; omega
    clear ha hb la lb
    go_enter Tryd.func19, Tryd.ntmps19
    go_wp2
    go_ret
    exact ⟨ret_bool hf.out.symm, 0, rfl⟩

theorem live05_list : ints (bl 21 64) = [0, 2, 4] := by decide +kernel

theorem live05_any (w : World) (hT : Tab w) :
    Calls Tryd.prog 10 #[] w fun e w' => e = .returned (.bool true) ∧ Below w.heap.size w w' := by
  have hl := bl_len 21 64
  have hf := Lib.hid (show decide (ints (bl 21 64) = [0, 2, 4]) = true by rw [live05_list]; decide)
  go_enter Tryd.func10, Tryd.ntmps10
  go_wp2_with fail
  refine (bitsList_any 21 (by omega) _ hT).mono ?_
  rintro e w1 ⟨v, rfl, hown, hb⟩
  obtain ⟨A, c, rfl, hrd⟩ := hown.form
  clear hown
  rw [Nat.mul_one] at hrd
  generalize (bl 21 64).length = n at *
  go_wp2_with fail
  refine (sameList_any _ [0, 2, 4] A _ n 3 c 3 _ _ _ (hrd.alloc _) (Rd.lit w1 3 (iv [0, 2, 4])) (by omega) (by omega)).mono ?_
  rintro e w2 ⟨rfl, q, rfl⟩
  rw [hf.out]
  go_wp2
  go_ret
  exact ⟨rfl, below_drewN (hb.alloc hb.size _) q⟩
end Go.Proofs.YtmlbkenbgajkmaaDoor

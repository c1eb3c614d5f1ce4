/- vivariumlaw01.live; the walk of vivariumlaw01.LeGets: it returns true, old memory unchanged. -/
import Derived.Test.YtmlbkenbgajkmaaProg
import Derived.Test.YtmlbkenbgajkmaaLe2
import Derived.Test.YtmlbkenbgajkmaaLe3
namespace Go.Proofs.Ytmlbkenbgajkmaa
open Go.RowKit
set_option maxRecDepth 100000

theorem By.lit (w : World) (e : TypeId) (l : List UInt8) (h : l.length ≤ 4611686018427387904) : By (w.alloc (.cells (bv l).toArray e)) (fun k => k = w.heap.size) (.slice (some ⟨w.heap.size, 0, none⟩) l.length l.length) l := by
  have := Sl.lit w e (bv l) (by rw [bv_len]; unfold maxLen; omega)
  rw [bv_len] at this
  exact this
theorem By.nil (w : World) (F : Nat → Prop) : By w F (.slice none 0 0) [] := Sl.nil w F 1
theorem Own.by_ {w : World} {base : Nat} {e : TypeId} {v : Value} {l : List UInt8} (h : Own w base e 1 v l.length (bv l)) : By w (fun k => base ≤ k) v l := h.sl

theorem live01_any (w : World) :
    Calls Try.prog 12 #[] w fun e w' => e = .returned (.bool true) ∧ Below w.heap.size w w' := by
  have B1 := Lib.hid (By.lit w 5 [255] (by decide))
  have hw1 : wideN 1 = 1 := by decide
  have hw2 : wideN 2 = 2 := by decide
  have G := Lib.hid (get_yes [255] _ _ 0 1 _ B1.out (by rw [hw1]; decide))
  rw [hw1, show wrap64 (getN (pieceOf [255] 0 1)) = 255 by simp [pieceOf, getN, wrap64]] at G
  have P := Lib.hid (fun w => put_any [] (.slice none 0 0) (fun _ => True) 2 258 w (By.nil _ _) (by decide))
  rw [hw2, show ([] ++ leB (word 258) 2 : List UInt8) = [2, 1] by decide] at P
  clear hw1 hw2
  go_enter Try.func12, Try.ntmps12
  go_wp2_with fail
  refine G.out.mono ?_
  rintro e w' ⟨rfl, rfl⟩
  go_wp2_with fail
  refine (P.out _).mono ?_
  rintro e w1 ⟨u, rfl, hown, hb1⟩
  have hs := same_any [2, 1] [2, 1] u _ _ _ (w1.alloc (.cells (bv [2, 1]).toArray 5)) (hown.by_.alloc _) (By.lit w1 5 [2, 1] (by decide))
  rw [decide_eq_true rfl] at hs
  have HS := Lib.hid hs
  clear hs hown
  go_wp2_with fail
  refine HS.out.mono ?_
  rintro e w' ⟨rfl, rfl⟩
  go_wp2
  go_ret
  refine ⟨rfl, ?_⟩
  have h0 : Below w.heap.size w (w.alloc (.cells (bv [255]).toArray 5)) := (Below.refl _ w).alloc (Nat.le_refl _) _
  have h1 := h0.trans (hb1.mono h0.size)
  exact h1.alloc h1.size _

theorem leGets_walk (l : List UInt8) (v : Value) (F : Nat → Prop) (at_ width n : Int) (w : World) (hv : By w F v l) (hlo : -9223372036854775808 ≤ at_) (hhi : at_ ≤ 9223372036854775807)
    (nlo : -9223372036854775808 ≤ n) (nhi : n ≤ 9223372036854775807) (wlo : -9223372036854775808 ≤ width) (whi : width ≤ 9223372036854775807) :
    Calls Try.prog 3 #[v, .int .i64 at_, .int .i64 width, .int .i64 n] w fun e w' => e = .returned (.bool true) ∧ Below w.heap.size w w' := by
  have H := Lib.hid hv
  by_cases hlen : 300 < l.length
  · obtain ⟨A, c, rfl, h1, h2, h3, h4⟩ := hv
    clear h3 h4
    go_enter Try.func3, Try.ntmps3
    go_wp2_with (go_at_call 12; refine (live01_any _).mono ?_; rintro e w2 ⟨rfl, hb2⟩)
    go_ret
    exact ⟨rfl, hb2⟩
  · have G1 := Lib.hid (get_any l v F at_ width w hv hlo hhi)
    have G2 := Lib.hid (refGet_any l v F at_ width w hv hlo hhi)
    have P := Lib.hid (put_any l v F width n w hv (by omega))
    have G3 := Lib.hid (fun u w1 (h : By w1 (fun k => w.heap.size ≤ k) u (l ++ leB (word n) (wideN width))) => get_yes _ u _ l.length width w1 h (by rw [List.length_append, leB_len]; omega))
    rw [show pieceOf (l ++ leB (word n) (wideN width)) l.length (wideN width) = leB (word n) (wideN width) by unfold pieceOf; rw [List.drop_left, List.take_of_length_le (by rw [leB_len]; exact Nat.le_refl _)], getN_leB] at G3
    generalize getOk l at_ width = ok at *
    generalize getZ l at_ width = z at *
    have hw := wideN_in width
    have hm : wideN width = if width < 1 then 1 else if 8 < width then 8 else width.toNat := rfl
    generalize wideN width = m at *
    generalize leB (word n) m = q at *
    obtain ⟨A, c, rfl, h1, h2, h3, h4⟩ := hv
    clear h3 h4
    generalize l.length = len at *
    by_cases hw1 : width < 1
    · rw [if_pos hw1] at hm
      subst hm
      have e1 : (wrap64 ((word n : Int) % 256) == bits .and .i64 n 255) = true := by rw [beq_iff_eq]; exact want1 n
      go_enter Try.func3, Try.ntmps3
      go_wp2_with fail
      refine G1.out.mono ?_
      rintro e w' ⟨rfl, rfl⟩
      go_wp2_with fail
      refine G2.out.mono ?_
      rintro e w' ⟨rfl, rfl⟩
      go_wp2_with fail
      refine P.out.mono ?_
      rintro e w1 ⟨u, rfl, hown, hb1⟩
      have G4 := Lib.hid (G3.out u w1 hown.by_)
      clear G3 hown
      go_wp2_with fail
      refine G4.out.mono ?_
      rintro e w' ⟨rfl, rfl⟩
      go_wp2_with fail
      refine (live01_any _).mono ?_
      rintro e w2 ⟨rfl, hb2⟩
      go_wp2
      go_ret
      exact ⟨rfl, hb1.trans (hb2.mono hb1.size)⟩
    · by_cases hw8 : 8 ≤ width
      · have hm8 : m = 8 := by rw [hm, if_neg hw1]; split <;> omega
        subst hm8
        clear hm
        have e1 : (wrap64 ((word n : Int) % 18446744073709551616) == n) = true := by rw [beq_iff_eq]; exact want8 n nlo nhi
        go_enter Try.func3, Try.ntmps3
        go_wp2_with fail
        refine G1.out.mono ?_
        rintro e w' ⟨rfl, rfl⟩
        go_wp2_with fail
        refine G2.out.mono ?_
        rintro e w' ⟨rfl, rfl⟩
        go_wp2_with fail
        refine P.out.mono ?_
        rintro e w1 ⟨u, rfl, hown, hb1⟩
        have G4 := Lib.hid (G3.out u w1 hown.by_)
        clear G3 hown
        go_wp2_with fail
        refine G4.out.mono ?_
        rintro e w' ⟨rfl, rfl⟩
        go_wp2_with fail
        refine (live01_any _).mono ?_
        rintro e w2 ⟨rfl, hb2⟩
        go_wp2
        go_ret
        exact ⟨rfl, hb1.trans (hb2.mono hb1.size)⟩
      · obtain ⟨k, rfl⟩ := Int.eq_ofNat_of_zero_le (show 0 ≤ width by omega)
        have hmk : m = k := by rw [hm, if_neg hw1, if_neg (by omega), Int.toNat_natCast]
        subst hmk
        clear hm
        have e1 : (wrap64 ((word n : Int) % 256 ^ m) == bits .and .i64 n (wrap64 (wrap64 (2 ^ (8 * m)) - 1))) = true := by rw [beq_iff_eq]; exact want_m n m (by omega) (by omega)
        go_enter Try.func3, Try.ntmps3
        go_wp2_with fail
        refine G1.out.mono ?_
        rintro e w' ⟨rfl, rfl⟩
        go_wp2_with fail
        refine G2.out.mono ?_
        rintro e w' ⟨rfl, rfl⟩
        go_wp2_with fail
        refine P.out.mono ?_
        rintro e w1 ⟨u, rfl, hown, hb1⟩
        have G4 := Lib.hid (G3.out u w1 hown.by_)
        clear G3 hown
        go_wp2_with fail
        refine G4.out.mono ?_
        rintro e w' ⟨rfl, rfl⟩
        go_wp2_with fail
        refine (live01_any _).mono ?_
        rintro e w2 ⟨rfl, hb2⟩
        go_wp2
        go_ret
        exact ⟨rfl, hb1.trans (hb2.mono hb1.size)⟩
end Go.Proofs.Ytmlbkenbgajkmaa

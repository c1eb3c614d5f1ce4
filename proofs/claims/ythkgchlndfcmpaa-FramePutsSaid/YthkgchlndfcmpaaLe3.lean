/- Contracts of le.Get, vivariumref01.Get. -/
import Derived.Test.YthkgchlndfcmpaaProg
import Derived.Test.YthkgchlndfcmpaaLe1
namespace Go.Proofs.Ythkgchlndfcmpaa
open Go.RowKit
set_option maxRecDepth 100000

/-- The bytes of a number at a place. -/
def pieceOf (l : List UInt8) (at_ m : Nat) : List UInt8 := (l.drop at_).take m
theorem piece_len (l : List UInt8) (at_ m : Nat) (h : at_ + m ≤ l.length) : (pieceOf l at_ m).length = m := by
  unfold pieceOf
  rw [List.length_take, List.length_drop]; omega
theorem piece_at (l : List UInt8) (at_ m k : Nat) (hk : k < m) : (pieceOf l at_ m)[k]? = l[at_ + k]? := by
  unfold pieceOf
  rw [List.getElem?_take, if_pos hk, List.getElem?_drop]

theorem get_no (l : List UInt8) (v : Value) (F : Nat → Prop) (at_ width : Int) (w : World) (hv : By w F v l) (h : at_ < 0 ∨ (l.length : Int) < at_ + wideN width) (hlo : -9223372036854775808 ≤ at_) (hhi : at_ ≤ 9223372036854775807) :
    Calls Try.prog 101 #[v, .int .i64 at_, .int .i64 width] w fun e w' => e = .returned (.tuple #[.int .i64 0, .bool false]) ∧ w = w' := by
  obtain ⟨A, c, rfl, h1, h2, h3, h4⟩ := hv
  clear h3 h4
  unfold maxLen at h2
  have W := Lib.hid (wide_any width)
  have hw := wideN_in width
  generalize wideN width = m at *
  generalize l.length = n at *
  rcases (show at_ < 0 ∨ (0 ≤ at_ ∧ (n : Int) < at_) ∨ (0 ≤ at_ ∧ at_ ≤ n ∧ (n : Int) - at_ < m) by omega) with h | ⟨h, h'⟩ | ⟨h, h', h''⟩
  all_goals
    go_enter Try.func101, Try.ntmps101
    go_wp2_with (go_at_call 118; refine (W.out _).mono ?_; rintro e w' ⟨rfl, rfl⟩)
    go_ret2
    exact ⟨rfl, rfl⟩

theorem get_yes (l : List UInt8) (v : Value) (F : Nat → Prop) (at_ : Nat) (width : Int) (w : World) (hv : By w F v l) (h : at_ + wideN width ≤ l.length) :
    Calls Try.prog 101 #[v, .int .i64 at_, .int .i64 width] w fun e w' => e = .returned (.tuple #[.int .i64 (wrap64 (getN (pieceOf l at_ (wideN width)))), .bool true]) ∧ w = w' := by
  obtain ⟨A, c, rfl, h1, h2, h3, h4⟩ := hv
  clear h3
  unfold maxLen at h2
  have W := Lib.hid (wide_any width)
  have hw := wideN_in width
  have hp := Lib.hid (piece_len l at_ _ h)
  have hpa := Lib.hid (piece_at l at_ (wideN width))
  generalize wideN width = m at *
  obtain ⟨b, off, rfl, _, hc⟩ := h4.2 (by omega)
  have hcell := Lib.hid (show ∀ k, k < m → w.cell? ⟨b, off + at_ + k, none⟩ = some (.int .u8 (((pieceOf l at_ m).getD k 0).toNat : Int)) ∧ (pieceOf l at_ m)[k]? = some ((pieceOf l at_ m).getD k 0) by
    intro k hk
    obtain ⟨e1, e2⟩ := bv_at (l := pieceOf l at_ m) (k := k) (by rw [hp.out]; exact hk)
    refine ⟨?_, e2⟩
    rw [Nat.add_assoc]
    refine hc (at_ + k) _ ?_
    rw [← e1, bv, bv, List.getElem?_map, List.getElem?_map, hpa.out k hk])
  clear hc h4
  have hf := Lib.hid (show (pieceOf l at_ m).take m = pieceOf l at_ m from List.take_of_length_le (by rw [hp.out]; exact Nat.le_refl _))
  generalize pieceOf l at_ m = q at *
  generalize l.length = n at *
  go_enter Try.func101, Try.ntmps101
  go_wp2_with (go_at_call 118; refine (W.out _).mono ?_; rintro e w' ⟨rfl, rfl⟩)
  go_loop [6, 38] (fun x i => ∃ k : Nat, k ≤ m ∧ i = .int .i64 k ∧ x = .int .i64 (wrap64 (getN (q.take k)))) (fun _ i => m - (intOf i).toNat)
  case atStart => exact ⟨0, by omega, rfl, by simp [getN, wrap64]⟩
  case round =>
    obtain ⟨k, hk, rfl, rfl⟩ := hrel
    by_cases hlt : k < m
    · obtain ⟨c1, c2⟩ := hcell.out k hlt
      generalize q.getD k 0 = x at *
      have hi : (k : Int) < (m : Int) := by omega
      have N := Lib.hid (getN_take q k x c2)
      have hlen : (q.take k).length ≤ k := by rw [List.length_take]; omega
      have hN : getN (q.take k) < 256 ^ k := Nat.lt_of_lt_of_le (getN_lt _) (Nat.pow_le_pow_right (by omega) hlen)
      have e := or_shift (getN (q.take k)) x k (by omega) hN
      clear c2 hN hlen
      rw [← N.out] at e
      go_wp2
      go_round
      case rel => exact ⟨k + 1, by omega, by go_num, rfl⟩
      case measure => simp [intOf]; omega
    · obtain rfl : k = m := by omega
      rw [hf.out]
      go_wp2
      go_ret2
      exact ⟨rfl, rfl⟩

theorem refGet_no (l : List UInt8) (v : Value) (F : Nat → Prop) (at_ width : Int) (w : World) (hv : By w F v l) (h : at_ < 0 ∨ (l.length : Int) < at_ + wideN width) (hlo : -9223372036854775808 ≤ at_) (hhi : at_ ≤ 9223372036854775807) :
    Calls Try.prog 92 #[v, .int .i64 at_, .int .i64 width] w fun e w' => e = .returned (.tuple #[.int .i64 0, .bool false]) ∧ w = w' := by
  obtain ⟨A, c, rfl, h1, h2, h3, h4⟩ := hv
  clear h3 h4
  unfold maxLen at h2
  have W := Lib.hid (refWide_any width)
  have hw := wideN_in width
  generalize wideN width = m at *
  generalize l.length = n at *
  rcases (show at_ < 0 ∨ (0 ≤ at_ ∧ (n : Int) - m < at_) by omega) with h | ⟨h, h'⟩
  all_goals
    go_enter Try.func92, Try.ntmps92
    go_wp2_with (go_at_call 106; refine (W.out _).mono ?_; rintro e w' ⟨rfl, rfl⟩)
    go_ret2
    exact ⟨rfl, rfl⟩

theorem refGet_yes (l : List UInt8) (v : Value) (F : Nat → Prop) (at_ : Nat) (width : Int) (w : World) (hv : By w F v l) (h : at_ + wideN width ≤ l.length) :
    Calls Try.prog 92 #[v, .int .i64 at_, .int .i64 width] w fun e w' => e = .returned (.tuple #[.int .i64 (wrap64 (getN (pieceOf l at_ (wideN width)))), .bool true]) ∧ w = w' := by
  obtain ⟨A, c, rfl, h1, h2, h3, h4⟩ := hv
  clear h3
  unfold maxLen at h2
  have W := Lib.hid (refWide_any width)
  have hw := wideN_in width
  have hp := Lib.hid (piece_len l at_ _ h)
  have hpa := Lib.hid (piece_at l at_ (wideN width))
  generalize wideN width = m at *
  obtain ⟨b, off, rfl, _, hc⟩ := h4.2 (by omega)
  have hcell := Lib.hid (show ∀ k, k < m → w.cell? ⟨b, off + (at_ + k), none⟩ = some (.int .u8 (((pieceOf l at_ m).getD k 0).toNat : Int)) ∧ (pieceOf l at_ m)[k]? = some ((pieceOf l at_ m).getD k 0) by
    intro k hk
    obtain ⟨e1, e2⟩ := bv_at (l := pieceOf l at_ m) (k := k) (by rw [hp.out]; exact hk)
    refine ⟨?_, e2⟩
    refine hc (at_ + k) _ ?_
    rw [← e1, bv, bv, List.getElem?_map, List.getElem?_map, hpa.out k hk])
  clear hc h4
  have hlt64 := Lib.hid (show ∀ k, getN ((pieceOf l at_ m).drop k) < 256 ^ (m - k) from fun k => by
    have := getN_lt ((pieceOf l at_ m).drop k)
    rwa [List.length_drop, hp.out] at this)
  have hf := Lib.hid (show (pieceOf l at_ m).drop m = [] from List.drop_eq_nil_of_le (by rw [hp.out]; exact Nat.le_refl _))
  generalize pieceOf l at_ m = q at *
  generalize l.length = n at *
  go_enter Try.func92, Try.ntmps92
  go_wp2_with (go_at_call 106; refine (W.out _).mono ?_; rintro e w' ⟨rfl, rfl⟩)
  go_loop [9, 10] (fun x i => ∃ k : Nat, k ≤ m ∧ i = .int .i64 ((k : Int) - 1) ∧ x = .int .u64 (getN (q.drop k) : Nat)) (fun _ i => (intOf i + 1).toNat)
  case atStart => exact ⟨m, by omega, rfl, by rw [hf.out]; rfl⟩
  case round =>
    obtain ⟨k, hk, rfl, rfl⟩ := hrel
    rcases k with _ | k
    · go_wp2
      go_ret2
      exact ⟨rfl, rfl⟩
    · obtain ⟨c1, c2⟩ := hcell.out k (by omega)
      generalize q.getD k 0 = x at *
      have N := Lib.hid (getN_drop q k x c2)
      have hN : getN (q.drop (k + 1)) < 256 ^ 7 := Nat.lt_of_lt_of_le (hlt64.out (k + 1)) (Nat.pow_le_pow_right (by omega) (by omega))
      have hx : x.toNat < 256 := x.toNat_lt
      have hN' : getN (q.drop (k + 1)) < 72057594037927936 := hN
      clear c2 hN
      generalize getN (q.drop (k + 1)) = y at *
      go_wp2
      go_round
      case rel => exact ⟨k, by omega, rfl, by rw [N.out]; go_num⟩
      case measure => simp [intOf]

/-- Is a number there? -/
def getOk (l : List UInt8) (at_ width : Int) : Bool := decide (0 ≤ at_) && decide (at_ + wideN width ≤ l.length)
/-- Which? -/
def getZ (l : List UInt8) (at_ width : Int) : Int := if getOk l at_ width = true then wrap64 (getN (pieceOf l at_.toNat (wideN width))) else 0
theorem getOk_no {l : List UInt8} {at_ width : Int} (h : at_ < 0 ∨ (l.length : Int) < at_ + wideN width) : getOk l at_ width = false := by
  unfold getOk
  rcases h with h | h
  · rw [decide_eq_false (by omega)]; rfl
  · rw [decide_eq_false (p := at_ + wideN width ≤ l.length) (by omega)]; simp
theorem getOk_yes {l : List UInt8} {k : Nat} {width : Int} (h : k + wideN width ≤ l.length) : getOk l k width = true := by
  unfold getOk
  rw [decide_eq_true (by omega), decide_eq_true (by omega)]; rfl

theorem get_any (l : List UInt8) (v : Value) (F : Nat → Prop) (at_ width : Int) (w : World) (hv : By w F v l) (hlo : -9223372036854775808 ≤ at_) (hhi : at_ ≤ 9223372036854775807) :
    Calls Try.prog 101 #[v, .int .i64 at_, .int .i64 width] w fun e w' => e = .returned (.tuple #[.int .i64 (getZ l at_ width), .bool (getOk l at_ width)]) ∧ w = w' := by
  unfold getZ
  by_cases h : at_ < 0 ∨ (l.length : Int) < at_ + wideN width
  · rw [getOk_no h, if_neg (by simp)]
    exact get_no l v F at_ width w hv h hlo hhi
  · obtain ⟨k, rfl⟩ := Int.eq_ofNat_of_zero_le (show 0 ≤ at_ by omega)
    rw [getOk_yes (by omega), if_pos rfl, Int.toNat_natCast]
    exact get_yes l v F k width w hv (by omega)
theorem refGet_any (l : List UInt8) (v : Value) (F : Nat → Prop) (at_ width : Int) (w : World) (hv : By w F v l) (hlo : -9223372036854775808 ≤ at_) (hhi : at_ ≤ 9223372036854775807) :
    Calls Try.prog 92 #[v, .int .i64 at_, .int .i64 width] w fun e w' => e = .returned (.tuple #[.int .i64 (getZ l at_ width), .bool (getOk l at_ width)]) ∧ w = w' := by
  unfold getZ
  by_cases h : at_ < 0 ∨ (l.length : Int) < at_ + wideN width
  · rw [getOk_no h, if_neg (by simp)]
    exact refGet_no l v F at_ width w hv h hlo hhi
  · obtain ⟨k, rfl⟩ := Int.eq_ofNat_of_zero_le (show 0 ≤ at_ by omega)
    rw [getOk_yes (by omega), if_pos rfl, Int.toNat_natCast]
    exact refGet_yes l v F k width w hv (by omega)
end Go.Proofs.Ythkgchlndfcmpaa

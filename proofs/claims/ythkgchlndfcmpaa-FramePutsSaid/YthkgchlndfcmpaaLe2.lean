/- Contracts of le.Put, vivariumref01.Num. -/
import Derived.Test.YthkgchlndfcmpaaProg
import Derived.Test.YthkgchlndfcmpaaLe1
namespace Go.Proofs.Ythkgchlndfcmpaa
open Go.RowKit
set_option maxRecDepth 100000

theorem put_any (l : List UInt8) (v : Value) (F : Nat → Prop) (width n : Int) (w : World) (hv : By w F v l) (hn : l.length ≤ 35184372088832) :
    Calls Try.prog 95 #[v, .int .i64 width, .int .i64 n] w fun e w' => ∃ u, e = .returned u ∧ Own w' w.heap.size 5 1 u (l ++ leB (word n) (wideN width)).length (bv (l ++ leB (word n) (wideN width))) ∧ Below w.heap.size w w' := by
  obtain ⟨i0, hi0, hz0, hz1, hz2⟩ := info_parts info_byte
  have S := Lib.hid hv
  have HN := Lib.hid hn
  clear hn
  obtain ⟨A, c, rfl, h1, h2, h3, h4⟩ := hv
  have hv' : By w F (.slice A l.length l.length) l := ⟨A, l.length, rfl, Nat.le_refl _, by omega, fun h => by have := h3 h; omega, h4⟩
  have S := Lib.hid hv'
  clear h3 h4 hv'
  have W := Lib.hid (wide_any width)
  have hw := wideN_in width
  generalize hM : wideN width = m at *
  clear hM
  have hu := Lib.hid (leB_len (word n))
  have hb := Lib.hid (show ∀ k : Nat, k < 8 → n / 2 ^ (8 * k) % 256 = ((UInt8.ofNat (word n / 256 ^ k)).toNat : Int) from fun k hk => by rw [← IntKind.wrap_u8']; exact byte_of n k hk)
  generalize hL : l.length = len at *
  have HL := Lib.hid hL
  clear hL
  go_enter Try.func95, Try.ntmps95
  go_wp2_with fail
  refine (clone_any l _ F _ S.out (by rw [HL.out]; have := HN.out; omega)).mono ?_
  rintro e w1 ⟨u, rfl, hown, hb1⟩
  rw [HL.out] at hown
  go_wp2_with fail
  refine (W.out _).mono ?_
  rintro e w' ⟨rfl, rfl⟩
  go_wp2_with fail
  go_loopw [7, 18] (fun u i wr => ∃ k : Nat, k ≤ m ∧ i = .int .i64 k ∧ Own wr w.heap.size 5 1 u (len + k) (bv (l ++ leB (word n) k)) ∧ Below w.heap.size w wr) (fun _ i _ => m - (intOf i).toNat)
  case atStart => exact ⟨0, by omega, rfl, by simpa [leB] using hown, hb1⟩
  case round =>
    obtain ⟨k, hk, rfl, hown, hbel⟩ := hrel
    by_cases hlt : k < m
    · go_wp2_with (at_builtin; refine wpList_append_gen _ rfl _ _ _ _ rfl w.heap.size 5 i0 _ 1 1 Try.underlying37 hi0 hz0 hz1 hz2 rfl _ _ _ rfl (hown.alloc _) _ 1 _ rfl (src_one _ _ Try.underlying37 rfl) ?c1 ?c2 ?c3 ?_)
      case c1 => have := HN.out; unfold maxLen; omega
      case c2 => have := HN.out; omega
      case c3 => have := hbel.size; simp; omega
      intro v' w2 hown' hk1 _
      have hb2 := append_below hbel hown hk1
      clear hk1 hown hbel
      go_wp2
      go_roundw
      case rel => exact ⟨k + 1, by omega, by go_num, by rw [hb.out k (by omega)] at hown'; rw [leB, ← List.append_assoc, bv_append]; exact hown', hb2⟩
      case measure => simp [intOf]; omega
    · obtain rfl : k = m := by omega
      go_wp2
      go_ret
      exact ⟨_, rfl, by rw [List.length_append, HL.out, hu.out k]; exact hown, hbel⟩

theorem refNum_any (width n : Int) (w : World) :
    Calls Try.prog 56 #[.int .i64 width, .int .i64 n] w fun e w' => ∃ u, e = .returned u ∧ Own w' w.heap.size 5 1 u (leB (word n) (wideN width)).length (bv (leB (word n) (wideN width))) ∧ Below w.heap.size w w' := by
  obtain ⟨i0, hi0, hz0, hz1, hz2⟩ := info_parts info_byte
  have W := Lib.hid (refWide_any width)
  have hw := wideN_in width
  generalize hM : wideN width = m at *
  clear hM
  have hu := Lib.hid (leB_len (word n))
  have hb := Lib.hid (show ∀ k : Nat, ((word n / 256 ^ k : Nat) : Int) % 256 % 256 = ((UInt8.ofNat (word n / 256 ^ k)).toNat : Int) from fun k => by rw [u8_toNat]; omega)
  have hd := Lib.hid (word_div n)
  have hz := word_lt n
  have hq : ∀ k, word n / 256 ^ k ≤ word n := fun k => Nat.div_le_self _ _
  have H0 := Lib.hid (show IntKind.u64.wrap n = ((word n / 256 ^ 0 : Nat) : Int) by rw [u64_wrap]; unfold word; simp; omega)
  go_enter Try.func56, Try.ntmps56
  go_wp2
  go_loopw [5, 6, 7] (fun v u i wr => ∃ k : Nat, k ≤ m ∧ i = .int .i64 k ∧ u = .int .u64 (word n / 256 ^ k : Nat) ∧ Own wr w.heap.size 5 1 v k (bv (leB (word n) k)) ∧ Below w.heap.size w wr) (fun _ _ i _ => m - (intOf i).toNat)
  case atStart =>
    exact ⟨0, by omega, rfl, by rw [← H0.out], Own.none_ _ _ _ _ _, Below.refl _ _⟩
  case round =>
    obtain ⟨k, hk, rfl, rfl, hown, hbel⟩ := hrel
    have hq := hq k
    have E := Lib.hid (And.intro (hb.out k) (hd.out k))
    have L := Lib.hid (show leB (word n) (k + 1) = leB (word n) k ++ [UInt8.ofNat (word n / 256 ^ k)] from rfl)
    generalize word n / 256 ^ k = q at *
    by_cases hlt : k < m
    · go_wp2_with (first
        | (go_at_call 106; refine (W.out _).mono ?_; rintro e w' ⟨rfl, rfl⟩)
        | (at_builtin; refine wpList_append_gen _ rfl _ _ _ _ rfl w.heap.size 5 i0 _ 1 1 Try.underlying37 hi0 hz0 hz1 hz2 rfl _ _ _ rfl (hown.alloc _) _ 1 _ rfl (src_one _ _ Try.underlying37 rfl) ?c1 ?c2 ?c3 ?_))
      case c1 => unfold maxLen; omega
      case c2 => omega
      case c3 => have := hbel.size; simp; omega
      intro v' w2 hown' hk1 _
      have hb2 := append_below hbel hown hk1
      clear hk1 hown hbel
      go_wp2
      go_roundw
      case rel => exact ⟨k + 1, by omega, by go_num, by rw [E.out.2]; go_num, by rw [L.out, bv_append]; simpa [bv] using hown', hb2⟩
      case measure => simp [intOf]; omega
    · obtain rfl : k = m := by omega
      go_wp2_with (go_at_call 106; refine (W.out _).mono ?_; rintro e w' ⟨rfl, rfl⟩)
      go_ret
      exact ⟨_, rfl, by rw [hu.out k]; exact hown, hbel⟩
end Go.Proofs.Ythkgchlndfcmpaa

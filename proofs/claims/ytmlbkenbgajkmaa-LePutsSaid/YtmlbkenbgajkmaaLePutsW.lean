/- The walk of vivariumlaw01.LePuts: it returns true, old memory unchanged. -/
import Derived.Test.YtmlbkenbgajkmaaProg
import Derived.Test.YtmlbkenbgajkmaaLe4
import Derived.Test.YtmlbkenbgajkmaaLeGetsW
namespace Go.Proofs.Ytmlbkenbgajkmaa
open Go.RowKit

theorem lePuts_live (l : List UInt8) (v : Value) (F : Nat → Prop) (width n : Int) (s : ByteArray) (w : World) (hv : By w F v l) (hs : s.size ≤ 9223372036854775807) (h : 300 < l.length ∨ 300 < s.size) :
    Calls Try.prog 4 #[v, .int .i64 width, .int .i64 n, .string s] w fun e w' => e = .returned (.bool true) ∧ Below w.heap.size w w' := by
  obtain ⟨A, c, rfl, h1, h2, h3, h4⟩ := hv
  clear h3 h4
  by_cases h0 : 300 < l.length
  · clear h
    go_enter Try.func4, Try.ntmps4
    go_wp2_with (go_at_call 12; refine (live01_any _).mono ?_; rintro e w2 ⟨rfl, hb2⟩)
    go_ret
    exact ⟨rfl, hb2⟩
  · have h0' : 300 < s.size := by omega
    clear h
    go_enter Try.func4, Try.ntmps4
    go_wp2_with (go_at_call 12; refine (live01_any _).mono ?_; rintro e w2 ⟨rfl, hb2⟩)
    go_ret
    exact ⟨rfl, hb2⟩

set_option maxHeartbeats 400000 in
theorem lePuts_main (l : List UInt8) (v : Value) (F : Nat → Prop) (width n : Int) (s : ByteArray) (w : World) (hv : By w F v l) (hl : l.length ≤ 300) (hs : s.size ≤ 300) :
    Calls Try.prog 4 #[v, .int .i64 width, .int .i64 n, .string s] w fun e w' => e = .returned (.bool true) ∧ Below w.heap.size w w' := by
  obtain ⟨i0, hi0, hz0, hz1, hz2⟩ := info_parts info_byte
  have H := Lib.hid hv
  have P1 := Lib.hid (put_any l v F width n w hv (by omega))
  have P2 := Lib.hid (refNum_any width n)
  have P3 := Lib.hid (fun w' (h : Below w.heap.size w w') => putText_any l v F s w' (hv.below h) (by omega) (by omega))
  have P4 := Lib.hid (fun w' => refText_any s w' (by omega))
  have P5 := Lib.hid (fun k w' (h : Below w.heap.size w w') => cut_any l v F k w' (hv.below h))
  have P6 := Lib.hid (fun k w' (h : Below w.heap.size w w') => refCut_any l v F k w' (hv.below h))
  have L1 := Lib.hid (show (leB (word n) (wideN width)).length ≤ 8 by rw [leB_len]; exact (wideN_in width).2)
  have L2 := Lib.hid (textB_len (sb s))
  have L3 := Lib.hid (cutB_len l)
  generalize leB (word n) (wideN width) = q1 at *
  generalize textB (sb s) = q2 at *
  obtain ⟨A, c, rfl, h1, h2, h3, h4⟩ := hv
  clear h3 h4
  have d1 : decide ((300 : Int) < (l.length : Int)) = false := by rw [decide_eq_false_iff_not]; omega
  have d2 : decide ((300 : Int) < (s.size : Int)) = false := by rw [decide_eq_false_iff_not]; omega
  have HL := Lib.hid hl
  clear hl hs h1 h2
  go_enter Try.func4, Try.ntmps4
  go_wp2_with fail
  refine P1.out.mono ?_
  rintro e w1 ⟨u1, rfl, hown1, hb1⟩
  have B1 := Lib.hid hown1.by_
  have HS := Lib.hid (By.src (P := Try.prog) ((H.out.below hb1).alloc (.cells #[] 5)) Try.underlying22)
  clear hown1
  go_wp2_with (at_builtin; refine wpList_append_gen _ rfl (.tmp 25) (.tmp 26) _ _ rfl w1.heap.size 5 i0 _ 1 1 Try.underlying22 hi0 hz0 hz1 hz2 rfl _ _ _ rfl (Own.none_ _ _ _ _ _) _ _ _ rfl HS.out ?c1 ?c2 ?c3 ?_)
  case c1 => have := HL.out; unfold maxLen; omega
  case c2 => have := HL.out; omega
  case c3 => simp
  intro v2 w2 hown2 hk2 _
  have hb2 := append_below (Below.refl _ w1) (Own.none_ w1 w1.heap.size 5 1 _) hk2
  clear hk2
  go_wp2_with fail
  refine (P2.out w2).mono ?_
  rintro e w3 ⟨u3, rfl, hown3, hb3⟩
  have ho2 := hown2.keep (Keep.of_below' hb3) (fun _ _ h => h)
  have X3 := Lib.hid (By.src (P := Try.prog) hown3.by_ Try.underlying22)
  clear hown2 hown3
  go_wp2_with (at_builtin; refine wpList_append_gen _ rfl (.tmp 27) (.tmp 30) _ _ rfl w1.heap.size 5 i0 _ 1 1 Try.underlying22 hi0 hz0 hz1 hz2 rfl _ _ _ rfl ho2 _ _ _ rfl X3.out ?d1 ?d2 ?d3 ?_)
  case d1 => have := HL.out; have := L1.out; unfold maxLen; omega
  case d2 => have := HL.out; have := L1.out; omega
  case d3 => have := hb2.size; have := hb3.size; omega
  intro v4 w4 hown4 hk4 _
  have hb24 := hb2.trans (hb3.mono hb2.size)
  have hb4 := append_below0 hb24 ho2 hk4
  have B4 := Lib.hid (Own.by_ (hown4.re (bv_append l q1).symm (bv_len (l ++ q1))))
  have hb14 := hb1.trans (hb4.mono hb1.size)
  clear hk4 hown4 ho2 hb3 hb2 hb24
  have SM := Lib.hid (same_any _ _ _ _ _ _ w4 (B1.out.below hb4) B4.out)
  rw [decide_eq_true rfl] at SM
  go_wp2_with fail
  refine SM.out.mono ?_
  rintro e w' ⟨rfl, rfl⟩
  go_wp2_with fail
  refine (P3.out w4 hb14).mono ?_
  rintro e w5 ⟨u5, rfl, hown5, hb5⟩
  have hb15 := hb14.trans (hb5.mono hb14.size)
  have B5 := Lib.hid hown5.by_
  have HS5 := Lib.hid (By.src (P := Try.prog) ((H.out.below hb15).alloc (.cells #[] 5)) Try.underlying22)
  clear hown5 hb4 hb5
  go_wp2_with (at_builtin; refine wpList_append_gen _ rfl (.tmp 37) (.tmp 38) _ _ rfl w5.heap.size 5 i0 _ 1 1 Try.underlying22 hi0 hz0 hz1 hz2 rfl _ _ _ rfl (Own.none_ _ _ _ _ _) _ _ _ rfl HS5.out ?f1 ?f2 ?f3 ?_)
  case f1 => have := HL.out; unfold maxLen; omega
  case f2 => have := HL.out; omega
  case f3 => simp
  intro v6 w6 hown6 hk6 _
  have hb6 := append_below (Below.refl _ w5) (Own.none_ w5 w5.heap.size 5 1 _) hk6
  clear hk6
  go_wp2_with fail
  refine (P4.out w6).mono ?_
  rintro e w7 ⟨u7, rfl, hown7, hb7⟩
  have ho6 := hown6.keep (Keep.of_below' hb7) (fun _ _ h => h)
  have X7 := Lib.hid (By.src (P := Try.prog) hown7.by_ Try.underlying22)
  clear hown6 hown7
  go_wp2_with (at_builtin; refine wpList_append_gen _ rfl (.tmp 39) (.tmp 41) _ _ rfl w5.heap.size 5 i0 _ 1 1 Try.underlying22 hi0 hz0 hz1 hz2 rfl _ _ _ rfl ho6 _ _ _ rfl X7.out ?g1 ?g2 ?g3 ?_)
  case g1 => have := HL.out; have := L2.out; unfold maxLen; omega
  case g2 => have := HL.out; have := L2.out; omega
  case g3 => have := hb6.size; have := hb7.size; omega
  intro v8 w8 hown8 hk8 _
  have hb68 := hb6.trans (hb7.mono hb6.size)
  have hb8 := append_below0 hb68 ho6 hk8
  have B8 := Lib.hid (Own.by_ (hown8.re (bv_append l q2).symm (bv_len (l ++ q2))))
  have hb18 := hb15.trans (hb8.mono hb15.size)
  have SM8 := Lib.hid (same_any _ _ _ _ _ _ w8 (B5.out.below hb8) B8.out)
  rw [decide_eq_true rfl] at SM8
  clear hk8 hown8 ho6 hb7 hb6 hb68 hb8 hb14 hb15
  go_wp2_with fail
  refine SM8.out.mono ?_
  rintro e w' ⟨rfl, rfl⟩
  go_wp2_with fail
  refine (P5.out _ w8 hb18).mono ?_
  rintro e w9 ⟨u9, rfl, hown9, hb9⟩
  have hb19 := hb18.trans (hb9.mono hb18.size)
  go_wp2_with fail
  refine (P6.out _ w9 hb19).mono ?_
  rintro e w10 ⟨u10, rfl, hown10, hb10⟩
  have hb110 := hb19.trans (hb10.mono hb19.size)
  have SM10 := Lib.hid (same_any _ _ _ _ _ _ w10 ((Own.by_ (hown9.re rfl (by rw [bv_len, L3.out]))).below hb10) (Own.by_ (hown10.re rfl (by rw [bv_len, L3.out]))))
  rw [decide_eq_true rfl] at SM10
  clear hown9 hown10 hb9 hb10 hb18 hb19
  go_wp2_with fail
  refine SM10.out.mono ?_
  rintro e w' ⟨rfl, rfl⟩
  go_wp2_with fail
  refine (live01_any _).mono ?_
  rintro e w11 ⟨rfl, hb11⟩
  go_wp2
  go_ret
  exact ⟨rfl, hb110.trans (hb11.mono hb110.size)⟩

theorem lePuts_walk (l : List UInt8) (v : Value) (F : Nat → Prop) (width n : Int) (s : ByteArray) (w : World) (hv : By w F v l) (hs : s.size ≤ 9223372036854775807) :
    Calls Try.prog 4 #[v, .int .i64 width, .int .i64 n, .string s] w fun e w' => e = .returned (.bool true) ∧ Below w.heap.size w w' := by
  by_cases h : 300 < l.length ∨ 300 < s.size
  · exact lePuts_live l v F width n s w hv hs h
  · exact lePuts_main l v F width n s w hv (by omega) (by omega)
end Go.Proofs.Ytmlbkenbgajkmaa

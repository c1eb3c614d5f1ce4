/- Contracts of seal.Put, Epochs, Top; vivariumref03.Epochs, Top. -/
import Derived.Test.YtakchlaoimnnhaaSeal2
namespace Go.Proofs.Ytakchlaoimnnhaa
open Go.RowKit
set_option maxRecDepth 100000
set_option linter.unusedVariables false

/-- A call that hands back bytes in new memory. -/
def ByPost (w : World) (l : List UInt8) (e : Ending) (w' : World) : Prop := ∃ A n c, e = .returned (.slice A n c) ∧ By w' (fun k => w.heap.size ≤ k) (.slice A n c) l ∧ Below w.heap.size w w'
set_option maxHeartbeats 1000000 in
theorem sput_any (x : SV) (u : Value) (F : Nat → Prop) (w : World) (hb : By w F u x.bd) :
    Calls Try.prog 31 #[.agg #[.int .i64 x.ep, .int .i64 x.no, .int .i64 x.kd, u]] w (ByPost w (sealB x)) := by
  obtain ⟨ZV, hsz⟩ := zero_of_info zero_sector
  have MA := Lib.hid (fun W (hk : Keep (fun _ => False) w W) => made_any x u F W (hb.keep hk (fun _ _ _ h => h)))
  obtain ⟨Z, hZ⟩ : ∃ Z, Z = (bv (zs 512)).toArray := ⟨_, rfl⟩
  rw [← hZ] at ZV
  have HZ := Lib.hid (show Z.size = (bv (sealB x)).toArray.size by rw [hZ, List.size_toArray, List.size_toArray, bv_len, bv_len, zs_len, sealB_len])
  have HSZ := Lib.hid (show (Try.prog.info? 99).map (·.size) = some (bv (sealB x)).toArray.size by rw [List.size_toArray, bv_len, sealB_len]; exact hsz)
  have C1 := Lib.hid (show (bv (sealB x)).toArray.all (·.oneCell') = true from all_oneCell_toArray (bv_one _))
  have SL := Lib.hid (sealB_len x)
  obtain ⟨A, c, rfl, -⟩ := hb
  generalize x.bd.length = L at *
  clear hZ hsz
  go_enter Try.func31, Try.ntmps31
  go_wp2_with fail
  refine (MA.out _ (by exact (by repeat first | exact Keep.refl _ _ | refine Keep.alloc ?_ _ | refine Keep.drew ?_ | refine Keep.drewN ?_ _))).mono ?_
  rintro e w1 ⟨rfl, hb1⟩
  have K1 := Lib.hid (show Keep (fun _ => False) w w1 from Keep.trans (by exact (by repeat first | exact Keep.refl _ _ | refine Keep.alloc ?_ _ | refine Keep.drew ?_ | refine Keep.drewN ?_ _)) (Keep.of_below' hb1) (fun _ _ h => h))
  clear hb1
  generalize hA : (bv (sealB x)).toArray = S at *
  have HS := Lib.hid hA
  clear hA
  go_wp2_with (refine wpList_store_row rfl _ _ _ rfl w1.heap.size _ rfl rfl 99 Z (heap_alloc_new w1 _) HSZ.out HZ.out C1.out ?_)
  go_wp2
  go_ret
  have hr : Arr ((w1.alloc (.cells Z 99)).setRow w1.heap.size S) w1.heap.size (sealB x) := ⟨by rw [HS.out]; exact setRow_heap _ _ _ _ _ (0, 0) (heap_alloc_new w1 _), SL.out⟩
  refine ⟨_, _, _, rfl, ?_, ?_⟩
  · have := hr.by_ (lo := 0) (m := 512) (c := 512) (by omega) (by omega) (by unfold maxLen; omega)
    rw [List.drop_zero, List.take_of_length_le (by rw [SL.out]; omega)] at this
    exact this.mono (fun b _ h => by have := K1.out.size; omega)
  · exact ((K1.out.alloc _).setRow (g := w1.heap.size) (.inl K1.out.size) _).to_below'

/-- The word at a place, if it may be an epoch. -/
def wordE (s : List UInt8) (at_ : Nat) : Int := if wordZ s at_ < 0 ∨ 281474976710656 < wordZ s at_ then -1 else wordZ s at_
theorem getZ_word {s : List UInt8} {at_ : Nat} (h : at_ + 8 ≤ s.length) : getZ s at_ 8 = wordZ s at_ ∧ getOk s at_ 8 = true := by
  have hw : wideN 8 = 8 := rfl
  have ho : getOk s at_ 8 = true := getOk_yes (by rw [hw]; exact h)
  unfold getZ
  rw [ho, if_pos rfl, hw, Int.toNat_natCast]
  exact ⟨rfl, rfl⟩
theorem wrap64_bd (z : Int) : -9223372036854775808 ≤ wrap64 z ∧ wrap64 z ≤ 9223372036854775807 := by unfold wrap64; omega
set_option maxHeartbeats 2000000 in
theorem sword_any (s : List UInt8) (v : Value) (F : Nat → Prop) (at_ : Nat) (z : Int) (hz : z = at_) (w : World) (hv : By w F v s) (h : at_ + 8 ≤ s.length) (hl : s.length = 512) :
    Calls Try.prog 78 #[v, .int .i64 z] w fun e w' => e = .returned (.int .i64 (wordE s at_)) ∧ w = w' := by
  subst hz
  have G := Lib.hid (get_any s v F at_ 8 w hv (by omega) (by omega))
  rw [(getZ_word h).1, (getZ_word h).2] at G
  obtain ⟨A, c, rfl, -⟩ := hv
  have W1 := Lib.hid (show wordZ s at_ < 0 ∨ 281474976710656 < wordZ s at_ → wordE s at_ = -1 from fun h => by unfold wordE; rw [if_pos h])
  have W2 := Lib.hid (show ¬ (wordZ s at_ < 0 ∨ 281474976710656 < wordZ s at_) → wordE s at_ = wordZ s at_ from fun h => by unfold wordE; rw [if_neg h])
  generalize wordE s at_ = r at *
  generalize wordZ s at_ = y at *
  clear h
  generalize s.length = n at *
  subst hl
  rcases (show y < 0 ∨ (0 ≤ y ∧ 281474976710656 < y) ∨ (0 ≤ y ∧ y ≤ 281474976710656) by omega) with h1 | ⟨h1, h2⟩ | ⟨h1, h2⟩
  · rw [W1.out (by omega)]
    clear W1 W2
    have t1 : decide (y < 0) = true := by rw [decide_eq_true_iff]; omega
    clear h1
    go_enter Try.func78, Try.ntmps78
    go_wp2_with (go_at_call 92; refine G.out.mono ?_; rintro e w' ⟨rfl, rfl⟩)
    go_ret
    exact ⟨rfl, rfl⟩
  · rw [W1.out (by omega)]
    clear W1 W2
    have t1 : decide (y < 0) = false := by rw [decide_eq_false_iff_not]; omega
    have t2 : decide (281474976710656 < y) = true := by rw [decide_eq_true_iff]; omega
    clear h1 h2
    go_enter Try.func78, Try.ntmps78
    go_wp2_with (go_at_call 92; refine G.out.mono ?_; rintro e w' ⟨rfl, rfl⟩)
    go_ret
    exact ⟨rfl, rfl⟩
  · rw [W2.out (by omega)]
    clear W1 W2
    have t1 : decide (y < 0) = false := by rw [decide_eq_false_iff_not]; omega
    have t2 : decide (281474976710656 < y) = false := by rw [decide_eq_false_iff_not]; omega
    clear h1 h2
    go_enter Try.func78, Try.ntmps78
    go_wp2_with (go_at_call 92; refine G.out.mono ?_; rintro e w' ⟨rfl, rfl⟩)
    go_ret
    exact ⟨rfl, rfl⟩
theorem sepochs_any (s : List UInt8) (v : Value) (F : Nat → Prop) (w : World) (hv : By w F v s) :
    Calls Try.prog 37 #[v] w fun e w' => e = .returned (.tuple #[.int .i64 (epochZ s 0), .int .i64 (epochZ s 504)]) ∧ w = w' := by
  have hv0 := hv
  obtain ⟨A, c, rfl, -⟩ := hv
  by_cases hl : s.length = 512
  · have W1 := Lib.hid (sword_any s _ F 0 0 rfl w hv0 (by omega) hl)
    have W2 := Lib.hid (sword_any s _ F 504 504 rfl w hv0 (by omega) hl)
    have e1 := Lib.hid (show epochZ s 0 = wordE s 0 by unfold epochZ wordE; rw [if_pos hl])
    have e2 := Lib.hid (show epochZ s 504 = wordE s 504 by unfold epochZ wordE; rw [if_pos hl])
    rw [e1.out, e2.out]
    clear hv0
    rw [hl] at *
    generalize wordE s 0 = y at *
    generalize wordE s 504 = r at *
    clear hl
    go_enter Try.func37, Try.ntmps37
    go_wp2_with fail
    refine W1.out.mono ?_
    rintro e w' ⟨rfl, rfl⟩
    go_wp2_with fail
    refine W2.out.mono ?_
    rintro e w' ⟨rfl, rfl⟩
    go_wp2
    go_ret2
    exact ⟨rfl, rfl⟩
  · have e1 := Lib.hid (show epochZ s 0 = -1 by unfold epochZ; rw [if_neg hl])
    have e2 := Lib.hid (show epochZ s 504 = -1 by unfold epochZ; rw [if_neg hl])
    have hl' : ((s.length : Int) != 512) = true := by simp; omega
    rw [e1.out, e2.out]
    clear hv0 hl
    generalize s.length = n at *
    go_enter Try.func37, Try.ntmps37
    go_wp2
    go_ret2
    exact ⟨rfl, rfl⟩
set_option maxHeartbeats 2000000 in
theorem stop_any (s : List UInt8) (v : Value) (F : Nat → Prop) (w : World) (hv : By w F v s) :
    Calls Try.prog 36 #[v] w fun e w' => e = .returned (.int .i64 (topZ s)) ∧ w = w' := by
  have E := Lib.hid (sepochs_any s v F w hv)
  have T := Lib.hid (show topZ s = max 0 (max (epochZ s 0) (epochZ s 504)) from rfl)
  obtain ⟨A, c, rfl, -⟩ := hv
  generalize epochZ s 0 = x at *
  generalize epochZ s 504 = y at *
  generalize topZ s = t at *
  generalize s.length = n at *
  rcases Int.lt_or_le x 0 with h1 | h1 <;> rcases Int.lt_or_le y 0 with h2 | h2 <;> rcases Int.lt_or_le x y with h3 | h3
  all_goals try (exfalso; omega)
  all_goals
    go_enter Try.func36, Try.ntmps36
    go_wp2_with (go_at_call 37; refine E.out.mono ?_; rintro e w' ⟨rfl, rfl⟩)
    all_goals try (exfalso; omega)
    all_goals
      go_ret
      refine ⟨?_, rfl⟩
      rw [T.out]
      exact ret_int (by omega)
set_option maxHeartbeats 2000000 in
theorem refEpochs_any (s : List UInt8) (v : Value) (F : Nat → Prop) (w : World) (hv : By w F v s) :
    Calls Try.prog 38 #[v] w fun e w' => e = .returned (.tuple #[.int .i64 (epochZ s 0), .int .i64 (epochZ s 504)]) ∧ w = w' := by
  have hv0 := hv
  obtain ⟨A, c, rfl, -⟩ := hv
  by_cases hl : s.length = 512
  · have W1 := Lib.hid (refGet_any s _ F 0 8 w hv0 (by omega) (by omega))
    have W2 := Lib.hid (refGet_any s _ F 504 8 w hv0 (by omega) (by omega))
    have g1 := getZ_word (s := s) (at_ := 0) (by omega)
    have g2 := getZ_word (s := s) (at_ := 504) (by omega)
    rw [show ((0 : Nat) : Int) = 0 from rfl] at g1
    rw [show ((504 : Nat) : Int) = 504 from rfl] at g2
    rw [g1.1, g1.2] at W1
    rw [g2.1, g2.2] at W2
    have e1 := Lib.hid (show epochZ s 0 = if wordZ s 0 < 0 ∨ 281474976710656 < wordZ s 0 then -1 else wordZ s 0 by unfold epochZ; rw [if_pos hl])
    have e2 := Lib.hid (show epochZ s 504 = if wordZ s 504 < 0 ∨ 281474976710656 < wordZ s 504 then -1 else wordZ s 504 by unfold epochZ; rw [if_pos hl])
    clear hv0 g1 g2
    rw [hl] at *
    generalize epochZ s 0 = r at *
    generalize epochZ s 504 = q at *
    generalize wordZ s 0 = y at *
    generalize wordZ s 504 = z at *
    clear hl
    have N1 := Lib.hid (show ∀ W, Calls Try.prog 74 #[.int .i64 y, .int .i64 281474976710656] W fun e w' => e = .returned (.int .i64 (nearN y 281474976710656 : Nat)) ∧ W = w' from fun W => refNear_any y 281474976710656 (by decide) W)
    have N2 := Lib.hid (show ∀ W, Calls Try.prog 74 #[.int .i64 z, .int .i64 281474976710656] W fun e w' => e = .returned (.int .i64 (nearN z 281474976710656 : Nat)) ∧ W = w' from fun W => refNear_any z 281474976710656 (by decide) W)
    have n1 : (y != ((nearN y 281474976710656 : Nat) : Int)) = decide (y < 0 ∨ 281474976710656 < y) := by
      rw [Bool.eq_iff_iff]; simp only [bne_iff_ne, decide_eq_true_iff]; unfold nearN; split <;> (try split) <;> omega
    have n2 : (z != ((nearN z 281474976710656 : Nat) : Int)) = decide (z < 0 ∨ 281474976710656 < z) := by
      rw [Bool.eq_iff_iff]; simp only [bne_iff_ne, decide_eq_true_iff]; unfold nearN; split <;> (try split) <;> omega
    generalize nearN y 281474976710656 = y1 at *
    generalize nearN z 281474976710656 = z1 at *
    by_cases c1 : y < 0 ∨ 281474976710656 < y <;> by_cases c2 : z < 0 ∨ 281474976710656 < z
    all_goals
      first | rw [decide_eq_true c1] at n1 | rw [decide_eq_false c1] at n1
      first | rw [decide_eq_true c2] at n2 | rw [decide_eq_false c2] at n2
      first | rw [if_pos c1] at e1 | rw [if_neg c1] at e1
      first | rw [if_pos c2] at e2 | rw [if_neg c2] at e2
      clear c1 c2
      go_enter Try.func38, Try.ntmps38
      go_wp2_with fail
      refine W1.out.mono ?_
      rintro e w' ⟨rfl, rfl⟩
      go_wp2_with fail
      refine W2.out.mono ?_
      rintro e w' ⟨rfl, rfl⟩
      go_wp2_with fail
      refine (N1.out _).mono ?_
      rintro e w' ⟨rfl, rfl⟩
      go_wp2_with fail
      refine (N2.out _).mono ?_
      rintro e w' ⟨rfl, rfl⟩
      go_wp2
      go_ret2
      rw [e1.out, e2.out]
      exact ⟨rfl, rfl⟩
  · have e1 := Lib.hid (show epochZ s 0 = -1 by unfold epochZ; rw [if_neg hl])
    have e2 := Lib.hid (show epochZ s 504 = -1 by unfold epochZ; rw [if_neg hl])
    have hl' : ((s.length : Int) != 512) = true := by simp; omega
    rw [e1.out, e2.out]
    clear hv0 hl
    generalize s.length = n at *
    go_enter Try.func38, Try.ntmps38
    go_wp2
    go_ret2
    exact ⟨rfl, rfl⟩
set_option maxHeartbeats 2000000 in
theorem refTop_any (s : List UInt8) (v : Value) (F : Nat → Prop) (w : World) (hv : By w F v s) :
    Calls Try.prog 39 #[v] w fun e w' => e = .returned (.int .i64 (topZ s)) ∧ w = w' := by
  have E := Lib.hid (refEpochs_any s v F w hv)
  have T := Lib.hid (show topZ s = max 0 (max (epochZ s 0) (epochZ s 504)) from rfl)
  obtain ⟨A, c, rfl, -⟩ := hv
  generalize epochZ s 0 = x at *
  generalize epochZ s 504 = y at *
  generalize topZ s = t at *
  generalize s.length = n at *
  rcases Int.lt_or_le x 0 with h1 | h1 <;> rcases Int.lt_or_le y 0 with h2 | h2 <;> rcases Int.lt_or_le x y with h3 | h3
  all_goals try (exfalso; omega)
  all_goals
    go_enter Try.func39, Try.ntmps39
    go_wp2_with (go_at_call 38; refine E.out.mono ?_; rintro e w' ⟨rfl, rfl⟩)
    all_goals try (exfalso; omega)
    all_goals
      go_ret
      refine ⟨?_, rfl⟩
      rw [T.out]
      exact ret_int (by omega)
end Go.Proofs.Ytakchlaoimnnhaa

/- Contract of vivariumref17.Head. -/
import Derived.Test.YtakchlaoimnnhaaPart1
import Derived.Test.YtakchlaoimnnhaaPart3
namespace Go.Proofs.Ytakchlaoimnnhaa
open Go.RowKit
set_option maxRecDepth 100000
set_option linter.unusedVariables false

theorem getZ_8 {l : List UInt8} (h : 12 ≤ l.length) : getZ l 4 8 = hSeq l ∧ getOk l 4 8 = true := by
  have hok : getOk l ((4 : Nat) : Int) 8 = true := getOk_yes (width := 8) (by have : wideN 8 = 8 := rfl; omega)
  refine ⟨?_, hok⟩
  show getZ l ((4 : Nat) : Int) 8 = _
  unfold getZ
  rw [if_pos hok, Int.toNat_natCast]
  rfl
set_option maxHeartbeats 4000000 in
theorem rhead_any (l : List UInt8) (v : Value) (F : Nat → Prop) (w : World) (hv : By w F v l) :
    Calls Try.prog 23 #[v] w fun e w' => e = .returned (headT l) ∧ w = w' := by
  by_cases hlen : l.length < 12 ∨ (12 ≤ l.length ∧ 472 < l.length)
  · rw [headT_no (by rw [Bool.eq_false_iff, Ne, headOk_iff]; omega)]
    obtain ⟨A, c, rfl, _, _, _, _⟩ := hv
    generalize l.length = n at *
    rcases hlen with hlen | ⟨hlen, hlen'⟩
    all_goals
      go_enter Try.func23, Try.ntmps23
      go_wp2
      exact bodyPost_ret (res4 rfl _ _ _) rfl ⟨rfl, rfl⟩
  have h12 : 12 ≤ l.length := by omega
  have h472 : l.length ≤ 472 := by omega
  clear hlen
  have G1 := Lib.hid (refGet_any l v F 0 2 w hv (by omega) (by omega))
  have G2 := Lib.hid (refGet_any l v F 2 2 w hv (by omega) (by omega))
  have G3 := Lib.hid (refGet_any l v F 4 8 w hv (by omega) (by omega))
  rw [show getZ l 0 2 = ((hPlace l : Nat) : Int) from (getZ_small (k := 0) (by omega)).1, show getOk l 0 2 = true from (getZ_small (k := 0) (by omega)).2] at G1
  rw [show getZ l 2 2 = ((hCount l : Nat) : Int) from (getZ_small (k := 2) (by omega)).1, show getOk l 2 2 = true from (getZ_small (k := 2) (by omega)).2] at G2
  rw [(getZ_8 h12).1, (getZ_8 h12).2] at G3
  have hpl : hPlace l < 65536 := getN_two _
  have hct : hCount l < 65536 := getN_two _
  have PLC := Lib.hid (place_any (hSeq l))
  have HT : Hid ((hCount l < 1 ∨ 1024 < hCount l ∨ hCount l ≤ hPlace l ∨ decide (0 ≤ hSeq l ∧ hSeq l ≤ 281474976710656) = false) → headT l = .tuple #[.int .i64 0, .int .i64 0, .int .i64 0, .bool false]) := fun h => headT_no (by
    rw [Bool.eq_false_iff, Ne, headOk_iff]
    intro hh
    rcases h with h | h | h | h
    · omega
    · omega
    · omega
    · have := decide_eq_false_iff_not.1 h; omega)
  have HF : Hid (¬ (hCount l < 1 ∨ 1024 < hCount l ∨ hCount l ≤ hPlace l) → decide (0 ≤ hSeq l ∧ hSeq l ≤ 281474976710656) = true → headT l = .tuple #[.int .i64 (hPlace l : Int), .int .i64 (hCount l : Int), .int .i64 (hSeq l), .bool true]) := fun h hd => headT_yes (by
    have := of_decide_eq_true hd
    rw [headOk_iff]; omega)
  generalize decide (0 ≤ hSeq l ∧ hSeq l ≤ 281474976710656) = r at *
  generalize hPlace l = a at *
  generalize hCount l = b at *
  generalize hSeq l = s at *
  obtain ⟨A, c, rfl, _, _, _, _⟩ := hv
  generalize hx : l.length = n at *
  clear hx
  rcases (show b < 1 ∨ (1 ≤ b ∧ 1024 < b) ∨ (1 ≤ b ∧ b ≤ 1024 ∧ b ≤ a) ∨ (1 ≤ b ∧ b ≤ 1024 ∧ a < b) by omega) with g1 | ⟨g1, g2⟩ | ⟨g1, g2, g3⟩ | ⟨g1, g2, g3⟩
  rotate_right 1
  · rcases Bool.eq_false_or_eq_true r with rfl | rfl
    · rw [HF.out (by omega) rfl]
      go_enter Try.func23, Try.ntmps23
      go_wp2_with fail
      refine G1.out.mono ?_
      rintro e w' ⟨rfl, rfl⟩
      go_wp2_with fail
      refine G2.out.mono ?_
      rintro e w' ⟨rfl, rfl⟩
      go_wp2_with fail
      refine G3.out.mono ?_
      rintro e w' ⟨rfl, rfl⟩
      go_wp2_with (go_at_call 68; refine (PLC.out _).mono ?_; rintro e w' ⟨rfl, rfl⟩)
      exact bodyPost_ret (res4 rfl _ _ _) rfl ⟨rfl, rfl⟩
    · rw [HT.out (.inr (.inr (.inr rfl)))]
      go_enter Try.func23, Try.ntmps23
      go_wp2_with fail
      refine G1.out.mono ?_
      rintro e w' ⟨rfl, rfl⟩
      go_wp2_with fail
      refine G2.out.mono ?_
      rintro e w' ⟨rfl, rfl⟩
      go_wp2_with fail
      refine G3.out.mono ?_
      rintro e w' ⟨rfl, rfl⟩
      go_wp2_with (go_at_call 68; refine (PLC.out _).mono ?_; rintro e w' ⟨rfl, rfl⟩)
      exact bodyPost_ret (res4 rfl _ _ _) rfl ⟨rfl, rfl⟩
  all_goals
    rw [HT.out (by omega)]
    go_enter Try.func23, Try.ntmps23
    go_wp2_with fail
    refine G1.out.mono ?_
    rintro e w' ⟨rfl, rfl⟩
    go_wp2_with fail
    refine G2.out.mono ?_
    rintro e w' ⟨rfl, rfl⟩
    go_wp2_with fail
    refine G3.out.mono ?_
    rintro e w' ⟨rfl, rfl⟩
    go_wp2
    exact bodyPost_ret (res4 rfl _ _ _) rfl ⟨rfl, rfl⟩
end Go.Proofs.Ytakchlaoimnnhaa

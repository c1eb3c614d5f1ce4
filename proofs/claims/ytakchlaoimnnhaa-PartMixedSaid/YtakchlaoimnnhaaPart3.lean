/- Contract of part.Head. -/
import Derived.Test.YtakchlaoimnnhaaPartPl
import Derived.Test.YtakchlaoimnnhaaRdr
namespace Go.Proofs.Ytakchlaoimnnhaa
open Go.RowKit
set_option maxRecDepth 100000
set_option linter.unusedVariables false

theorem res4 {fn : Func} {t u v x : Tmp} (h : fn.results = #[.tmp t, .tmp u, .tmp v, .tmp x]) (tmps : Array Value) (P : Program) (w : World) :
    (results fn tmps).run P w = .ok (.tuple #[tmps.getD t undef, tmps.getD u undef, tmps.getD v undef, tmps.getD x undef]) w := by simp [results, h]
/-- What a head tells. -/
def HeadIs (l : List UInt8) (a b c : Int) (ok : Bool) : Prop := ok = headOk l ∧ a = (if headOk l = true then (hPlace l : Int) else 0) ∧ b = (if headOk l = true then (hCount l : Int) else 0) ∧ c = (if headOk l = true then hSeq l else 0)
def headT (l : List UInt8) : Value := .tuple #[.int .i64 (if headOk l = true then (hPlace l : Int) else 0), .int .i64 (if headOk l = true then (hCount l : Int) else 0), .int .i64 (if headOk l = true then hSeq l else 0), .bool (headOk l)]
theorem headT_no {l : List UInt8} (h : headOk l = false) : headT l = .tuple #[.int .i64 0, .int .i64 0, .int .i64 0, .bool false] := by simp [headT, h]
theorem headT_yes {l : List UInt8} (h : headOk l = true) : headT l = .tuple #[.int .i64 (hPlace l : Int), .int .i64 (hCount l : Int), .int .i64 (hSeq l), .bool true] := by simp [headT, h]
theorem getN_two (l : List UInt8) : getN (l.take 2) < 65536 :=
  Nat.lt_of_lt_of_le (getN_lt _) (Nat.le_trans (Nat.pow_le_pow_right (by decide) (List.length_take_le _ _)) (by decide))
theorem getZ_small {l : List UInt8} {k : Nat} (h : k + 2 ≤ l.length) : getZ l k 2 = (getN ((l.drop k).take 2) : Int) ∧ getOk l k 2 = true := by
  have hok : getOk l k 2 = true := getOk_yes (width := 2) (by have : wideN 2 = 2 := rfl; omega)
  refine ⟨?_, hok⟩
  unfold getZ
  rw [if_pos hok, Int.toNat_natCast, show wideN 2 = 2 from rfl]
  show wrap64 (getN ((l.drop k).take 2)) = _
  exact wrap64_small (Nat.lt_trans (getN_two _) (by decide))
theorem num2 {l : List UInt8} {k : Nat} (h : k + 2 ≤ l.length) : numR l k false 2 = ((getN ((l.drop k).take 2) : Int), k + 2, false) := by
  obtain ⟨h1, h2⟩ := getZ_small h
  unfold numR
  rw [if_neg (by simp), if_pos h2, h1]
  rfl
theorem num8 {l : List UInt8} {k : Nat} (h : k + 8 ≤ l.length) : numR l k false 8 = (wrap64 (getN ((l.drop k).take 8)), k + 8, false) := by
  have hok : getOk l k 8 = true := getOk_yes (width := 8) (by have : wideN 8 = 8 := rfl; omega)
  unfold numR getZ
  rw [if_neg (by simp), if_pos hok, if_pos hok, Int.toNat_natCast]
  rfl
theorem headOk_iff {p : List UInt8} : headOk p = true ↔ 12 ≤ p.length ∧ p.length ≤ 472 ∧ 1 ≤ hCount p ∧ hCount p ≤ 1024 ∧ hPlace p < hCount p ∧ 0 ≤ hSeq p ∧ hSeq p ≤ 281474976710656 := by
  unfold headOk; exact decide_eq_true_iff

set_option maxHeartbeats 4000000 in
theorem phead_any (l : List UInt8) (v : Value) (F : Nat → Prop) (w : World) (hv : By w F v l) (hn : l.length ≤ 1099511627776) :
    Calls Try.prog 22 #[v] w fun e w' => e = .returned (headT l) ∧ Below w.heap.size w w' := by
  have RD := Lib.hid (read_any l v F w hv hn)
  by_cases hlen : l.length < 12 ∨ (12 ≤ l.length ∧ 472 < l.length)
  · rw [headT_no (by rw [Bool.eq_false_iff, Ne, headOk_iff]; omega)]
    obtain ⟨A, c, rfl, _, _, _, _⟩ := hv
    generalize l.length = n at *
    clear hn RD
    rcases hlen with hlen | ⟨hlen, hlen'⟩
    all_goals
      go_enter Try.func22, Try.ntmps22
      go_wp2
      exact bodyPost_ret (res4 rfl _ _ _) rfl ⟨rfl, Below.refl _ _⟩
  have h12 : 12 ≤ l.length := by omega
  have h472 : l.length ≤ 472 := by omega
  clear hlen
  have N1 := Lib.hid (show numR l 0 false 2 = (((hPlace l : Nat) : Int), 2, false) from num2 (k := 0) (by omega))
  have N2 := Lib.hid (show numR l 2 false 2 = (((hCount l : Nat) : Int), 4, false) from num2 (k := 2) (by omega))
  have N3 := Lib.hid (show numR l 4 false 8 = (hSeq l, 12, false) from num8 (k := 4) (by omega))
  have hpl : hPlace l < 65536 := getN_two _
  have hct : hCount l < 65536 := getN_two _
  have HT : Hid ((hCount l = 0 ∨ 1024 < hCount l ∨ hCount l ≤ hPlace l ∨ hSeq l < 0 ∨ 281474976710656 < hSeq l) → headT l = .tuple #[.int .i64 0, .int .i64 0, .int .i64 0, .bool false]) := fun h => headT_no (by rw [Bool.eq_false_iff, Ne, headOk_iff]; omega)
  have HF : Hid (¬ (hCount l = 0 ∨ 1024 < hCount l ∨ hCount l ≤ hPlace l ∨ hSeq l < 0 ∨ 281474976710656 < hSeq l) → headT l = .tuple #[.int .i64 (hPlace l : Int), .int .i64 (hCount l : Int), .int .i64 (hSeq l), .bool true]) := fun h => headT_yes (by rw [headOk_iff]; omega)
  generalize hPlace l = a at *
  generalize hCount l = b at *
  generalize hSeq l = s at *
  obtain ⟨A, c, rfl, _, _, _, _⟩ := hv
  generalize hx : l.length = n at *
  clear hx hn
  rcases (show b = 0 ∨ (0 < b ∧ 1024 < b) ∨ (0 < b ∧ b ≤ 1024 ∧ b ≤ a) ∨ (0 < b ∧ b ≤ 1024 ∧ a < b ∧ s < 0) ∨ (0 < b ∧ b ≤ 1024 ∧ a < b ∧ 0 ≤ s ∧ 281474976710656 < s) ∨ (0 < b ∧ b ≤ 1024 ∧ a < b ∧ 0 ≤ s ∧ s ≤ 281474976710656) by omega) with rfl | ⟨g1, g2⟩ | ⟨g1, g2, g3⟩ | ⟨g1, g2, g3, g4⟩ | ⟨g1, g2, g3, g4, g5⟩ | ⟨g1, g2, g3, g4, g5⟩
  all_goals
    first | rw [HT.out (by omega)] | rw [HF.out (by omega)]
    try have e0 : ((b : Int) == 0) = false := by rw [beq_eq_false_iff_ne]; omega
    go_enter Try.func22, Try.ntmps22
    go_wp2_with fail
    refine RD.out.mono ?_
    rintro e w1 ⟨p, rfl, hr, hp, hb1⟩
    have R1 := Lib.hid (rnum_any hr 2)
    rw [N1.out] at R1
    have B1 := Lib.hid (And.intro hp hb1)
    clear hr hp hb1
    go_wp2_with fail
    refine R1.out.mono ?_
    rintro e w2 ⟨rfl, hr2, hk2⟩
    have R2 := Lib.hid (rnum_any hr2 2)
    rw [N2.out] at R2
    have K2 := Lib.hid hk2
    clear hr2 hk2
    go_wp2_with fail
    refine R2.out.mono ?_
    rintro e w3 ⟨rfl, hr3, hk3⟩
    have R3 := Lib.hid (rnum_any hr3 8)
    rw [N3.out] at R3
    have K3 := Lib.hid hk3
    clear hr3 hk3
    go_wp2_with fail
    refine R3.out.mono ?_
    rintro e w4 ⟨rfl, hr4, hk4⟩
    have BB := Lib.hid (show Below w.heap.size w w4 from B1.out.2.trans ((K2.out.trans (K3.out.trans hk4 (fun _ _ h => h)) (fun _ _ h => h)).below B1.out.2.size (fun x hx e => by have := B1.out.1; omega)))
    clear hr4 hk4
    go_wp2
    exact bodyPost_ret (res4 rfl _ _ _) rfl ⟨rfl, BB.out⟩
end Go.Proofs.Ytakchlaoimnnhaa

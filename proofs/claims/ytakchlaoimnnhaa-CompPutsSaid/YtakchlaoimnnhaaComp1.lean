/- Contracts of comp.letter, within, Name and vivariumref07.Name. -/
import Derived.Test.YtakchlaoimnnhaaProg
import Derived.Test.YtakchlaoimnnhaaCompPl
import Derived.Test.YtakchlaoimnnhaaLe1
import Derived.Test.YtakchlaoimnnhaaBase
import Derived.Test.YtakchlaoimnnhaaCells
import Derived.BigQuiet
import Derived.Deep.QuietTactic
import Derived.Laws.Strings
namespace Go.Proofs.Ytakchlaoimnnhaa
open Go.RowKit
set_option maxRecDepth 100000
set_option linter.unusedVariables false

theorem letter_any (z : Int) (w : World) : Calls Try.prog 103 #[.int .u8 z] w fun e w' => e = .returned (.bool (letterZ z)) ∧ w = w' := by
  by_cases h1 : 97 ≤ z
  · by_cases h2 : z ≤ 122
    · rw [show letterZ z = true from decide_eq_true (by omega)]
      go_enter Try.func103, Try.ntmps103
      go_wp2
      go_ret
      exact ⟨rfl, rfl⟩
    · rw [show letterZ z = false from decide_eq_false (by omega)]
      have h3 : 48 ≤ z := by omega
      have h4 : ¬ z ≤ 57 := by omega
      have h5 : (z == 95) = false := by simp; omega
      go_enter Try.func103, Try.ntmps103
      go_wp2
      go_ret
      exact ⟨rfl, rfl⟩
  · by_cases h3 : 48 ≤ z
    · by_cases h4 : z ≤ 57
      · rw [show letterZ z = true from decide_eq_true (by omega)]
        go_enter Try.func103, Try.ntmps103
        go_wp2
        go_ret
        exact ⟨rfl, rfl⟩
      · by_cases h5 : z = 95
        · subst h5
          go_enter Try.func103, Try.ntmps103
          go_wp2
          go_ret
          exact ⟨rfl, rfl⟩
        · rw [show letterZ z = false from decide_eq_false (by omega)]
          have h6 : (z == 95) = false := by simp [h5]
          go_enter Try.func103, Try.ntmps103
          go_wp2
          go_ret
          exact ⟨rfl, rfl⟩
    · rw [show letterZ z = false from decide_eq_false (by omega)]
      have h5 : (z == 95) = false := by simp; omega
      go_enter Try.func103, Try.ntmps103
      go_wp2
      go_ret
      exact ⟨rfl, rfl⟩
theorem within_any (n lo hi : Int) (w : World) : Calls Try.prog 99 #[.int .i64 n, .int .i64 lo, .int .i64 hi] w fun e w' => e = .returned (.bool (decide (lo ≤ n ∧ n ≤ hi))) ∧ w = w' := by
  by_cases h1 : lo ≤ n
  · by_cases h2 : n ≤ hi
    · rw [show decide (lo ≤ n ∧ n ≤ hi) = true from decide_eq_true ⟨h1, h2⟩]
      go_enter Try.func99, Try.ntmps99
      go_wp2
      go_ret
      exact ⟨rfl, rfl⟩
    · rw [show decide (lo ≤ n ∧ n ≤ hi) = false from decide_eq_false (fun h => h2 h.2)]
      go_enter Try.func99, Try.ntmps99
      go_wp2
      go_ret
      exact ⟨rfl, rfl⟩
  · rw [show decide (lo ≤ n ∧ n ≤ hi) = false from decide_eq_false (fun h => h1 h.1)]
    go_enter Try.func99, Try.ntmps99
    go_wp2
    go_ret
    exact ⟨rfl, rfl⟩
theorem run_ch (s : ByteArray) (k : Nat) (hk : k < s.size) (w : World) : (Instr.index 9 (.string s) (.int .i64 (k : Nat))).run Try.prog w = .ok (.int .u8 (chZ s k)) w := by
  rw [run_index_string w 9 s .i64 _ Try.underlying9, dif_pos ⟨by omega, by omega⟩]
  congr 2
  unfold chZ
  rw [List.getD_eq_getElem?_getD, List.getElem?_eq_getElem (by simpa using hk)]
  rfl
theorem str_eq (a b : ByteArray) : (a.toList == b.toList) = decide (a = b) := by
  rw [ByteArray.toList_eq, ByteArray.toList_eq]
  by_cases h : a = b
  · subst h; simp
  · rw [decide_eq_false h, beq_eq_false_iff_ne]
    intro e
    exact h (by cases a; cases b; simp at e; rw [e])
theorem cname_any (s : ByteArray) (w : World) : Calls Try.prog 100 #[.string s] w fun e w' => e = .returned (.bool (nameB s)) ∧ w = w' := by
  by_cases h0 : s.size = 0
  · have e : s = ⟨#[]⟩ := by
      have : s.data = #[] := Array.eq_empty_of_size_eq_zero h0
      cases s; simp_all
    subst e
    go_enter Try.func100, Try.ntmps100
    go_wp2
    go_ret
    exact ⟨rfl, rfl⟩
  have e0 : s.toList.isEmpty = false := by
    rw [ByteArray.toList_eq]
    have h1 : s.data.toList.length ≠ 0 := by simpa using h0
    cases hq : s.data.toList with
    | nil => rw [hq] at h1; exact absurd rfl h1
    | cons _ _ => rfl
  by_cases h16 : 16 < s.size
  · have H := Lib.hid (show nameB s = false from decide_eq_false (fun h => by omega))
    go_enter Try.func100, Try.ntmps100
    go_wp2
    go_ret
    exact ⟨ret_bool H.out.symm, rfl⟩
  have h16' : ¬ (16 : Int) < (s.size : Int) := by omega
  go_enter Try.func100, Try.ntmps100
  go_wp2
  go_loopw [13] (fun i wr => ∃ k : Nat, k ≤ s.size ∧ i = .int .i64 k ∧ wr = w ∧ Hid (lettersTo s k)) (fun i _ => s.size - (intOf i).toNat)
  case atStart => exact ⟨0, by omega, rfl, rfl, Lib.hid (lettersTo_zero s)⟩
  case round =>
    obtain ⟨k, hk, rfl, rfl, ht⟩ := hrel
    by_cases hlt : k < s.size
    · have hi : (k : Int) < (s.size : Int) := by omega
      have RI := run_ch s k hlt
      by_cases hc : letterZ (chZ s k) = true
      · have LT := Lib.hid (lettersTo_next ht.out hc)
        have LA := Lib.hid (letter_any (chZ s k))
        rw [hc] at LA
        clear hc
        go_wp2_with (go_at_call 103; (with_reducible refine (LA.out _).mono ?_); rintro e w1 ⟨rfl, rfl⟩)
        go_roundw
        case rel => exact ⟨k + 1, by omega, by go_num, by first | rfl | trivial, LT⟩
        case measure => simp [intOf]; omega
      · have LA := Lib.hid (letter_any (chZ s k))
        rw [show letterZ (chZ s k) = false by simpa using hc] at LA
        have H := Lib.hid (show nameB s = false from decide_eq_false (fun h => hc (h.2.2 k hlt)))
        clear hc
        go_wp2_with (go_at_call 103; (with_reducible refine (LA.out _).mono ?_); rintro e w1 ⟨rfl, rfl⟩)
        go_ret
        exact ⟨ret_bool H.out.symm, rfl⟩
    · have H := Lib.hid (show nameB s = true from decide_eq_true ⟨by omega, by omega, by rw [show s.size = k by omega]; exact ht.out⟩)
      go_wp2
      go_ret
      exact ⟨ret_bool H.out.symm, rfl⟩
theorem rname_any (s : ByteArray) (w : World) (hs : s.size ≤ 4611686018427387904) : Calls Try.prog 86 #[.string s] w fun e w' => e = .returned (.bool (nameB s)) ∧ ∃ k, w' = w.drewN k := by
  go_enter Try.func86, Try.ntmps86
  go_wp2
  go_loopw [3] (fun i wr => ∃ (k q : Nat), k ≤ s.size ∧ i = .int .i64 k ∧ wr = w.drewN q ∧ Hid (lettersTo s k)) (fun i _ => s.size - (intOf i).toNat)
  case atStart => exact ⟨0, 0, by omega, rfl, rfl, Lib.hid (lettersTo_zero s)⟩
  case round =>
    obtain ⟨k, q, hk, rfl, rfl, ht⟩ := hrel
    by_cases hlt : k < s.size
    · have hi : (k : Int) < (s.size : Int) := by omega
      have RI := run_ch s k hlt
      have ZB := chZ_bd s k
      have LT : letterZ (chZ s k) = true → Hid (lettersTo s (k + 1)) := fun hc => Lib.hid (lettersTo_next ht.out hc)
      have LF : letterZ (chZ s k) = false → Hid (nameB s = false) := fun hc => Lib.hid (decide_eq_false (fun h => by have := h.2.2 k hlt; rw [hc] at this; cases this))
      obtain ⟨z, hz⟩ : ∃ z, z = chZ s k := ⟨_, rfl⟩
      rw [← hz] at RI ZB LT LF
      clear hz
      by_cases h1 : 97 ≤ z
      · by_cases h2 : z ≤ 122
        · have LT := LT (decide_eq_true (by omega))
          have h3 : 48 ≤ z := by omega
          have h4 : ¬ z ≤ 57 := by omega
          have d1 : decide (97 ≤ z) = true := by first | (rw [decide_eq_true_iff]; omega) | (rw [decide_eq_false_iff_not]; omega)
          have d2 : decide (z ≤ 122) = true := by first | (rw [decide_eq_true_iff]; omega) | (rw [decide_eq_false_iff_not]; omega)
          have d3 : decide (48 ≤ z) = true := by first | (rw [decide_eq_true_iff]; omega) | (rw [decide_eq_false_iff_not]; omega)
          have d4 : decide (z ≤ 57) = false := by first | (rw [decide_eq_false_iff]; omega) | (rw [decide_eq_false_iff_not]; omega)
          clear LF ZB
          try clear h1
          try clear h2
          try clear h3
          try clear h4
          go_wp2
          go_quiet (fail)
          go_wp2
          go_roundw
          case rel => exact ⟨k + 1, _, by omega, by go_num, rfl, LT⟩
          case measure => simp [intOf]; omega
        · have H := LF (decide_eq_false (by omega))
          have h3 : 48 ≤ z := by omega
          have h4 : ¬ z ≤ 57 := by omega
          have h5 : (z != 95) = true := by simp; omega
          have d1 : decide (97 ≤ z) = true := by first | (rw [decide_eq_true_iff]; omega) | (rw [decide_eq_false_iff_not]; omega)
          have d2 : decide (z ≤ 122) = false := by first | (rw [decide_eq_false_iff]; omega) | (rw [decide_eq_false_iff_not]; omega)
          have d3 : decide (48 ≤ z) = true := by first | (rw [decide_eq_true_iff]; omega) | (rw [decide_eq_false_iff_not]; omega)
          have d4 : decide (z ≤ 57) = false := by first | (rw [decide_eq_false_iff]; omega) | (rw [decide_eq_false_iff_not]; omega)
          clear LT ZB
          try clear h1
          try clear h2
          try clear h3
          try clear h4
          go_wp2
          go_quiet (fail)
          go_wp2
          go_ret
          exact ⟨ret_bool H.out.symm, _, by first | exact World.drewN_drewN _ _ _ | rfl⟩
      · by_cases h3 : 48 ≤ z
        · by_cases h4 : z ≤ 57
          · have LT := LT (decide_eq_true (by omega))
            have d1 : decide (97 ≤ z) = false := by first | (rw [decide_eq_false_iff]; omega) | (rw [decide_eq_false_iff_not]; omega)
            have d3 : decide (48 ≤ z) = true := by first | (rw [decide_eq_true_iff]; omega) | (rw [decide_eq_false_iff_not]; omega)
            have d4 : decide (z ≤ 57) = true := by first | (rw [decide_eq_true_iff]; omega) | (rw [decide_eq_false_iff_not]; omega)
            clear LF ZB
            try clear h1
            try clear h2
            try clear h3
            try clear h4
            go_wp2
            go_quiet (fail)
            go_wp2
            go_roundw
            case rel => exact ⟨k + 1, _, by omega, by go_num, rfl, LT⟩
            case measure => simp [intOf]; omega
          · by_cases h5 : z = 95
            · have LT := LT (decide_eq_true (by omega))
              have h6 : (z != 95) = false := by simp [h5]
              have d1 : decide (97 ≤ z) = false := by first | (rw [decide_eq_false_iff]; omega) | (rw [decide_eq_false_iff_not]; omega)
              have d3 : decide (48 ≤ z) = true := by first | (rw [decide_eq_true_iff]; omega) | (rw [decide_eq_false_iff_not]; omega)
              have d4 : decide (z ≤ 57) = false := by first | (rw [decide_eq_false_iff]; omega) | (rw [decide_eq_false_iff_not]; omega)
              clear LF ZB
              try clear h1
              try clear h2
              try clear h3
              try clear h4
              go_wp2
              go_quiet (fail)
              go_wp2
              go_roundw
              case rel => exact ⟨k + 1, _, by omega, by go_num, rfl, LT⟩
              case measure => simp [intOf]; omega
            · have H := LF (decide_eq_false (by omega))
              have h6 : (z != 95) = true := by simp [h5]
              have d1 : decide (97 ≤ z) = false := by first | (rw [decide_eq_false_iff]; omega) | (rw [decide_eq_false_iff_not]; omega)
              have d3 : decide (48 ≤ z) = true := by first | (rw [decide_eq_true_iff]; omega) | (rw [decide_eq_false_iff_not]; omega)
              have d4 : decide (z ≤ 57) = false := by first | (rw [decide_eq_false_iff]; omega) | (rw [decide_eq_false_iff_not]; omega)
              clear LT ZB
              try clear h1
              try clear h2
              try clear h3
              try clear h4
              go_wp2
              go_quiet (fail)
              go_wp2
              go_ret
              exact ⟨ret_bool H.out.symm, _, by first | exact World.drewN_drewN _ _ _ | rfl⟩
        · have H := LF (decide_eq_false (by omega))
          have h6 : (z != 95) = true := by simp; omega
          have d1 : decide (97 ≤ z) = false := by first | (rw [decide_eq_false_iff]; omega) | (rw [decide_eq_false_iff_not]; omega)
          have d3 : decide (48 ≤ z) = false := by first | (rw [decide_eq_false_iff]; omega) | (rw [decide_eq_false_iff_not]; omega)
          clear LT ZB
          try clear h1
          try clear h2
          try clear h3
          try clear h4
          go_wp2
          go_quiet (fail)
          go_wp2
          go_ret
          exact ⟨ret_bool H.out.symm, _, by first | exact World.drewN_drewN _ _ _ | rfl⟩
    · have hi : ¬ (k : Int) < (s.size : Int) := by omega
      by_cases g1 : 1 ≤ s.size
      · have H := Lib.hid (show nameB s = decide ((s.size : Int) ≤ 16) from by
          unfold nameB
          by_cases g2 : s.size ≤ 16
          · rw [decide_eq_true (show (1 ≤ s.size ∧ s.size ≤ 16 ∧ lettersTo s s.size) from ⟨g1, g2, by rw [show s.size = k by omega]; exact ht.out⟩), decide_eq_true (by omega)]
          · rw [decide_eq_false (fun h => g2 h.2.1), decide_eq_false (by omega)])
        go_wp2
        go_ret
        exact ⟨ret_bool H.out.symm, q, rfl⟩
      · have H := Lib.hid (show nameB s = false from decide_eq_false (fun h => g1 h.1))
        go_wp2
        go_ret
        exact ⟨ret_bool H.out.symm, q, rfl⟩
end Go.Proofs.Ytakchlaoimnnhaa

/- Contracts of crc.Start, End, Add, vivariumref02.turned. -/
import Derived.Test.YthkgchlndfcmpaaCrcPl
import Derived.Test.YthkgchlndfcmpaaArgS
import Derived.Deep.LoopGhost
namespace Go.Proofs.Ythkgchlndfcmpaa
open Go.RowKit
set_option maxRecDepth 100000
set_option linter.unusedVariables false

theorem ofInt32 (a : Nat) (h : a < 4294967296) : (BitVec.ofInt 32 (a : Int)).toNat = a := by
  rw [BitVec.ofInt_natCast, BitVec.toNat_ofNat]
  exact Nat.mod_eq_of_lt h
theorem u32_wrap (y : Int) : IntKind.u32.wrap y = y % 4294967296 := by simp [IntKind.wrap, IntKind.bits, IntKind.signed]
theorem xor32 (a b : Nat) (ha : a < 4294967296) (hb : b < 4294967296) : bits .xor .u32 (a : Int) (b : Int) = ((a ^^^ b : Nat) : Int) := by
  show IntKind.u32.wrap ((BitVec.ofInt 32 (a : Int) ^^^ BitVec.ofInt 32 (b : Int)).toNat : Int) = _
  have h : a ^^^ b < 4294967296 := Nat.xor_lt_two_pow (n := 32) ha hb
  rw [BitVec.toNat_xor, ofInt32 a ha, ofInt32 b hb, u32_wrap]
  omega
theorem and32 (a b : Nat) (ha : a < 4294967296) (hb : b < 4294967296) : bits .and .u32 (a : Int) (b : Int) = ((a &&& b : Nat) : Int) := by
  show IntKind.u32.wrap ((BitVec.ofInt 32 (a : Int) &&& BitVec.ofInt 32 (b : Int)).toNat : Int) = _
  have h : a &&& b < 4294967296 := Nat.lt_of_le_of_lt Nat.and_le_left ha
  rw [BitVec.toNat_and, ofInt32 a ha, ofInt32 b hb, u32_wrap]
  omega
theorem ones_xor {s : Nat} (h : s < 4294967296) : 4294967295 ^^^ s = 4294967295 - s := by
  have h1 := BitVec.toNat_not (x := BitVec.ofNat 32 s)
  rw [← BitVec.allOnes_xor, BitVec.toNat_xor, BitVec.toNat_allOnes, BitVec.toNat_ofNat, Nat.mod_eq_of_lt h] at h1
  exact h1
theorem cstart (w : World) : Calls Try.prog 121 #[] w fun e w' => e = .returned (.int .u32 4294967295) ∧ w = w' := by
  go_enter Try.func121, Try.ntmps121
  go_wp2
  go_ret
  exact ⟨rfl, rfl⟩
theorem cend (s : Nat) (hs : s < 4294967296) (w : World) : Calls Try.prog 123 #[.int .u32 (s : Int)] w fun e w' => e = .returned (.int .u32 ((4294967295 - s : Nat) : Int)) ∧ w = w' := by
  go_enter Try.func123, Try.ntmps123
  have hsg : IntKind.u32.signed = false := rfl
  go_wp2
  go_ret
  refine ⟨?_, rfl⟩
  show Ending.returned (.int .u32 (bits .xor .u32 (4294967295 : Nat) s)) = _
  rw [xor32 _ _ (by decide) hs, ones_xor hs]
theorem cturned (n : Nat) (hn : n < 4294967296) (w : World) : Calls Try.prog 107 #[.int .u32 (n : Int)] w fun e w' => e = .returned (.int .u32 (rev n : Nat)) ∧ w = w' := by
  have hr := rev_lt n
  have T32 := Lib.hid (show turn 32 n = rev n from rfl)
  go_enter Try.func107, Try.ntmps107
  go_wp2
  go_loop [0, 3, 4] (fun t u i => ∃ k : Nat, k ≤ 32 ∧ i = .int .i64 k ∧ t = .int .u32 ((n / 2 ^ k : Nat) : Int) ∧ u = .int .u32 (turn k n : Nat)) (fun _ _ i => 32 - (intOf i).toNat)
  case atStart => exact ⟨0, by omega, rfl, by simp, rfl⟩
  case round =>
    obtain ⟨k, hk, rfl, rfl, rfl⟩ := hrel
    have hb : n / 2 ^ k < 4294967296 := Nat.lt_of_le_of_lt (Nat.div_le_self _ _) hn
    have H := Lib.hid (show (n / 2 ^ (k + 1) : Nat) = n / 2 ^ k / 2 by rw [Nat.pow_succ, Nat.div_div_eq_div_mul])
    have T := Lib.hid (show turn (k + 1) n = turn k n * 2 + n / 2 ^ k % 2 from rfl)
    have T2 := Lib.hid (show k = 32 → turn k n = rev n by rintro rfl; rfl)
    have hl : k < 32 → turn k n < 2147483648 := fun h => Nat.lt_of_lt_of_le (turn_lt k n) (Nat.pow_le_pow_right (n := 2) (by decide) (show k ≤ 31 by omega))
    generalize n / 2 ^ k = q at *
    generalize turn k n = u at *
    by_cases hlt : k < 32
    · have hl := hl hlt
      go_wp2
      go_round
      case rel => exact ⟨k + 1, by omega, by go_num, by rw [H.out]; go_num, by rw [T.out]; go_num⟩
      case measure => simp [intOf]; omega
    · clear hl
      go_wp2
      go_ret
      refine ⟨?_, rfl⟩
      show Ending.returned (.int .u32 (u : Int)) = _
      rw [T2.out (by omega)]
theorem crcList_next (s : Nat) (l : List UInt8) {k : Nat} (h : k < l.length) : crcList s (l.take (k + 1)) = crcByte (crcList s (l.take k)) (l.getD k 0) := by
  unfold crcList
  rw [List.take_add_one, List.foldl_append, List.getD_eq_getElem?_getD, List.getElem?_eq_getElem h]
  rfl
theorem crcList_lt {s : Nat} (h : s < 4294967296) (l : List UInt8) : crcList s l < 4294967296 := by
  unfold crcList
  induction l generalizing s with
  | nil => exact h
  | cons c l ih => exact ih (crcByte_lt h c)
set_option maxHeartbeats 1000000 in
theorem cadd (s : Nat) (hs : s < 4294967296) (l : List UInt8) (v : Value) (F : Nat → Prop) (w : World) (hv : By w F v l) :
    Calls Try.prog 122 #[.int .u32 (s : Int), v] w fun e w' => e = .returned (.int .u32 (crcList s l : Nat)) ∧ w = w' := by
  obtain ⟨A, c, rfl, hlc, hcm, hnil, hr⟩ := hv
  unfold maxLen at hcm
  rw [Nat.mul_one] at hr
  have LT := Lib.hid (fun k => crcList_lt hs (l.take k))
  have NX := Lib.hid (fun k => crcList_next s l (k := k))
  have FIN := Lib.hid (show crcList s (l.take l.length) = crcList s l by rw [List.take_length])
  have HR := Lib.hid hr
  clear hr
  generalize hn : l.length = n at *
  have HN := Lib.hid hn
  clear hn
  go_enter Try.func122, Try.ntmps122
  go_wp2
  go_loopg [0, 10] n (fun g t i wr => ∃ k : Nat, g + k = n ∧ i = .int .i64 k ∧ t = .int .u32 (crcList s (l.take k) : Nat) ∧ w = wr)
  case atStart => exact ⟨0, by omega, rfl, rfl, rfl⟩
  case round =>
    obtain ⟨k, hk, rfl, rfl, rfl⟩ := hrel
    have hlt := LT.out k
    by_cases hkn : k < n
    · obtain ⟨b, off, rfl, -, hc⟩ := HR.out.at_ hkn
      have x1 := hc k _ (bv_at (HN.out ▸ hkn)).1
      clear hc
      have hcb := (l.getD k 0).toNat_lt
      have NXK := Lib.hid (NX.out k hkn)
      have e0 : bits .xor .u32 ((crcList s (l.take k) : Nat) : Int) (((l.getD k 0).toNat : Nat) : Int) = ((crcList s (l.take k) ^^^ (l.getD k 0).toNat : Nat) : Int) := xor32 _ _ hlt (by omega)
      have hx : crcList s (l.take k) ^^^ (l.getD k 0).toNat < 4294967296 := Nat.xor_lt_two_pow (n := 32) hlt (by omega)
      have BY := Lib.hid (show crcByte (crcList s (l.take k)) (l.getD k 0) = crcBits 8 (crcList s (l.take k) ^^^ (l.getD k 0).toNat) from rfl)
      obtain ⟨x, hxx⟩ : ∃ x, x = crcList s (l.take k) ^^^ (l.getD k 0).toNat := ⟨_, rfl⟩
      rw [← hxx] at e0 hx BY
      clear hxx
      generalize (l.getD k 0).toNat = c0 at *
      generalize crcList s (l.take k) = t0 at *
      obtain ⟨gk_1, hgk⟩ : ∃ m, m = gk := ⟨_, rfl⟩
      subst hgk
      go_wp2
      go_loopg [0, 18] 8 (fun g t i wr => ∃ j : Nat, g + j = 8 ∧ i = .int .i64 j ∧ t = .int .u32 (crcBits j x : Nat) ∧ w = wr)
      case atStart => exact ⟨0, by omega, rfl, rfl, rfl⟩
      case round =>
        obtain ⟨j, hj, rfl, rfl, rfl⟩ := hrel
        have hbl := crcBits_lt hx j
        have ST := Lib.hid (show crcBits (j + 1) x = crcBit (crcBits j x) from rfl)
        have B8 := Lib.hid (show j = 8 → crcBits j x = crcBits 8 x by rintro rfl; rfl)
        generalize crcBits j x = y at *
        by_cases hj8 : j < 8
        · have e1 : bits .and .u32 (y : Int) 1 = ((y % 2 : Nat) : Int) := by
            rw [show (1 : Int) = ((1 : Nat) : Int) from rfl, and32 _ _ hbl (by decide), Nat.and_one_is_mod]
          rcases Nat.mod_two_eq_zero_or_one y with h2 | h2
          · rw [h2] at e1
            have e2 : bits .and .u32 3988292384 0 = 0 := by decide +kernel
            have e3 : bits .xor .u32 (y / 2 : Int) 0 = ((y / 2 : Nat) : Int) := by
              have := xor32 (y / 2) 0 (by omega) (by decide)
              simpa using this
            have ST := Lib.hid (show crcBits (j + 1) x = y / 2 by rw [ST.out, crcBit, h2]; rfl)
            clear h2
            go_wp2
            go_roundg (gk - 1)
            case measure => omega
            case rel => exact ⟨j + 1, by omega, by go_num, by rw [ST.out]; go_num, rfl⟩
          · rw [h2] at e1
            have e2 : bits .and .u32 3988292384 4294967295 = 3988292384 := by decide +kernel
            have e3 : bits .xor .u32 (y / 2 : Int) 3988292384 = ((y / 2 ^^^ 3988292384 : Nat) : Int) := by
              have := xor32 (y / 2) 3988292384 (by omega) (by decide)
              simpa using this
            have ST := Lib.hid (show crcBits (j + 1) x = (y / 2 ^^^ 3988292384) by rw [ST.out, crcBit, h2]; rfl)
            clear h2
            go_wp2
            go_roundg (gk - 1)
            case measure => omega
            case rel => exact ⟨j + 1, by omega, by go_num, by rw [ST.out], rfl⟩
        · go_wp2
          go_roundg (gk_1 - 1)
          case measure => omega
          case rel => exact ⟨k + 1, by omega, by go_num, by rw [NXK.out, BY.out, ← B8.out (by omega)], rfl⟩
    · obtain rfl : k = n := by omega
      go_wp2
      go_ret
      refine ⟨?_, rfl⟩
      rw [← FIN.out]
      rfl

theorem refBits_next (k r c : Nat) : refBits (k + 1) r c = refBit (refBits k r c) (c / 2 ^ k) := rfl
theorem refList_next (s : Nat) (l : List UInt8) {k : Nat} (h : k < l.length) : refList s (l.take (k + 1)) = refByte (refList s (l.take k)) (l.getD k 0) := by
  unfold refList
  rw [List.take_add_one, List.foldl_append, List.getD_eq_getElem?_getD, List.getElem?_eq_getElem h]
  rfl
theorem refList_lt {s : Nat} (h : s < 4294967296) (l : List UInt8) : refList s l < 4294967296 := by
  unfold refList
  induction l generalizing s with
  | nil => exact h
  | cons c l ih => exact ih (refByte_lt h c)
set_option maxHeartbeats 1000000 in
theorem rcrc (l : List UInt8) (v : Value) (F : Nat → Prop) (w : World) (hv : By w F v l) :
    Calls Try.prog 57 #[v] w fun e w' => e = .returned (.int .u32 (crcOf l : Nat)) ∧ w = w' := by
  obtain ⟨A, c, rfl, hlc, hcm, hnil, hr⟩ := hv
  unfold maxLen at hcm
  rw [Nat.mul_one] at hr
  have LT := Lib.hid (fun k => refList_lt (s := 4294967295) (by decide) (l.take k))
  have NX := Lib.hid (fun k => refList_next 4294967295 l (k := k))
  have FIN := Lib.hid (show crcOf l = 4294967295 - rev (refList 4294967295 (l.take l.length)) by rw [List.take_length]; exact crcOf_ref l)
  have HR := Lib.hid hr
  clear hr
  generalize hn : l.length = n at *
  have HN := Lib.hid hn
  clear hn
  go_enter Try.func57, Try.ntmps57
  go_wp2
  go_loopg [3, 4] n (fun g t i wr => ∃ k : Nat, g + k = n ∧ i = .int .i64 k ∧ t = .int .u32 (refList 4294967295 (l.take k) : Nat) ∧ w = wr)
  case atStart => exact ⟨0, by omega, rfl, rfl, rfl⟩
  case round =>
    obtain ⟨k, hk, rfl, rfl, rfl⟩ := hrel
    have hlt := LT.out k
    by_cases hkn : k < n
    · obtain ⟨b, off, rfl, -, hc⟩ := HR.out.at_ hkn
      have x1 := hc k _ (bv_at (HN.out ▸ hkn)).1
      clear hc
      have hcb := (l.getD k 0).toNat_lt
      have NXK := Lib.hid (NX.out k hkn)
      have BY := Lib.hid (show refByte (refList 4294967295 (l.take k)) (l.getD k 0) = refBits 8 (refList 4294967295 (l.take k)) (l.getD k 0).toNat from rfl)
      generalize (l.getD k 0).toNat = c0 at *
      generalize refList 4294967295 (l.take k) = t0 at *
      obtain ⟨gk_1, hgk⟩ : ∃ m, m = gk := ⟨_, rfl⟩
      subst hgk
      go_wp2
      go_loopg [3, 5, 6] 8 (fun g t u i wr => ∃ j : Nat, g + j = 8 ∧ i = .int .i64 j ∧ t = .int .u32 (refBits j t0 c0 : Nat) ∧ u = .int .u32 (c0 / 2 ^ j : Nat) ∧ w = wr)
      case atStart => exact ⟨0, by omega, rfl, rfl, by simp, rfl⟩
      case round =>
        obtain ⟨j, hj, rfl, rfl, rfl, rfl⟩ := hrel
        have hbl := refBits_lt hlt j c0
        have hcl : c0 / 2 ^ j < 256 := Nat.lt_of_le_of_lt (Nat.div_le_self _ _) (by omega)
        have ST := Lib.hid (refBits_next j t0 c0)
        have CT := Lib.hid (show c0 / 2 ^ (j + 1) = c0 / 2 ^ j / 2 by rw [Nat.pow_succ, Nat.div_div_eq_div_mul])
        have B8 := Lib.hid (show j = 8 → refBits j t0 c0 = refBits 8 t0 c0 by rintro rfl; rfl)
        generalize refBits j t0 c0 = y at *
        generalize c0 / 2 ^ j = d at *
        by_cases hj8 : j < 8
        · by_cases hne : y / 2147483648 ≠ d % 2
          · have e1 : ((y : Int) / 2147483648 != (d : Int) % 2) = true := by simp; omega
            have e2 : bits .xor .u32 ((y : Int) * 2 % 4294967296) 79764919 = ((y * 2 % 4294967296 ^^^ 79764919 : Nat) : Int) := by
              have := xor32 (y * 2 % 4294967296) 79764919 (by omega) (by decide)
              simpa using this
            have ST := Lib.hid (show refBits (j + 1) t0 c0 = (y * 2 % 4294967296 ^^^ 79764919) by rw [ST.out, refBit, if_pos hne])
            clear hne
            go_wp2
            go_roundg (gk - 1)
            case measure => omega
            case rel =>
              refine ⟨j + 1, by omega, by go_num, ?_, ?_, rfl⟩
              · rw [ST.out]
              · rw [CT.out]; go_num
          · have e1 : ((y : Int) / 2147483648 != (d : Int) % 2) = false := by simp; omega
            have ST := Lib.hid (show refBits (j + 1) t0 c0 = y * 2 % 4294967296 by rw [ST.out, refBit, if_neg hne])
            clear hne
            go_wp2
            go_roundg (gk - 1)
            case measure => omega
            case rel =>
              refine ⟨j + 1, by omega, by go_num, ?_, ?_, rfl⟩
              · rw [ST.out]; go_num
              · rw [CT.out]; go_num
        · go_wp2
          go_roundg (gk_1 - 1)
          case measure => omega
          case rel => exact ⟨k + 1, by omega, by go_num, by rw [NXK.out, BY.out, ← B8.out (by omega)], rfl⟩
    · obtain rfl : k = n := by omega
      have hrl := rev_lt (refList 4294967295 (l.take k))
      go_wp2_with (go_at_call 107; refine (cturned _ (by assumption) _).mono ?_; rintro e w' ⟨rfl, rfl⟩)
      go_ret
      refine ⟨?_, rfl⟩
      rw [FIN.out]
      generalize rev (refList 4294967295 (l.take k)) = z at *
      exact ret_int (by omega)

theorem crcList_append (s : Nat) (a b : List UInt8) : crcList s (a ++ b) = crcList (crcList s a) b := by
  unfold crcList; rw [List.foldl_append]
theorem flatten_next {R : List (List UInt8)} {k : Nat} (h : k < R.length) : (R.take (k + 1)).flatten = (R.take k).flatten ++ R.getD k [] := by
  rw [List.take_add_one, List.flatten_append, List.getD_eq_getElem?_getD, List.getElem?_eq_getElem h]
  simp
set_option maxHeartbeats 1000000 in
theorem cof (R : List (List UInt8)) (v : Value) (F : Nat → Prop) (w : World) (hv : Bys w F v R) :
    Calls Try.prog 102 #[v] w fun e w' => e = .returned (.int .u32 (crcOf R.flatten : Nat)) ∧ w = w' := by
  obtain ⟨A, c, rfl, hRc, hcm, hat⟩ := hv.form
  unfold maxLen at hcm
  have HA := Lib.hid hat
  have LT := Lib.hid (fun k => crcList_lt (s := 4294967295) (by decide) (R.take k).flatten)
  have NX := Lib.hid (show ∀ k, k < R.length → crcList 4294967295 (R.take (k + 1)).flatten = crcList (crcList 4294967295 (R.take k).flatten) (R.getD k []) from fun k h => by rw [flatten_next h, crcList_append])
  have FIN := Lib.hid (show crcOf R.flatten = 4294967295 - crcList 4294967295 (R.take R.length).flatten by rw [List.take_length]; rfl)
  clear hat hv
  generalize hn : R.length = n at *
  clear hn
  go_enter Try.func102, Try.ntmps102
  go_wp2_with (go_at_call 121; refine (cstart _).mono ?_; rintro e w' ⟨rfl, rfl⟩)
  go_loopg [3, 9] n (fun g t i wr => ∃ k : Nat, g + k = n ∧ i = .int .i64 k ∧ t = .int .u32 (crcList 4294967295 (R.take k).flatten : Nat) ∧ w = wr)
  case atStart => exact ⟨0, by omega, rfl, rfl, rfl⟩
  case round =>
    obtain ⟨k, hk, rfl, rfl, rfl⟩ := hrel
    have hlt := LT.out k
    by_cases hkn : k < n
    · obtain ⟨b, off, u1, e1, x1, y1⟩ := HA.out k hkn
      have NXK := Lib.hid (NX.out k hkn)
      have CA := Lib.hid (fun s hs => cadd s hs _ u1 F w y1)
      subst e1
      obtain ⟨A1, d1, rfl, -⟩ := id y1
      clear y1
      generalize crcList 4294967295 (R.take k).flatten = t0 at *
      generalize (R.getD k []).length = n1 at *
      go_wp2_with (go_at_call 122; refine (CA.out t0 (by assumption)).mono ?_; rintro e w' ⟨rfl, rfl⟩)
      go_roundg (gk - 1)
      case measure => omega
      case rel => exact ⟨k + 1, by omega, by go_num, by rw [NXK.out, List.getD_eq_getElem?_getD], rfl⟩
    · obtain rfl : k = n := by omega
      generalize crcList 4294967295 (R.take k).flatten = t0 at *
      go_wp2_with (go_at_call 123; refine (cend t0 (by assumption) _).mono ?_; rintro e w' ⟨rfl, rfl⟩)
      go_ret
      refine ⟨?_, rfl⟩
      rw [FIN.out]
      rfl
end Go.Proofs.Ythkgchlndfcmpaa

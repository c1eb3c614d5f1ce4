/- Contracts of crc.Start, End, Add, vivariumref02.turned. -/
import Derived.Test.YtfjgbnnjfapcmaaLePl
import Derived.Test.YtfjgbnnjfapcmaaArgs
import Derived.Deep.LoopGhost
import Derived.Test.YtfjgbnnjfapcmaaLe1
namespace Go.Proofs.Ytfjgbnnjfapcmaa
open Go.RowKit
set_option maxRecDepth 100000
set_option linter.unusedVariables false

theorem ofInt32 (a : Nat) (h : a < 4294967296) : (BitVec.ofInt 32 (a : Int)).toNat = a := by
  rw [BitVec.ofInt_natCast, BitVec.toNat_ofNat]
  exact Nat.mod_eq_of_lt h
theorem u32_wrap (y : Int) : IntKind.u32.wrap y = y % 4294967296 := by simp [IntKind.wrap, IntKind.bits, IntKind.signed]
theorem xor32 (a b : Nat) (ha : a < 4294967296) (hb : b < 4294967296) : bits .xor .u32 (a : Int) (b : Int) = ((a ^^^ b : Nat) : Int) := by
  show IntKind.u32.wrap ((BitVec.ofInt 32 (a : Int) ^^^ BitVec.ofInt 32 (b : Int)).toNat : Int) = _
  have h : a ^^^ b < 4294967296 := Nat.xor_lt_two_pow (n := 32) ha hb
  rw [BitVec.toNat_xor, ofInt32 a ha, ofInt32 b hb, u32_wrap]
  omega
theorem and32 (a b : Nat) (ha : a < 4294967296) (hb : b < 4294967296) : bits .and .u32 (a : Int) (b : Int) = ((a &&& b : Nat) : Int) := by
  show IntKind.u32.wrap ((BitVec.ofInt 32 (a : Int) &&& BitVec.ofInt 32 (b : Int)).toNat : Int) = _
  have h : a &&& b < 4294967296 := Nat.lt_of_le_of_lt Nat.and_le_left ha
  rw [BitVec.toNat_and, ofInt32 a ha, ofInt32 b hb, u32_wrap]
  omega
theorem ones_xor {s : Nat} (h : s < 4294967296) : 4294967295 ^^^ s = 4294967295 - s := by
  have h1 := BitVec.toNat_not (x := BitVec.ofNat 32 s)
  rw [← BitVec.allOnes_xor, BitVec.toNat_xor, BitVec.toNat_allOnes, BitVec.toNat_ofNat, Nat.mod_eq_of_lt h] at h1
  exact h1
theorem cstart (w : World) : Calls Try.prog 79 #[] w fun e w' => e = .returned (.int .u32 4294967295) ∧ w = w' := by
  go_enter Try.func79, Try.ntmps79
  go_wp2
  go_ret
  exact ⟨rfl, rfl⟩
theorem cend (s : Nat) (hs : s < 4294967296) (w : World) : Calls Try.prog 81 #[.int .u32 (s : Int)] w fun e w' => e = .returned (.int .u32 ((4294967295 - s : Nat) : Int)) ∧ w = w' := by
  go_enter Try.func81, Try.ntmps81
  have hsg : IntKind.u32.signed = false := rfl
  go_wp2
  go_ret
  refine ⟨?_, rfl⟩
  show Ending.returned (.int .u32 (bits .xor .u32 (4294967295 : Nat) s)) = _
  rw [xor32 _ _ (by decide) hs, ones_xor hs]
theorem cturned (n : Nat) (hn : n < 4294967296) (w : World) : Calls Try.prog 69 #[.int .u32 (n : Int)] w fun e w' => e = .returned (.int .u32 (rev n : Nat)) ∧ w = w' := by
  have hr := rev_lt n
  have T32 := Lib.hid (show turn 32 n = rev n from rfl)
  go_enter Try.func69, Try.ntmps69
  go_wp2
  go_loop [0, 3, 4] (fun t u i => ∃ k : Nat, k ≤ 32 ∧ i = .int .i64 k ∧ t = .int .u32 ((n / 2 ^ k : Nat) : Int) ∧ u = .int .u32 (turn k n : Nat)) (fun _ _ i => 32 - (intOf i).toNat)
  case atStart => exact ⟨0, by omega, rfl, by simp, rfl⟩
  case round =>
    obtain ⟨k, hk, rfl, rfl, rfl⟩ := hrel
    have hb : n / 2 ^ k < 4294967296 := Nat.lt_of_le_of_lt (Nat.div_le_self _ _) hn
    have H := Lib.hid (show (n / 2 ^ (k + 1) : Nat) = n / 2 ^ k / 2 by rw [Nat.pow_succ, Nat.div_div_eq_div_mul])
    have T := Lib.hid (show turn (k + 1) n = turn k n * 2 + n / 2 ^ k % 2 from rfl)
    have T2 := Lib.hid (show k = 32 → turn k n = rev n by rintro rfl; rfl)
    have hl : k < 32 → turn k n < 2147483648 := fun h => Nat.lt_of_lt_of_le (turn_lt k n) (Nat.pow_le_pow_right (n := 2) (by decide) (show k ≤ 31 by omega))
    generalize n / 2 ^ k = q at *
    generalize turn k n = u at *
    by_cases hlt : k < 32
    · have hl := hl hlt
      go_wp2
      go_round
      case rel => exact ⟨k + 1, by omega, by go_num, by rw [H.out]; go_num, by rw [T.out]; go_num⟩
      case measure => simp [intOf]; omega
    · clear hl
      go_wp2
      go_ret
      refine ⟨?_, rfl⟩
      show Ending.returned (.int .u32 (u : Int)) = _
      rw [T2.out (by omega)]
theorem crcList_next (s : Nat) (l : List UInt8) {k : Nat} (h : k < l.length) : crcList s (l.take (k + 1)) = crcByte (crcList s (l.take k)) (l.getD k 0) := by
  unfold crcList
  rw [List.take_add_one, List.foldl_append, List.getD_eq_getElem?_getD, List.getElem?_eq_getElem h]
  rfl
theorem crcList_lt {s : Nat} (h : s < 4294967296) (l : List UInt8) : crcList s l < 4294967296 := by
  unfold crcList
  induction l generalizing s with
  | nil => exact h
  | cons c l ih => exact ih (crcByte_lt h c)
set_option maxHeartbeats 1000000 in
theorem cadd (s : Nat) (hs : s < 4294967296) (l : List UInt8) (v : Value) (F : Nat → Prop) (w : World) (hv : By w F v l) :
    Calls Try.prog 80 #[.int .u32 (s : Int), v] w fun e w' => e = .returned (.int .u32 (crcList s l : Nat)) ∧ w = w' := by
  obtain ⟨A, c, rfl, hlc, hcm, hnil, hr⟩ := hv
  unfold maxLen at hcm
  rw [Nat.mul_one] at hr
  have LT := Lib.hid (fun k => crcList_lt hs (l.take k))
  have NX := Lib.hid (fun k => crcList_next s l (k := k))
  have FIN := Lib.hid (show crcList s (l.take l.length) = crcList s l by rw [List.take_length])
  have HR := Lib.hid hr
  clear hr
  generalize hn : l.length = n at *
  have HN := Lib.hid hn
  clear hn
  go_enter Try.func80, Try.ntmps80
  go_wp2
  go_loopg [0, 10] n (fun g t i wr => ∃ k : Nat, g + k = n ∧ i = .int .i64 k ∧ t = .int .u32 (crcList s (l.take k) : Nat) ∧ w = wr)
  case atStart => exact ⟨0, by omega, rfl, rfl, rfl⟩
  case round =>
    obtain ⟨k, hk, rfl, rfl, rfl⟩ := hrel
    have hlt := LT.out k
    by_cases hkn : k < n
    · obtain ⟨b, off, rfl, -, hc⟩ := HR.out.at_ hkn
      have x1 := hc k _ (bv_at (HN.out ▸ hkn)).1
      clear hc
      have hcb := (l.getD k 0).toNat_lt
      have NXK := Lib.hid (NX.out k hkn)
      have e0 : bits .xor .u32 ((crcList s (l.take k) : Nat) : Int) (((l.getD k 0).toNat : Nat) : Int) = ((crcList s (l.take k) ^^^ (l.getD k 0).toNat : Nat) : Int) := xor32 _ _ hlt (by omega)
      have hx : crcList s (l.take k) ^^^ (l.getD k 0).toNat < 4294967296 := Nat.xor_lt_two_pow (n := 32) hlt (by omega)
      have BY := Lib.hid (show crcByte (crcList s (l.take k)) (l.getD k 0) = crcBits 8 (crcList s (l.take k) ^^^ (l.getD k 0).toNat) from rfl)
      obtain ⟨x, hxx⟩ : ∃ x, x = crcList s (l.take k) ^^^ (l.getD k 0).toNat := ⟨_, rfl⟩
      rw [← hxx] at e0 hx BY
      clear hxx
      generalize (l.getD k 0).toNat = c0 at *
      generalize crcList s (l.take k) = t0 at *
      obtain ⟨gk_1, hgk⟩ : ∃ m, m = gk := ⟨_, rfl⟩
      subst hgk
      go_wp2
      go_loopg [0, 18] 8 (fun g t i wr => ∃ j : Nat, g + j = 8 ∧ i = .int .i64 j ∧ t = .int .u32 (crcBits j x : Nat) ∧ w = wr)
      case atStart => exact ⟨0, by omega, rfl, rfl, rfl⟩
      case round =>
        obtain ⟨j, hj, rfl, rfl, rfl⟩ := hrel
        have hbl := crcBits_lt hx j
        have ST := Lib.hid (show crcBits (j + 1) x = crcBit (crcBits j x) from rfl)
        have B8 := Lib.hid (show j = 8 → crcBits j x = crcBits 8 x by rintro rfl; rfl)
        generalize crcBits j x = y at *
        by_cases hj8 : j < 8
        · have e1 : bits .and .u32 (y : Int) 1 = ((y % 2 : Nat) : Int) := by
            rw [show (1 : Int) = ((1 : Nat) : Int) from rfl, and32 _ _ hbl (by decide), Nat.and_one_is_mod]
          rcases Nat.mod_two_eq_zero_or_one y with h2 | h2
          · rw [h2] at e1
            have e2 : bits .and .u32 3988292384 0 = 0 := by decide +kernel
            have e3 : bits .xor .u32 (y / 2 : Int) 0 = ((y / 2 : Nat) : Int) := by
              have := xor32 (y / 2) 0 (by omega) (by decide)
              simpa using this
            have ST := Lib.hid (show crcBits (j + 1) x = y / 2 by rw [ST.out, crcBit, h2]; rfl)
            clear h2
            go_wp2
            go_roundg (gk - 1)
            case measure => omega
            case rel => exact ⟨j + 1, by omega, by go_num, by rw [ST.out]; go_num, rfl⟩
          · rw [h2] at e1
            have e2 : bits .and .u32 3988292384 4294967295 = 3988292384 := by decide +kernel
            have e3 : bits .xor .u32 (y / 2 : Int) 3988292384 = ((y / 2 ^^^ 3988292384 : Nat) : Int) := by
              have := xor32 (y / 2) 3988292384 (by omega) (by decide)
              simpa using this
            have ST := Lib.hid (show crcBits (j + 1) x = (y / 2 ^^^ 3988292384) by rw [ST.out, crcBit, h2]; rfl)
            clear h2
            go_wp2
            go_roundg (gk - 1)
            case measure => omega
            case rel => exact ⟨j + 1, by omega, by go_num, by rw [ST.out], rfl⟩
        · go_wp2
          go_roundg (gk_1 - 1)
          case measure => omega
          case rel => exact ⟨k + 1, by omega, by go_num, by rw [NXK.out, BY.out, ← B8.out (by omega)], rfl⟩
    · obtain rfl : k = n := by omega
      go_wp2
      go_ret
      refine ⟨?_, rfl⟩
      rw [← FIN.out]
      rfl

theorem refBits_next (k r c : Nat) : refBits (k + 1) r c = refBit (refBits k r c) (c / 2 ^ k) := rfl
theorem refList_next (s : Nat) (l : List UInt8) {k : Nat} (h : k < l.length) : refList s (l.take (k + 1)) = refByte (refList s (l.take k)) (l.getD k 0) := by
  unfold refList
  rw [List.take_add_one, List.foldl_append, List.getD_eq_getElem?_getD, List.getElem?_eq_getElem h]
  rfl
theorem refList_lt {s : Nat} (h : s < 4294967296) (l : List UInt8) : refList s l < 4294967296 := by
  unfold refList
  induction l generalizing s with
  | nil => exact h
  | cons c l ih => exact ih (refByte_lt h c)
set_option maxHeartbeats 1000000 in
theorem rcrc (l : List UInt8) (v : Value) (F : Nat → Prop) (w : World) (hv : By w F v l) :
    Calls Try.prog 48 #[v] w fun e w' => e = .returned (.int .u32 (crcOf l : Nat)) ∧ w = w' := by
  obtain ⟨A, c, rfl, hlc, hcm, hnil, hr⟩ := hv
  unfold maxLen at hcm
  rw [Nat.mul_one] at hr
  have LT := Lib.hid (fun k => refList_lt (s := 4294967295) (by decide) (l.take k))
  have NX := Lib.hid (fun k => refList_next 4294967295 l (k := k))
  have FIN := Lib.hid (show crcOf l = 4294967295 - rev (refList 4294967295 (l.take l.length)) by rw [List.take_length]; exact crcOf_ref l)
  have HR := Lib.hid hr
  clear hr
  generalize hn : l.length = n at *
  have HN := Lib.hid hn
  clear hn
  go_enter Try.func48, Try.ntmps48
  go_wp2
  go_loopg [3, 4] n (fun g t i wr => ∃ k : Nat, g + k = n ∧ i = .int .i64 k ∧ t = .int .u32 (refList 4294967295 (l.take k) : Nat) ∧ w = wr)
  case atStart => exact ⟨0, by omega, rfl, rfl, rfl⟩
  case round =>
    obtain ⟨k, hk, rfl, rfl, rfl⟩ := hrel
    have hlt := LT.out k
    by_cases hkn : k < n
    · obtain ⟨b, off, rfl, -, hc⟩ := HR.out.at_ hkn
      have x1 := hc k _ (bv_at (HN.out ▸ hkn)).1
      clear hc
      have hcb := (l.getD k 0).toNat_lt
      have NXK := Lib.hid (NX.out k hkn)
      have BY := Lib.hid (show refByte (refList 4294967295 (l.take k)) (l.getD k 0) = refBits 8 (refList 4294967295 (l.take k)) (l.getD k 0).toNat from rfl)
      generalize (l.getD k 0).toNat = c0 at *
      generalize refList 4294967295 (l.take k) = t0 at *
      obtain ⟨gk_1, hgk⟩ : ∃ m, m = gk := ⟨_, rfl⟩
      subst hgk
      go_wp2
      go_loopg [3, 5, 6] 8 (fun g t u i wr => ∃ j : Nat, g + j = 8 ∧ i = .int .i64 j ∧ t = .int .u32 (refBits j t0 c0 : Nat) ∧ u = .int .u32 (c0 / 2 ^ j : Nat) ∧ w = wr)
      case atStart => exact ⟨0, by omega, rfl, rfl, by simp, rfl⟩
      case round =>
        obtain ⟨j, hj, rfl, rfl, rfl, rfl⟩ := hrel
        have hbl := refBits_lt hlt j c0
        have hcl : c0 / 2 ^ j < 256 := Nat.lt_of_le_of_lt (Nat.div_le_self _ _) (by omega)
        have ST := Lib.hid (refBits_next j t0 c0)
        have CT := Lib.hid (show c0 / 2 ^ (j + 1) = c0 / 2 ^ j / 2 by rw [Nat.pow_succ, Nat.div_div_eq_div_mul])
        have B8 := Lib.hid (show j = 8 → refBits j t0 c0 = refBits 8 t0 c0 by rintro rfl; rfl)
        generalize refBits j t0 c0 = y at *
        generalize c0 / 2 ^ j = d at *
        by_cases hj8 : j < 8
        · by_cases hne : y / 2147483648 ≠ d % 2
          · have e1 : ((y : Int) / 2147483648 != (d : Int) % 2) = true := by simp; omega
            have e2 : bits .xor .u32 ((y : Int) * 2 % 4294967296) 79764919 = ((y * 2 % 4294967296 ^^^ 79764919 : Nat) : Int) := by
              have := xor32 (y * 2 % 4294967296) 79764919 (by omega) (by decide)
              simpa using this
            have ST := Lib.hid (show refBits (j + 1) t0 c0 = (y * 2 % 4294967296 ^^^ 79764919) by rw [ST.out, refBit, if_pos hne])
            clear hne
            go_wp2
            go_roundg (gk - 1)
            case measure => omega
            case rel =>
              refine ⟨j + 1, by omega, by go_num, ?_, ?_, rfl⟩
              · rw [ST.out]
              · rw [CT.out]; go_num
          · have e1 : ((y : Int) / 2147483648 != (d : Int) % 2) = false := by simp; omega
            have ST := Lib.hid (show refBits (j + 1) t0 c0 = y * 2 % 4294967296 by rw [ST.out, refBit, if_neg hne])
            clear hne
            go_wp2
            go_roundg (gk - 1)
            case measure => omega
            case rel =>
              refine ⟨j + 1, by omega, by go_num, ?_, ?_, rfl⟩
              · rw [ST.out]; go_num
              · rw [CT.out]; go_num
        · go_wp2
          go_roundg (gk_1 - 1)
          case measure => omega
          case rel => exact ⟨k + 1, by omega, by go_num, by rw [NXK.out, BY.out, ← B8.out (by omega)], rfl⟩
    · obtain rfl : k = n := by omega
      have hrl := rev_lt (refList 4294967295 (l.take k))
      go_wp2_with (go_at_call 69; refine (cturned _ (by assumption) _).mono ?_; rintro e w' ⟨rfl, rfl⟩)
      go_ret
      refine ⟨?_, rfl⟩
      rw [FIN.out]
      generalize rev (refList 4294967295 (l.take k)) = z at *
      exact ret_int (by omega)

theorem crcList_append (s : Nat) (a b : List UInt8) : crcList s (a ++ b) = crcList (crcList s a) b := by
  unfold crcList; rw [List.foldl_append]
theorem flatten_next {R : List (List UInt8)} {k : Nat} (h : k < R.length) : (R.take (k + 1)).flatten = (R.take k).flatten ++ R.getD k [] := by
  rw [List.take_add_one, List.flatten_append, List.getD_eq_getElem?_getD, List.getElem?_eq_getElem h]
  simp
set_option maxHeartbeats 1000000 in
theorem cof (R : List (List UInt8)) (v : Value) (F : Nat → Prop) (w : World) (hv : Bys w F v R) :
    Calls Try.prog 59 #[v] w fun e w' => e = .returned (.int .u32 (crcOf R.flatten : Nat)) ∧ w = w' := by
  obtain ⟨A, c, rfl, hRc, hcm, hat⟩ := hv.form
  unfold maxLen at hcm
  have HA := Lib.hid hat
  have LT := Lib.hid (fun k => crcList_lt (s := 4294967295) (by decide) (R.take k).flatten)
  have NX := Lib.hid (show ∀ k, k < R.length → crcList 4294967295 (R.take (k + 1)).flatten = crcList (crcList 4294967295 (R.take k).flatten) (R.getD k []) from fun k h => by rw [flatten_next h, crcList_append])
  have FIN := Lib.hid (show crcOf R.flatten = 4294967295 - crcList 4294967295 (R.take R.length).flatten by rw [List.take_length]; rfl)
  clear hat hv
  generalize hn : R.length = n at *
  clear hn
  go_enter Try.func59, Try.ntmps59
  go_wp2_with (go_at_call 79; refine (cstart _).mono ?_; rintro e w' ⟨rfl, rfl⟩)
  go_loopg [3, 9] n (fun g t i wr => ∃ k : Nat, g + k = n ∧ i = .int .i64 k ∧ t = .int .u32 (crcList 4294967295 (R.take k).flatten : Nat) ∧ w = wr)
  case atStart => exact ⟨0, by omega, rfl, rfl, rfl⟩
  case round =>
    obtain ⟨k, hk, rfl, rfl, rfl⟩ := hrel
    have hlt := LT.out k
    by_cases hkn : k < n
    · obtain ⟨b, off, u1, e1, x1, y1⟩ := HA.out k hkn
      have NXK := Lib.hid (NX.out k hkn)
      have CA := Lib.hid (fun s hs => cadd s hs _ u1 F w y1)
      subst e1
      obtain ⟨A1, d1, rfl, -⟩ := id y1
      clear y1
      generalize crcList 4294967295 (R.take k).flatten = t0 at *
      generalize (R.getD k []).length = n1 at *
      go_wp2_with (go_at_call 80; refine (CA.out t0 (by assumption)).mono ?_; rintro e w' ⟨rfl, rfl⟩)
      go_roundg (gk - 1)
      case measure => omega
      case rel => exact ⟨k + 1, by omega, by go_num, by rw [NXK.out, List.getD_eq_getElem?_getD], rfl⟩
    · obtain rfl : k = n := by omega
      generalize crcList 4294967295 (R.take k).flatten = t0 at *
      go_wp2_with (go_at_call 81; refine (cend t0 (by assumption) _).mono ?_; rintro e w' ⟨rfl, rfl⟩)
      go_ret
      refine ⟨?_, rfl⟩
      rw [FIN.out]
      rfl
end Go.Proofs.Ytfjgbnnjfapcmaa
namespace Go.Proofs.Ytfjgbnnjfapcmaa
open Go.RowKit
set_option maxRecDepth 100000
set_option linter.unusedVariables false

def nearN (z : Int) (h : Nat) : Nat := if z < 0 then 0 else if (h : Int) < z then h else z.toNat
theorem nearN_le (z : Int) (h : Nat) : nearN z h ≤ h := by unfold nearN; split <;> (try split) <;> omega
theorem nearN_id {n h : Nat} (hn : n ≤ h) : nearN n h = n := by
  unfold nearN; rw [if_neg (by omega), if_neg (by omega)]; omega
/-- A seal's numbers and its body. -/
structure SV where
  ep : Int
  no : Int
  kd : Int
  bd : List UInt8
def frontB (e n : Nat) : List UInt8 := leB e 8 ++ leB n 8
def restB (e n k : Nat) (b : List UInt8) : List UInt8 := leB k 1 ++ ([0] ++ (leB b.length 2 ++ (cutB b 472 ++ (leB n 8 ++ leB e 8))))
def sumB (e n k : Nat) (b : List UInt8) : Nat := crcOf (frontB e n ++ restB e n k b)
def seal0 (e n k : Nat) (b : List UInt8) : List UInt8 := leB e 8 ++ (leB n 8 ++ (leB (sumB e n k b) 4 ++ (leB k 1 ++ ([0] ++ (leB b.length 2 ++ (cutB b 472 ++ (leB n 8 ++ leB e 8)))))))
def bodyOf (b : List UInt8) : List UInt8 := b.take 472
def sealB (x : SV) : List UInt8 := seal0 (nearN x.ep 281474976710656) (nearN x.no 281474976710656) (nearN x.kd 255) (bodyOf x.bd)
theorem bodyOf_len (b : List UInt8) : (bodyOf b).length ≤ 472 := by unfold bodyOf; rw [List.length_take]; omega
theorem seal0_len (e n k : Nat) (b : List UInt8) : (seal0 e n k b).length = 512 := by
  simp [seal0, leB_len, cutB_len]
theorem sealB_len (x : SV) : (sealB x).length = 512 := seal0_len _ _ _ _
theorem crcOf_lt (l : List UInt8) : crcOf l < 4294967296 := by unfold crcOf; omega

theorem piece_skip (a b : List UInt8) {off k m : Nat} (h : off = a.length + k) : pieceOf (a ++ b) off m = pieceOf b k m := by
  unfold pieceOf
  rw [h, List.drop_append, List.drop_eq_nil_of_le (by omega), List.nil_append]
  congr 2; omega
theorem piece_here (a b : List UInt8) {m : Nat} (h : m = a.length) : pieceOf (a ++ b) 0 m = a := by
  unfold pieceOf
  rw [List.drop_zero, h, List.take_left']
  rfl
theorem piece_all (a : List UInt8) {m : Nat} (h : m = a.length) : pieceOf a 0 m = a := by
  unfold pieceOf
  rw [List.drop_zero, h, List.take_length]
section
variable (e n k : Nat) (b : List UInt8)
theorem seal_front : pieceOf (seal0 e n k b) 0 8 = leB e 8 := piece_here _ _ (by rw [leB_len])
theorem seal_no : pieceOf (seal0 e n k b) 8 8 = leB n 8 := by
  unfold seal0
  rw [piece_skip _ _ (k := 0) (by rw [leB_len]), piece_here _ _ (by rw [leB_len])]
theorem seal_kd : pieceOf (seal0 e n k b) 20 1 = leB k 1 := by
  unfold seal0
  rw [piece_skip _ _ (k := 12) (by rw [leB_len]), piece_skip _ _ (k := 4) (by rw [leB_len]), piece_skip _ _ (k := 0) (by rw [leB_len]), piece_here _ _ (by rw [leB_len])]
theorem seal_long : pieceOf (seal0 e n k b) 22 2 = leB b.length 2 := by
  unfold seal0
  rw [piece_skip _ _ (k := 14) (by rw [leB_len]), piece_skip _ _ (k := 6) (by rw [leB_len]), piece_skip _ _ (k := 2) (by rw [leB_len]), piece_skip _ _ (k := 1) (by rw [leB_len]), piece_skip _ _ (k := 0) (by simp), piece_here _ _ (by rw [leB_len])]
theorem seal_body (h : b.length ≤ 472) : pieceOf (seal0 e n k b) 24 b.length = b := by
  unfold seal0
  rw [piece_skip _ _ (k := 16) (by rw [leB_len]), piece_skip _ _ (k := 8) (by rw [leB_len]), piece_skip _ _ (k := 4) (by rw [leB_len]), piece_skip _ _ (k := 3) (by rw [leB_len]), piece_skip _ _ (k := 2) (by simp), piece_skip _ _ (k := 0) (by rw [leB_len])]
  unfold cutB
  rw [List.take_of_length_le h, List.append_assoc]
  exact piece_here _ _ rfl
theorem seal_back : pieceOf (seal0 e n k b) 496 8 = leB n 8 := by
  unfold seal0
  rw [piece_skip _ _ (k := 488) (by rw [leB_len]), piece_skip _ _ (k := 480) (by rw [leB_len]), piece_skip _ _ (k := 476) (by rw [leB_len]), piece_skip _ _ (k := 475) (by rw [leB_len]), piece_skip _ _ (k := 474) (by simp), piece_skip _ _ (k := 472) (by rw [leB_len]), piece_skip _ _ (k := 0) (by rw [cutB_len]), piece_here _ _ (by rw [leB_len])]
theorem seal_last : pieceOf (seal0 e n k b) 504 8 = leB e 8 := by
  unfold seal0
  rw [piece_skip _ _ (k := 496) (by rw [leB_len]), piece_skip _ _ (k := 488) (by rw [leB_len]), piece_skip _ _ (k := 484) (by rw [leB_len]), piece_skip _ _ (k := 483) (by rw [leB_len]), piece_skip _ _ (k := 482) (by simp), piece_skip _ _ (k := 480) (by rw [leB_len]), piece_skip _ _ (k := 8) (by rw [cutB_len]), piece_skip _ _ (k := 0) (by rw [leB_len]), piece_all _ (by rw [leB_len])]
end
/-- A word of 8 bytes, as an int. -/
def wordZ (s : List UInt8) (at_ : Nat) : Int := wrap64 (getN (pieceOf s at_ 8))
def longN (s : List UInt8) : Nat := getN (pieceOf s 22 2)
def kindN (s : List UInt8) : Nat := getN (pieceOf s 20 1)
/-- What the bytes s say, if they are a seal. -/
def valOf (s : List UInt8) : SV := ⟨wordZ s 0, wordZ s 8, kindN s, pieceOf s 24 (min (longN s) 472)⟩
def okS (s : List UInt8) : Bool := decide (s.length = 512) && decide (sealB (valOf s) = s)
theorem okS_iff {s : List UInt8} : okS s = true ↔ s.length = 512 ∧ sealB (valOf s) = s := by
  unfold okS; rw [Bool.and_eq_true, decide_eq_true_iff, decide_eq_true_iff]
theorem wrap_small {n : Nat} (h : n < 9223372036854775808) : wrap64 (n : Int) = n := by unfold wrap64; omega
theorem wordZ_leB {s : List UInt8} {at_ n : Nat} (h : pieceOf s at_ 8 = leB n 8) (hn : n ≤ 281474976710656) : wordZ s at_ = n := by
  unfold wordZ
  rw [h, getN_leB, Nat.mod_eq_of_lt (by omega), wrap_small (by omega)]
theorem valOf_seal0 {e n k : Nat} {b : List UInt8} (he : e ≤ 281474976710656) (hn : n ≤ 281474976710656) (hk : k ≤ 255) (hb : b.length ≤ 472) : valOf (seal0 e n k b) = ⟨e, n, k, b⟩ := by
  have hl : longN (seal0 e n k b) = b.length := by unfold longN; rw [seal_long, getN_leB, Nat.mod_eq_of_lt (by omega)]
  have hkd : kindN (seal0 e n k b) = k := by unfold kindN; rw [seal_kd, getN_leB, Nat.mod_eq_of_lt (by omega)]
  unfold valOf
  rw [wordZ_leB (seal_front e n k b) he, wordZ_leB (seal_no e n k b) hn, hkd, hl, Nat.min_eq_left hb, seal_body e n k b hb]
theorem sealB_id {e n k : Nat} {b : List UInt8} (he : e ≤ 281474976710656) (hn : n ≤ 281474976710656) (hk : k ≤ 255) (hb : b.length ≤ 472) : sealB ⟨e, n, k, b⟩ = seal0 e n k b := by
  unfold sealB bodyOf
  rw [nearN_id he, nearN_id hn, nearN_id hk, List.take_of_length_le hb]
/-- What counts of a seal. -/
def nearS (x : SV) : SV := ⟨nearN x.ep 281474976710656, nearN x.no 281474976710656, nearN x.kd 255, bodyOf x.bd⟩
theorem valOf_sealB (x : SV) : valOf (sealB x) = nearS x := valOf_seal0 (nearN_le _ _) (nearN_le _ _) (nearN_le _ _) (bodyOf_len _)
theorem sealB_near (x : SV) : sealB (nearS x) = sealB x := sealB_id (nearN_le _ _) (nearN_le _ _) (nearN_le _ _) (bodyOf_len _)
theorem okS_sealB (x : SV) : okS (sealB x) = true := okS_iff.2 ⟨sealB_len x, by rw [valOf_sealB, sealB_near]⟩
/-- P3.3. -/
def epochZ (s : List UInt8) (at_ : Nat) : Int := if s.length = 512 then (if wordZ s at_ < 0 ∨ 281474976710656 < wordZ s at_ then -1 else wordZ s at_) else -1
def topZ (s : List UInt8) : Int := max 0 (max (epochZ s 0) (epochZ s 504))
theorem epochs_sealB (x : SV) : epochZ (sealB x) 0 = nearN x.ep 281474976710656 ∧ epochZ (sealB x) 504 = nearN x.ep 281474976710656 := by
  have h := nearN_le x.ep 281474976710656
  have h1 : wordZ (sealB x) 0 = nearN x.ep 281474976710656 := wordZ_leB (seal_front _ _ _ _) h
  have h2 : wordZ (sealB x) 504 = nearN x.ep 281474976710656 := wordZ_leB (seal_last _ _ _ _) h
  unfold epochZ
  rw [if_pos (sealB_len x), if_pos (sealB_len x), h1, h2, if_neg (by omega)]
  exact ⟨rfl, rfl⟩
theorem top_sealB (x : SV) : topZ (sealB x) = nearN x.ep 281474976710656 := by
  unfold topZ
  rw [(epochs_sealB x).1, (epochs_sealB x).2]
  omega
/-- P3.4. -/
def tearB (a b : List UInt8) (k : Int) : List UInt8 :=
  if 0 < k then b.take (8 * min k.toNat 64) ++ a.drop (8 * min k.toNat 64)
  else if k < 0 then a.take (8 * (64 - min (-k).toNat 64)) ++ b.drop (8 * (64 - min (-k).toNat 64)) else a
theorem tearB_len {a b : List UInt8} (k : Int) (ha : a.length = 512) (hb : b.length = 512) : (tearB a b k).length = 512 := by
  unfold tearB
  split
  · rw [List.length_append, List.length_take, List.length_drop]; omega
  · split
    · rw [List.length_append, List.length_take, List.length_drop]; omega
    · exact ha
theorem piece_left {a b : List UInt8} {m off n : Nat} (h : off + n ≤ m) (hb : m ≤ b.length) : pieceOf (b.take m ++ a) off n = pieceOf b off n := by
  unfold pieceOf
  rw [List.drop_append_of_le_length (by rw [List.length_take]; omega), List.take_append_of_le_length (by rw [List.length_drop, List.length_take]; omega), List.drop_take, List.take_take, Nat.min_eq_left (by omega)]
theorem piece_right {a b : List UInt8} {m off n : Nat} (h : m ≤ off) (hb : m ≤ b.length) : pieceOf (b.take m ++ a.drop m) off n = pieceOf a off n := by
  unfold pieceOf
  rw [List.drop_append, List.drop_eq_nil_of_le (by rw [List.length_take]; omega), List.nil_append, List.drop_drop]
  congr 2
  rw [List.length_take]; omega
/-- If T is a seal, its words agree. -/
theorem okS_words {s : List UInt8} (h : okS s = true) : pieceOf s 0 8 = pieceOf s 504 8 ∧ pieceOf s 8 8 = pieceOf s 496 8 := by
  obtain ⟨_, h2⟩ := okS_iff.1 h
  rw [← h2]
  unfold sealB
  rw [seal_front, seal_last, seal_no, seal_back]
  exact ⟨rfl, rfl⟩
theorem epoch_of {s : List UInt8} {at_ e : Nat} (hs : s.length = 512) (h : pieceOf s at_ 8 = leB e 8) (he : e ≤ 281474976710656) : epochZ s at_ = e := by
  unfold epochZ
  rw [if_pos hs, wordZ_leB h he, if_neg (by omega)]
/-- P3.5: a part over another epoch. -/
theorem torn_not {W : List UInt8} {x : SV} {k : Int} (hW : W.length = 512) (ha : epochZ W 0 ≠ topZ (sealB x)) (hb : epochZ W 504 ≠ topZ (sealB x)) (hk : k ≠ 0) (h1 : -64 < k) (h2 : k < 64) : okS (tearB W (sealB x) k) = false := by
  rw [top_sealB] at ha hb
  have hS := sealB_len x
  have he := nearN_le x.ep 281474976710656
  rw [Bool.eq_false_iff]
  intro h
  have hw := (okS_words h).1
  unfold tearB at hw
  rcases (show 0 < k ∨ k < 0 by omega) with h3 | h3
  · rw [if_pos h3, piece_left (by omega) (by omega), piece_right (by omega) (by omega)] at hw
    exact hb (epoch_of hW (by rw [← hw]; exact seal_front _ _ _ _) he)
  · rw [if_neg (by omega), if_pos h3, piece_left (by omega) (by omega), piece_right (by omega) (by omega)] at hw
    exact ha (epoch_of hW (by rw [hw]; exact seal_last _ _ _ _) he)
theorem tear_whole {a b : List UInt8} {k : Int} (ha : a.length = 512) (hb : b.length = 512) (h : k < -63 ∨ 63 < k) : tearB a b k = b := by
  unfold tearB
  rcases h with h | h
  · rw [if_neg (by omega), if_pos (by omega), show min (-k).toNat 64 = 64 by omega]; simp
  · rw [if_pos (by omega), show min k.toNat 64 = 64 by omega, List.take_of_length_le (by omega), List.drop_eq_nil_of_le (by omega), List.append_nil]
theorem leB_inj8 {m n : Nat} (hm : m ≤ 281474976710656) (hn : n ≤ 281474976710656) (h : leB m 8 = leB n 8) : m = n := by
  have := congrArg getN h
  rw [getN_leB, getN_leB, Nat.mod_eq_of_lt (by omega), Nat.mod_eq_of_lt (by omega)] at this
  exact this
theorem take_piece8 {s : List UInt8} : s.take 8 = pieceOf s 0 8 := by unfold pieceOf; rw [List.drop_zero]
theorem drop_piece8 {s : List UInt8} (h : s.length = 512) : s.drop 504 = pieceOf s 504 8 := by
  unfold pieceOf; rw [List.take_of_length_le (by rw [List.length_drop]; omega)]
/-- P3.5: a part over one of the same epoch. -/
theorem turn_not {x y : SV} {k : Int} (he : nearN x.ep 281474976710656 = nearN y.ep 281474976710656) (hn : nearN x.no 281474976710656 ≠ nearN y.no 281474976710656) (h : okS (tearB (sealB x) (sealB y) k) = true) :
    tearB (sealB x) (sealB y) k = sealB x ∨ tearB (sealB x) (sealB y) k = sealB y := by
  have hx := sealB_len x
  have hy := sealB_len y
  have f1 : (sealB x).take 8 = (sealB y).take 8 := by
    rw [take_piece8, take_piece8]; unfold sealB; rw [seal_front, seal_front, he]
  have f2 : (sealB x).drop 504 = (sealB y).drop 504 := by
    rw [drop_piece8 hx, drop_piece8 hy]; unfold sealB; rw [seal_last, seal_last, he]
  have a1 : pieceOf (sealB x) 8 8 = leB (nearN x.no 281474976710656) 8 := seal_no _ _ _ _
  have a2 : pieceOf (sealB x) 496 8 = leB (nearN x.no 281474976710656) 8 := seal_back _ _ _ _
  have b1 : pieceOf (sealB y) 8 8 = leB (nearN y.no 281474976710656) 8 := seal_no _ _ _ _
  have b2 : pieceOf (sealB y) 496 8 = leB (nearN y.no 281474976710656) 8 := seal_back _ _ _ _
  have hw := (okS_words h).2
  have L := nearN_le x.no 281474976710656
  have M := nearN_le y.no 281474976710656
  unfold tearB at hw ⊢
  split
  · rename_i h3
    rw [if_pos h3] at hw
    generalize hm : min k.toNat 64 = m at *
    rcases (show m = 1 ∨ m = 63 ∨ m = 64 ∨ (2 ≤ m ∧ m ≤ 62) by omega) with rfl | rfl | rfl | h4
    · left; rw [← f1, List.take_append_drop]
    · right; rw [show 8 * 63 = 504 from rfl, f2, List.take_append_drop]
    · right; rw [List.take_of_length_le (by omega), List.drop_eq_nil_of_le (by omega), List.append_nil]
    · exfalso
      rw [piece_left (by omega) (by omega), piece_right (by omega) (by omega), b1, a2] at hw
      exact hn (leB_inj8 M L hw).symm
  · rename_i h3
    split
    · rename_i h4
      rw [if_neg h3, if_pos h4] at hw
      generalize hm : 64 - min (-k).toNat 64 = m at *
      rcases (show m = 0 ∨ m = 1 ∨ m = 63 ∨ (2 ≤ m ∧ m ≤ 62) by omega) with rfl | rfl | rfl | h5
      · right; simp
      · right; rw [show 8 * 1 = 8 from rfl, f1, List.take_append_drop]
      · left; rw [show 8 * 63 = 504 from rfl, ← f2, List.take_append_drop]
      · exfalso
        rw [piece_left (by omega) (by omega), piece_right (by omega) (by omega), a1, b2] at hw
        exact hn (leB_inj8 L M hw)
    · left; rfl
end Go.Proofs.Ytfjgbnnjfapcmaa

/- Contract of vivariumref38.Bytes. -/
import Derived.Test.YtpedkcmcbejdiaaImgA
namespace Go.Proofs.Ytpedkcmcbejdiaa
open Go.RowKit
set_option maxRecDepth 100000
set_option linter.unusedVariables false
set_option linter.unusedSimpArgs false

theorem secs_getD {b : List UInt8} {k : Nat} (h : k < b.length / 512) : (secs b).getD k [] = (b.drop (512 * k)).take 512 := by
  rw [List.getD_eq_getElem?_getD, secs_at h, Nat.mul_comm]; rfl
theorem secs_take {b : List UInt8} : ∀ k, k ≤ b.length / 512 → ((secs b).take k).flatten = b.take (512 * k)
  | 0, _ => by simp
  | k + 1, h => by
    rw [flat_next (by rw [secs_len]; omega), secs_take k (by omega), secs_getD (by omega), Nat.mul_succ, List.take_add]
theorem getD_drop {R : List (List UInt8)} (i j : Nat) : (R.drop i).getD j [] = R.getD (i + j) [] := by
  rw [List.getD_eq_getElem?_getD, List.getD_eq_getElem?_getD, List.getElem?_drop]
/-- A run, as the reference comes to it. -/
theorem run_of {R : List (List UInt8)} {i k : Nat} (hik : i < k) (hk : k ≤ R.length) (h : ∀ j, i ≤ j → j < k → emp (R.getD j []) = emp (R.getD i [])) (hx : k < R.length → emp (R.getD k []) ≠ emp (R.getD i [])) : RunIs (R.drop i) (k - i) := by
  refine ⟨by omega, by rw [List.length_drop]; omega, fun j hj => ?_, fun hl => ?_⟩
  · rw [getD_drop, getD_drop]; exact h _ (by omega) (by omega)
  · rw [getD_drop, getD_drop, show i + (k - i) = k by omega]
    exact hx (by rw [List.length_drop] at hl; omega)
theorem secs_piece {b : List UInt8} {i k : Nat} (hik : i ≤ k) (hk : k ≤ b.length / 512) : (((secs b).drop i).take (k - i)).flatten = (b.drop (512 * i)).take (512 * (k - i)) := by
  have h1 : (secs b).take k = (secs b).take i ++ ((secs b).drop i).take (k - i) := by rw [← List.take_add, show i + (k - i) = k by omega]
  have h2 := congrArg List.flatten h1
  rw [List.flatten_append, secs_take k hk, secs_take i (by omega)] at h2
  have h3 : b.take (512 * k) = b.take (512 * i) ++ (b.drop (512 * i)).take (512 * (k - i)) := by rw [← List.take_add, show 512 * i + 512 * (k - i) = 512 * k by omega]
  rw [h3] at h2
  exact (List.append_cancel_left h2).symm
set_option maxHeartbeats 8000000 in
theorem rbytes38_any (b : List UInt8) (v : Value) (F : Nat → Prop) (w : World) (hv : By w F v b) (hn : b.length / 512 ≤ 4096) :
    Calls Try.prog 18 #[v] w (ObPost w (putB (secs b))) := by
  have hB : b.length ≤ 1099511627776 := by omega
  have HV := Lib.hid hv
  have h5 := secs_512 b
  have SL := secs_len b
  have hZL : (putB (secs b)).length ≤ 4194304 := by
    have := enc_len _ (R := secs b) rfl h5
    unfold putB; rw [List.length_append, leB_len]; omega
  obtain ⟨A, c, rfl, h1, h2, -, -⟩ := id hv
  unfold maxLen at h2
  have Z0 := Lib.hid (show leB (secs b).length 2 ++ enc ((secs b).drop 0) = putB (secs b) by rw [List.drop_zero]; rfl)
  have RUN := Lib.hid (fun i k => @run_of (secs b) i k)
  have ENC := Lib.hid (fun (R : List (List UInt8)) k => @enc_step R k)
  have RB := Lib.hid (fun (i k : Nat) => show runB ((secs b).drop i) (k - i) = if emp ((secs b).getD i []) = true then 0 :: leB (k - i) 2 else 1 :: leB (k - i) 2 ++ (((secs b).drop i).take (k - i)).flatten by unfold runB; rw [getD_drop, Nat.add_zero])
  have SP := Lib.hid (fun i k => @secs_piece b i k)
  have AT := Lib.hid (fun (i : Nat) (hi : i < b.length / 512) W (hk : Keep (fun _ => False) w W) => show Calls Try.prog 39 #[.slice A b.length c, .int .i64 (i : Int)] W fun e w' => ∃ A' c', e = .returned (.slice A' 512 c') ∧ By W F (.slice A' 512 c') ((secs b).getD i []) ∧ W = w' from by
    have := rat_any b _ F i W (hv.keep hk (fun _ _ _ h => h)) (by omega) (by omega)
    rwa [← secs_getD hi] at this)
  have EN := Lib.hid (show enc ((secs b).drop (b.length / 512)) = [] from enc_nil (by rw [List.length_drop, SL]; omega))
  have PC := Lib.hid (fun (i k : Nat) (hik : i < k) (hk : k ≤ b.length / 512) W (hW : Keep (fun _ => False) w W) => show ∃ bb oo, A = some ⟨bb, oo, none⟩ ∧ By W F (.slice (some ⟨bb, oo + 512 * i, none⟩) (512 * (k - i)) (c - 512 * i)) ((((secs b).drop i).take (k - i)).flatten) from by
    obtain ⟨bb, oo, rfl, -, -⟩ := hv.range (m := 1) (by decide) (by omega)
    refine ⟨bb, oo, rfl, ?_⟩
    rw [secs_piece (by omega) hk]
    exact (hv.piece (lo := 512 * i) (m := 512 * (k - i)) (A' := some ⟨bb, oo + 512 * i, none⟩) (c' := c - 512 * i) (by omega) (fun h a e => by cases e; simp [Addr.add]) (by omega) (by unfold maxLen; omega) (fun e => by cases e)).keep hW (fun _ _ _ h => h))
  generalize hR : secs b = R at *
  obtain ⟨Z, hZ⟩ : ∃ Z, putB R = Z := ⟨_, rfl⟩
  rw [hZ] at hZL Z0 ⊢
  obtain ⟨n, hN⟩ : ∃ n, b.length / 512 = n := ⟨_, rfl⟩
  rw [SL] at Z0
  rw [hN] at hn SL AT EN PC SP Z0
  generalize hL : b.length = L at *
  have hnL : 512 * n ≤ L := by omega
  have hq : (L : Int).tdiv 512 = (n : Int) := by rw [Int.tdiv_eq_ediv_of_nonneg (by omega)]; omega
  have qw : IntKind.i64.wrap (n : Int) = (n : Int) := IntWalk.i64_in _ (by omega)
  have HS := Lib.hid (And.intro SL h5)
  clear hv hL hR hZ hN SL h5
  go_enter Try.func18, Try.ntmps18
  go_wp2_with fail
  with_reducible refine (refNumO _ _ 2 n (by decide) rfl (by decide) (by omega) _).mono ?_
  rintro e w1 ⟨A1, n1, c1, rfl, ho, hb⟩
  have H1 := Lib.hid (And.intro ho hb)
  clear ho hb hq qw
  go_wp2
  go_loopw [4, 5] (fun y i wr => ∃ (i' : Nat) (A3 : Option Addr) (n3 c3 : Nat) (acc : List UInt8), i' ≤ n ∧ i = .int .i64 (i' : Int) ∧ y = .slice A3 n3 c3 ∧ Hid (Ob wr w.heap.size (.slice A3 n3 c3) acc ∧ Below w.heap.size w wr ∧ acc ++ enc (R.drop i') = Z)) (fun _ i _ => n - (intOf i).toNat)
  case atStart => exact ⟨0, A1, n1, c1, _, by omega, rfl, rfl, Lib.hid ⟨H1.out.1, H1.out.2, Z0.out⟩⟩
  case round =>
    obtain ⟨i, A3, n3, c3, acc, hi, rfl, rfl, hst⟩ := hrel
    by_cases hlt : i < n
    · have f1 : (i : Int) < (n : Int) := by omega
      have hacc : acc.length ≤ 4194304 := by have := congrArg List.length hst.out.2.2; rw [List.length_append] at this; omega
      obtain ⟨wo, hwo⟩ : ∃ wo, wo = wr := ⟨_, rfl⟩
      subst hwo
      go_wp2
      go_loopw [6] (fun kk wr' => ∃ k : Nat, i ≤ k ∧ k ≤ n ∧ kk = .int .i64 (k : Int) ∧ Hid (Keep (fun _ => False) wo wr' ∧ ∀ j, i ≤ j → j < k → emp (R.getD j []) = emp (R.getD i []))) (fun kk _ => n - (intOf kk).toNat)
      case atStart => exact ⟨i, Nat.le_refl _, hi, rfl, Lib.hid ⟨Keep.refl _ _, fun j h1 h2 => by omega⟩⟩
      case round =>
        obtain ⟨k, hik, hk, rfl, hin⟩ := hrel
        by_cases hkn : k < n
        · have g1 : (k : Int) < (n : Int) := by omega
          have KW := Lib.hid (show Keep (fun _ => False) w wr from (Keep.of_below' hst.out.2.1).trans hin.out.1 (fun _ _ h => h))
          obtain ⟨b1, hb1⟩ : ∃ b, b = emp (R.getD k []) := ⟨_, rfl⟩
          obtain ⟨b2, hb2⟩ : ∃ b, b = emp (R.getD i []) := ⟨_, rfl⟩
          have E1 := fun W A5 c5 (hy : By W F (.slice A5 512 c5) (R.getD k [])) => rempty_any _ _ F W hy
          have E2 := fun W A5 c5 (hy : By W F (.slice A5 512 c5) (R.getD i [])) => rempty_any _ _ F W hy
          rw [← hb1] at E1
          rw [← hb2] at E2
          have EE1 := Lib.hid E1
          have EE2 := Lib.hid E2
          have HB := Lib.hid (And.intro hb1 hb2)
          clear E1 E2 hb1 hb2
          go_wp2_with fail
          with_reducible refine (AT.out k hkn _ KW.out).mono ?_
          rintro e w2 ⟨A5, c5, rfl, hy5, rfl⟩
          have T5 := Lib.hid (EE1.out _ _ _ hy5)
          clear hy5
          go_wp2_with fail
          with_reducible refine T5.out.mono ?_
          rintro e w3 ⟨rfl, hk3⟩
          have KW3 := Lib.hid (And.intro (KW.out.trans hk3 (fun _ _ h => h)) hk3)
          clear hk3 T5
          go_wp2_with fail
          with_reducible refine (AT.out i hlt _ KW3.out.1).mono ?_
          rintro e w4 ⟨A6, c6, rfl, hy6, rfl⟩
          have T6 := Lib.hid (EE2.out _ _ _ hy6)
          clear hy6
          go_wp2_with fail
          with_reducible refine T6.out.mono ?_
          rintro e w5 ⟨rfl, hk5⟩
          have K5 := Lib.hid (show Keep (fun _ => False) wo w5 from hin.out.1.trans (KW3.out.2.trans hk5 (fun _ _ h => h)) (fun _ _ h => h))
          clear hk5 T6 KW3 EE1 EE2
          cases hbb : (b1 == b2) with
          | true =>
            go_wp2
            go_roundw
            case rel => exact ⟨k + 1, by omega, by omega, by go_num, Lib.hid ⟨K5.out, fun j h1 h2 => by
              by_cases e : j = k
              · rw [e, ← HB.out.1, ← HB.out.2]; simpa using hbb
              · exact hin.out.2 j h1 (by omega)⟩⟩
            case measure => simp [intOf]; omega
          | false =>
            have hik2 : i < k := by
              rcases Nat.lt_or_ge i k with h | h
              · exact h
              · obtain rfl : i = k := by omega
                have := HB.out.1.trans HB.out.2.symm
                rw [this] at hbb
                simp at hbb
            have RU := Lib.hid (RUN.out i k hik2 (by rw [HS.out.1]; exact hk) hin.out.2 (fun _ => by rw [← HB.out.1, ← HB.out.2]; simpa using hbb))
            have KW5 := Lib.hid (show Keep (fun _ => False) w w5 from (Keep.of_below' hst.out.2.1).trans K5.out (fun _ _ h => h))
            have OB5 := Lib.hid (And.intro (hst.out.1.same K5.out) (show Below w.heap.size w w5 from KW5.out.to_below'))
            have EZ := Lib.hid (show acc ++ (runB (R.drop i) (k - i) ++ enc (R.drop k)) = Z by rw [← hst.out.2.2, ENC.out _ _ RU.out, List.drop_drop, show i + (k - i) = k by omega])
            have RB' := Lib.hid (RB.out i k)
            have ekk : IntKind.i64.wrap ((k : Int) - (i : Int)) = ((k - i : Nat) : Int) := by rw [IntWalk.i64_in _ (by omega)]; omega
            obtain ⟨bz, hbz⟩ : ∃ bz, bz = emp (R.getD i []) := ⟨_, rfl⟩
            have EE := Lib.hid (show ∀ W A5 c5, By W F (.slice A5 512 c5) (R.getD i []) → Calls Try.prog 38 #[.slice A5 512 c5] W fun e w' => e = .returned (.bool bz) ∧ Keep (fun _ => False) W w' from fun W A5 c5 hy => by rw [hbz]; exact rempty_any _ _ F W hy)
            rw [← hbz] at RB'
            clear hbz
            go_wp2_with fail
            with_reducible refine (AT.out i hlt _ KW5.out).mono ?_
            rintro e w6 ⟨A6, c6, rfl, hy6, rfl⟩
            have T6 := Lib.hid (EE.out _ _ _ hy6)
            clear hy6
            go_wp2_with fail
            with_reducible refine T6.out.mono ?_
            rintro e w7 ⟨rfl, hk7⟩
            have OB7 := Lib.hid (And.intro (OB5.out.1.same hk7) (OB5.out.2.trans (hk7.to_below'.mono OB5.out.2.size)))
            clear hk7 T6 EE OB5 KW5
            cases bz with
            | true =>
              have hz7 : w.heap.size ≤ w7.heap.size := OB7.out.2.size
              go_wp2_with (refine wpList_app (by rfl) _ _ (by rfl) w.heap.size _ acc (by rfl) (OB7.out.1.same ((Keep.refl _ w7).alloc _)) _ _ [0] (by rfl) (By.byte w7 0 0 rfl) (by simp; omega) (by simp; omega) ?_)
              intro A8 n8 c8 w8 ho8 hk8
              have O8 := Lib.hid (And.intro (show Ob w8 w.heap.size (.slice A8 n8 c8) (acc ++ [0]) from ho8) (append_below OB7.out.2 OB7.out.1.choose_spec hk8))
              clear ho8 hk8
              go_wp2_with fail
              with_reducible refine (refNumO _ _ 2 (k - i) (by decide) rfl (by decide) (by omega) _).mono ?_
              rintro e w9 ⟨A9, n9, c9, rfl, ho9, hb9⟩
              have O9 := Lib.hid (And.intro (O8.out.1.same (Keep.of_below' hb9)) (And.intro ho9.by_ (O8.out.2.trans (hb9.mono O8.out.2.size))))
              clear ho9 hb9
              go_wp2_with (refine wpList_app (by rfl) _ _ (by rfl) w.heap.size _ (acc ++ [0]) (by rfl) O9.out.1 _ _ _ (by rfl) O9.out.2.1 (by simp [leB_len]; omega) O9.out.2.2.size ?_)
              intro Aa na ca wa hoa hka
              have H9 := Lib.hid (show Ob wa w.heap.size (.slice Aa na ca) (acc ++ [0] ++ leB (k - i) 2) ∧ Below w.heap.size w wa ∧ acc ++ [0] ++ leB (k - i) 2 ++ enc (R.drop k) = Z from ⟨by simpa using hoa, append_below0 O9.out.2.2 O9.out.1.choose_spec hka, by rw [← EZ.out, RB'.out]; simp⟩)
              clear hoa hka
              go_wp2
              go_roundw
              case rel => exact ⟨k, Aa, na, ca, _, by omega, rfl, rfl, H9⟩
              case measure => simp [intOf]; omega
            | false =>
              have hz7 : w.heap.size ≤ w7.heap.size := OB7.out.2.size
              go_wp2_with (refine wpList_app (by rfl) _ _ (by rfl) w.heap.size _ acc (by rfl) (OB7.out.1.same ((Keep.refl _ w7).alloc _)) _ _ [1] (by rfl) (By.byte w7 1 1 rfl) (by simp; omega) (by simp; omega) ?_)
              intro A8 n8 c8 w8 ho8 hk8
              have O8 := Lib.hid (And.intro (show Ob w8 w.heap.size (.slice A8 n8 c8) (acc ++ [1]) from ho8) (append_below OB7.out.2 OB7.out.1.choose_spec hk8))
              clear ho8 hk8
              go_wp2_with fail
              with_reducible refine (refNumO _ _ 2 (k - i) (by decide) rfl (by decide) (by omega) _).mono ?_
              rintro e w9 ⟨A9, n9, c9, rfl, ho9, hb9⟩
              have O9 := Lib.hid (And.intro (O8.out.1.same (Keep.of_below' hb9)) (And.intro ho9.by_ (O8.out.2.trans (hb9.mono O8.out.2.size))))
              clear ho9 hb9
              go_wp2_with (refine wpList_app (by rfl) _ _ (by rfl) w.heap.size _ (acc ++ [1]) (by rfl) O9.out.1 _ _ _ (by rfl) O9.out.2.1 (by simp [leB_len]; omega) O9.out.2.2.size ?_)
              intro Aa na ca wa hoa hka
              have Oa := Lib.hid (And.intro (show Ob wa w.heap.size (.slice Aa na ca) (acc ++ [1] ++ leB (k - i) 2) from by simpa using hoa) (append_below0 O9.out.2.2 O9.out.1.choose_spec hka))
              clear hoa hka
              obtain ⟨bb, oo, rfl, hpc⟩ := PC.out i k hik2 (by omega) wa (Keep.of_below' Oa.out.2)
              have PY := Lib.hid (fun A' c' n' (hA : A' = some ⟨bb, oo + 512 * i, none⟩) (hc : c' = c - 512 * i) (hn : n' = 512 * (k - i)) => show By wa F (.slice A' n' c') (((R.drop i).take (k - i)).flatten) from by rw [hA, hc, hn]; exact hpc)
              have PL := Lib.hid (show (((R.drop i).take (k - i)).flatten).length ≤ 2097152 from by
                obtain ⟨_, _, e, _⟩ := hpc
                injection e with _ e2 _
                rw [← e2]; omega)
              clear hpc
              obtain ⟨j, hj⟩ : ∃ j, j = 512 * i := ⟨_, rfl⟩
              obtain ⟨j2, hj2⟩ : ∃ j2, j2 = 512 * k := ⟨_, rfl⟩
              have ej : 512 * (i : Int) = (j : Int) := by omega
              have ew : IntKind.i64.wrap (j : Int) = (j : Int) := IntWalk.i64_in _ (by omega)
              have ej2 : 512 * (k : Int) = (j2 : Int) := by omega
              have ew2 : IntKind.i64.wrap (j2 : Int) = (j2 : Int) := IntWalk.i64_in _ (by omega)
              have q1 : j ≤ j2 := by omega
              have q2 : j2 ≤ L := by omega
              have q3 : j2 ≤ c := by omega
              have q4 : ¬ c = j := by omega
              have q5 : j ≤ c := by omega
              have HJ := Lib.hid (And.intro hj (show j2 - j = 512 * (k - i) by omega))
              clear hj hj2
              go_wp2_with (refine wpList_app (by rfl) _ _ (by rfl) w.heap.size _ (acc ++ [1] ++ leB (k - i) 2) (by rfl) Oa.out.1 _ _ _ (by rfl) (PY.out _ _ _ (by rw [← HJ.out.1]) (by rw [← HJ.out.1]) HJ.out.2) (by have := PL.out; rw [List.length_append, List.length_append, leB_len, List.length_singleton]; omega) Oa.out.2.size ?_)
              intro Ab nb cb wb hob hkb
              have H9 := Lib.hid (show Ob wb w.heap.size (.slice Ab nb cb) (acc ++ [1] ++ leB (k - i) 2 ++ ((R.drop i).take (k - i)).flatten) ∧ Below w.heap.size w wb ∧ acc ++ [1] ++ leB (k - i) 2 ++ ((R.drop i).take (k - i)).flatten ++ enc (R.drop k) = Z from ⟨by simpa using hob, append_below0 Oa.out.2 Oa.out.1.choose_spec hkb, by rw [← EZ.out, RB'.out]; simp⟩)
              clear hob hkb
              go_wp2
              go_roundw
              case rel => exact ⟨k, Ab, nb, cb, _, by omega, rfl, rfl, H9⟩
              case measure => simp [intOf]; omega
        · obtain rfl : k = n := by omega
          have g1 : ¬ (k : Int) < (k : Int) := by omega
          have hik2 : i < k := by omega
          have RU := Lib.hid (RUN.out i k hik2 (by rw [HS.out.1]; exact Nat.le_refl _) hin.out.2 (fun h => by rw [HS.out.1] at h; omega))
          have K5 := Lib.hid hin.out.1
          have KW5 := Lib.hid (show Keep (fun _ => False) w wr from (Keep.of_below' hst.out.2.1).trans K5.out (fun _ _ h => h))
          have OB5 := Lib.hid (And.intro (hst.out.1.same K5.out) (show Below w.heap.size w wr from KW5.out.to_below'))
          have EZ := Lib.hid (show acc ++ (runB (R.drop i) (k - i) ++ enc (R.drop k)) = Z by rw [← hst.out.2.2, ENC.out _ _ RU.out, List.drop_drop, show i + (k - i) = k by omega])
          have RB' := Lib.hid (RB.out i k)
          have ekk : IntKind.i64.wrap ((k : Int) - (i : Int)) = ((k - i : Nat) : Int) := by rw [IntWalk.i64_in _ (by omega)]; omega
          obtain ⟨bz, hbz⟩ : ∃ bz, bz = emp (R.getD i []) := ⟨_, rfl⟩
          have EE := Lib.hid (show ∀ W A5 c5, By W F (.slice A5 512 c5) (R.getD i []) → Calls Try.prog 38 #[.slice A5 512 c5] W fun e w' => e = .returned (.bool bz) ∧ Keep (fun _ => False) W w' from fun W A5 c5 hy => by rw [hbz]; exact rempty_any _ _ F W hy)
          rw [← hbz] at RB'
          clear hbz
          go_wp2_with fail
          with_reducible refine (AT.out i hlt _ KW5.out).mono ?_
          rintro e w6 ⟨A6, c6, rfl, hy6, rfl⟩
          have T6 := Lib.hid (EE.out _ _ _ hy6)
          clear hy6
          go_wp2_with fail
          with_reducible refine T6.out.mono ?_
          rintro e w7 ⟨rfl, hk7⟩
          have OB7 := Lib.hid (And.intro (OB5.out.1.same hk7) (OB5.out.2.trans (hk7.to_below'.mono OB5.out.2.size)))
          clear hk7 T6 EE OB5 KW5
          cases bz with
          | true =>
            have hz7 : w.heap.size ≤ w7.heap.size := OB7.out.2.size
            go_wp2_with (refine wpList_app (by rfl) _ _ (by rfl) w.heap.size _ acc (by rfl) (OB7.out.1.same ((Keep.refl _ w7).alloc _)) _ _ [0] (by rfl) (By.byte w7 0 0 rfl) (by simp; omega) (by simp; omega) ?_)
            intro A8 n8 c8 w8 ho8 hk8
            have O8 := Lib.hid (And.intro (show Ob w8 w.heap.size (.slice A8 n8 c8) (acc ++ [0]) from ho8) (append_below OB7.out.2 OB7.out.1.choose_spec hk8))
            clear ho8 hk8
            go_wp2_with fail
            with_reducible refine (refNumO _ _ 2 (k - i) (by decide) rfl (by decide) (by omega) _).mono ?_
            rintro e w9 ⟨A9, n9, c9, rfl, ho9, hb9⟩
            have O9 := Lib.hid (And.intro (O8.out.1.same (Keep.of_below' hb9)) (And.intro ho9.by_ (O8.out.2.trans (hb9.mono O8.out.2.size))))
            clear ho9 hb9
            go_wp2_with (refine wpList_app (by rfl) _ _ (by rfl) w.heap.size _ (acc ++ [0]) (by rfl) O9.out.1 _ _ _ (by rfl) O9.out.2.1 (by simp [leB_len]; omega) O9.out.2.2.size ?_)
            intro Aa na ca wa hoa hka
            have H9 := Lib.hid (show Ob wa w.heap.size (.slice Aa na ca) (acc ++ [0] ++ leB (k - i) 2) ∧ Below w.heap.size w wa ∧ acc ++ [0] ++ leB (k - i) 2 ++ enc (R.drop k) = Z from ⟨by simpa using hoa, append_below0 O9.out.2.2 O9.out.1.choose_spec hka, by rw [← EZ.out, RB'.out]; simp⟩)
            clear hoa hka
            go_wp2
            go_roundw
            case rel => exact ⟨k, Aa, na, ca, _, by omega, rfl, rfl, H9⟩
            case measure => simp [intOf]; omega
          | false =>
            have hz7 : w.heap.size ≤ w7.heap.size := OB7.out.2.size
            go_wp2_with (refine wpList_app (by rfl) _ _ (by rfl) w.heap.size _ acc (by rfl) (OB7.out.1.same ((Keep.refl _ w7).alloc _)) _ _ [1] (by rfl) (By.byte w7 1 1 rfl) (by simp; omega) (by simp; omega) ?_)
            intro A8 n8 c8 w8 ho8 hk8
            have O8 := Lib.hid (And.intro (show Ob w8 w.heap.size (.slice A8 n8 c8) (acc ++ [1]) from ho8) (append_below OB7.out.2 OB7.out.1.choose_spec hk8))
            clear ho8 hk8
            go_wp2_with fail
            with_reducible refine (refNumO _ _ 2 (k - i) (by decide) rfl (by decide) (by omega) _).mono ?_
            rintro e w9 ⟨A9, n9, c9, rfl, ho9, hb9⟩
            have O9 := Lib.hid (And.intro (O8.out.1.same (Keep.of_below' hb9)) (And.intro ho9.by_ (O8.out.2.trans (hb9.mono O8.out.2.size))))
            clear ho9 hb9
            go_wp2_with (refine wpList_app (by rfl) _ _ (by rfl) w.heap.size _ (acc ++ [1]) (by rfl) O9.out.1 _ _ _ (by rfl) O9.out.2.1 (by simp [leB_len]; omega) O9.out.2.2.size ?_)
            intro Aa na ca wa hoa hka
            have Oa := Lib.hid (And.intro (show Ob wa w.heap.size (.slice Aa na ca) (acc ++ [1] ++ leB (k - i) 2) from by simpa using hoa) (append_below0 O9.out.2.2 O9.out.1.choose_spec hka))
            clear hoa hka
            obtain ⟨bb, oo, rfl, hpc⟩ := PC.out i k hik2 (by omega) wa (Keep.of_below' Oa.out.2)
            have PY := Lib.hid (fun A' c' n' (hA : A' = some ⟨bb, oo + 512 * i, none⟩) (hc : c' = c - 512 * i) (hn : n' = 512 * (k - i)) => show By wa F (.slice A' n' c') (((R.drop i).take (k - i)).flatten) from by rw [hA, hc, hn]; exact hpc)
            have PL := Lib.hid (show (((R.drop i).take (k - i)).flatten).length ≤ 2097152 from by
              obtain ⟨_, _, e, _⟩ := hpc
              injection e with _ e2 _
              rw [← e2]; omega)
            clear hpc
            obtain ⟨j, hj⟩ : ∃ j, j = 512 * i := ⟨_, rfl⟩
            obtain ⟨j2, hj2⟩ : ∃ j2, j2 = 512 * k := ⟨_, rfl⟩
            have ej : 512 * (i : Int) = (j : Int) := by omega
            have ew : IntKind.i64.wrap (j : Int) = (j : Int) := IntWalk.i64_in _ (by omega)
            have ej2 : 512 * (k : Int) = (j2 : Int) := by omega
            have ew2 : IntKind.i64.wrap (j2 : Int) = (j2 : Int) := IntWalk.i64_in _ (by omega)
            have q1 : j ≤ j2 := by omega
            have q2 : j2 ≤ L := by omega
            have q3 : j2 ≤ c := by omega
            have q4 : ¬ c = j := by omega
            have q5 : j ≤ c := by omega
            have HJ := Lib.hid (And.intro hj (show j2 - j = 512 * (k - i) by omega))
            clear hj hj2
            go_wp2_with (refine wpList_app (by rfl) _ _ (by rfl) w.heap.size _ (acc ++ [1] ++ leB (k - i) 2) (by rfl) Oa.out.1 _ _ _ (by rfl) (PY.out _ _ _ (by rw [← HJ.out.1]) (by rw [← HJ.out.1]) HJ.out.2) (by have := PL.out; rw [List.length_append, List.length_append, leB_len, List.length_singleton]; omega) Oa.out.2.size ?_)
            intro Ab nb cb wb hob hkb
            have H9 := Lib.hid (show Ob wb w.heap.size (.slice Ab nb cb) (acc ++ [1] ++ leB (k - i) 2 ++ ((R.drop i).take (k - i)).flatten) ∧ Below w.heap.size w wb ∧ acc ++ [1] ++ leB (k - i) 2 ++ ((R.drop i).take (k - i)).flatten ++ enc (R.drop k) = Z from ⟨by simpa using hob, append_below0 Oa.out.2 Oa.out.1.choose_spec hkb, by rw [← EZ.out, RB'.out]; simp⟩)
            clear hob hkb
            go_wp2
            go_roundw
            case rel => exact ⟨k, Ab, nb, cb, _, by omega, rfl, rfl, H9⟩
            case measure => simp [intOf]; omega
    · obtain rfl : i = n := by omega
      have f1 : ¬ (i : Int) < (i : Int) := by omega
      obtain ⟨h1, h2, h3⟩ := hst.out
      rw [EN.out, List.append_nil] at h3
      subst h3
      go_wp2
      go_ret
      exact ⟨_, _, _, rfl, h1, h2⟩
end Go.Proofs.Ytpedkcmcbejdiaa

/- Contract of image.Put. -/
import Derived.Test.YtpedkcmcbejdiaaImgPl
namespace Go.Proofs.Ytpedkcmcbejdiaa
open Go.RowKit
set_option maxRecDepth 100000
set_option linter.unusedVariables false
set_option linter.unusedSimpArgs false

theorem Sx.keep {w w' : World} {F S : Nat → Prop} {v : Value} {R : List (List UInt8)} (h : Sx w F v R) (hk : Keep S w w') (hF : ∀ b, b < w.heap.size → F b → ¬ S b) : Sx w' F v R := Sl.keep h hk hF
/-- The rest of a slice of sectors. -/
theorem Sx.drop {w : World} {F : Nat → Prop} {A A' : Option Addr} {n c k : Nat} {R : List (List UInt8)} (h : Sx w F (.slice A n c) R) (h5 : ∀ r ∈ R, r.length = 512) (hk : k ≤ n) (hA : ∀ b off, A = some ⟨b, off, none⟩ → k < n → A' = some ⟨b, off + k * 512, none⟩) (hn : A' = none → c - k = 0) : Sx w F (.slice A' (n - k) (c - k)) (R.drop k) := by
  obtain ⟨A1, c1, e, h1, h2, h3, hr⟩ := h
  injection e with e1 e2 e3
  subst e1 e2 e3
  have := hr.piece (size := 512) (lo := k) (hi := R.length) hk (Nat.le_refl _) hA
  refine ⟨A', c - k, by rw [List.length_drop], by rw [List.length_drop]; omega, by omega, hn, ?_⟩
  rw [List.length_drop]
  have e : arr (R.drop k) = ((arr R).drop (k * 512)).take ((R.length - k) * 512) := by
    rw [arr_drop h5, List.take_of_length_le]
    rw [arr_len (fun r hr => h5 r (List.mem_of_mem_drop hr)), List.length_drop]
    exact Nat.le_refl _
  rw [e]
  exact this
theorem row_mid {w : World} {F : Nat → Prop} {bb o : Nat} {r : List UInt8} (hl : r.length = 512) (hg : w.rangeAt bb o (bv r)) (hF : F bb) : By w F (.slice (some ⟨bb, o, none⟩) 512 512) r :=
  ⟨some ⟨bb, o, none⟩, 512, by rw [hl], by omega, by unfold maxLen; omega, (fun h => by cases h), ⟨by rw [bv_len, Nat.mul_one], fun _ => ⟨bb, o, rfl, hF, fun i u hu => hg i u hu⟩⟩⟩
theorem run_sliceAt_isec (W : World) (bb o : Nat) : (Instr.sliceAt 61 (.pointer (some ⟨bb, o, none⟩)) none none none).run Try.prog W = .ok (.slice (some ⟨bb, o, none⟩) 512 512) W := by
  obtain ⟨i0, hi0, hz0, hz1, hz2⟩ := info_parts info_byte
  simp [Instr.sliceAt, run_underlying under_isec, Instr.sureAddr, Instr.sliceBounds, sizeOf, typeInfo, hi0, Addr.add]
/-- le.Put, all of it its own. -/
theorem putOb (l : List UInt8) (v : Value) (F : Nat → Prop) (width z : Int) (n : Nat) (w : World) (hz : z = n) (hv : By w F v l) (hl : l.length ≤ 35184372088832) (hw : 1 ≤ width ∧ width ≤ 8) (hn : n < 18446744073709551616) :
    Calls Try.prog 33 #[v, .int .i64 width, .int .i64 z] w (ObPost w (l ++ leB n width.toNat)) := by
  subst hz
  have := put_any l v F width n w hv hl
  rw [wordN hn, show wideN width = width.toNat by unfold wideN; rw [if_neg (by omega), if_neg (by omega)]] at this
  refine this.mono fun e w' ⟨u, he, ho, hb⟩ => ?_
  obtain ⟨A, c, rfl, _⟩ := ho.form
  exact ⟨A, _, c, he, ⟨_, ho⟩, hb⟩
/-- Where image.Put stands: R is left, b the bytes so far. -/
def PutSt (w1 W : World) (w0 : Nat) (v u : Value) (R : List (List UInt8)) (b Z : List UInt8) : Prop :=
  Sx W (fun x => w0 ≤ x ∧ x < w1.heap.size) v R ∧ Ob W w1.heap.size u b ∧ Below w1.heap.size w1 W ∧ b ++ enc R = Z ∧ (∀ r ∈ R, r.length = 512)
set_option maxHeartbeats 4000000 in
theorem iput_any (d : Value) (R : List (List UInt8)) (F : Nat → Prop) (w : World) (h : Dk w F d R) (hd : d ≠ .pointer none) (hR : R.length ≤ 4096) :
    Calls Try.prog 16 #[d] w (ObPost w (putB R)) := by
  have SE := Lib.hid (sectors_any d R F w h hR)
  have h5 := Lib.hid h.1
  obtain ⟨p, rfl⟩ : ∃ p, d = .pointer (some p) := by
    obtain ⟨_, ⟨rfl, _⟩ | ⟨p, u, m, rfl, _⟩⟩ := h
    · exact absurd rfl hd
    · exact ⟨_, rfl⟩
  clear h hd
  have RN := Lib.hid (fun v (R : List (List UInt8)) F W => run_any v R F W)
  have hZL : (putB R).length ≤ 4194304 := by
    have := enc_len _ (R := R) rfl h5.out
    unfold putB; rw [List.length_append, leB_len]; omega
  have Z0 := Lib.hid (show leB R.length 2 ++ enc R = putB R from rfl)
  obtain ⟨Z, hZ⟩ : ∃ Z, putB R = Z := ⟨_, rfl⟩
  rw [hZ] at hZL Z0 ⊢
  clear hZ
  obtain ⟨n, hN⟩ : ∃ n, R.length = n := ⟨_, rfl⟩
  have PN := Lib.hid (fun W => putOb [] (.slice none 0 0) (fun _ => True) 2 n n W rfl (By.nil _ _) (by simp) (by decide) (by omega))
  have HN := Lib.hid hN
  rw [hN] at SE Z0 hR
  clear hN
  go_enter Try.func16, Try.ntmps16
  go_wp2_with fail
  with_reducible refine SE.out.mono ?_
  rintro e w1 ⟨A1, c1, rfl, ho, hb⟩
  have H1 := Lib.hid (And.intro ((ho.sl).mono (G := fun x => w.heap.size ≤ x ∧ x < w1.heap.size) (fun b hb h => ⟨h, hb⟩)) hb)
  clear ho hb
  go_wp2_with fail
  with_reducible refine (PN.out _).mono ?_
  rintro e w2 ⟨A2, n2, c2, rfl, ho, hb⟩
  have H2 := Lib.hid (show PutSt w1 w2 w.heap.size (.slice A1 n c1) (.slice A2 n2 c2) R (leB n 2) Z from ⟨by have := Sl.below H1.out.1 hb; unfold Sx; rw [HN.out]; exact this, ho, hb, Z0.out, h5.out⟩)
  clear ho hb
  go_wp2
  go_loopw [3, 4] (fun x y wr => ∃ (A c k : Nat) (R' : List (List UInt8)) (b : List UInt8) (A3 : Option Addr) (A4 : Option Addr) (n4 c4 : Nat), R'.length = k ∧ k ≤ 4096 ∧ x = .slice A3 k c ∧ y = .slice A4 n4 c4 ∧ Hid (PutSt w1 wr w.heap.size (.slice A3 k c) (.slice A4 n4 c4) R' b Z)) (fun x _ _ => lenV x)
  case atStart => exact ⟨0, c1, n, R, _, A1, A2, n2, c2, HN.out, hR, rfl, rfl, H2⟩
  case round =>
    obtain ⟨-, c, k, R', b, A3, A4, n4, c4, hk, hk4, rfl, rfl, hst⟩ := hrel
    rcases Nat.eq_zero_or_pos k with h0 | h0
    · subst h0
      go_wp2
      go_ret
      obtain ⟨-, h2, h3, h4, -⟩ := hst.out
      rw [enc_nil hk, List.append_nil] at h4
      subst h4
      exact ⟨_, _, _, rfl, h2.mono H1.out.2.size, H1.out.2.trans (h3.mono H1.out.2.size)⟩
    · have f1 : (0 : Int) < (k : Int) := by omega
      obtain ⟨hx, hob, hbel, hz, h5'⟩ := hst.out
      obtain ⟨bb, oo, rfl, -, hrg⟩ := hx.at_ h5' (by omega)
      have hc4 : k ≤ c ∧ c ≤ 9223372036854775807 := by
        obtain ⟨_, _, e, h1, h2, _⟩ := hx.form
        injection e with e1 e2 e3
        omega
      obtain ⟨hkc, hc7⟩ := hc4
      have hbl : b.length ≤ 4194304 := by have := congrArg List.length hz; rw [List.length_append] at this; omega
      have RN' := Lib.hid (RN.out _ R' _ wr hx h5' (by omega) (by omega))
      have HX0 := Lib.hid hx
      have HO0 := Lib.hid (And.intro hob hbel)
      have HZ := Lib.hid hz
      have RG0 := Lib.hid hrg
      clear hst hx hob hbel hz hrg
      go_wp2_with fail
      with_reducible refine RN'.out.mono ?_
      rintro e w3 ⟨q, rfl, hq, hk3⟩
      have hq1 := hq.1
      have hq2 : q ≤ k := by have := hq.2.1; omega
      have HQ := Lib.hid (enc_step hq)
      have HX3 := Lib.hid (HX0.out.keep hk3 (fun _ _ _ h => h))
      have HO3 := Lib.hid (And.intro (HO0.out.1.same hk3) (HO0.out.2.trans (hk3.to_below'.mono HO0.out.2.size)))
      have RG := Lib.hid (fun j (hj : j < k) => show w3.rangeAt bb (oo + j * 512) (bv (R'.getD j [])) from fun i u hu => hk3.cell (fun h => h) (RG0.out j (by omega) i u hu))
      clear hq hk3 HX0 HO0 RG0 RN'
      obtain ⟨X1, hX1⟩ : ∃ X, X = bv (R'.getD 0 []) := ⟨_, rfl⟩
      have hl0 := getD_512' h5' (k := 0) (by omega)
      have EQ := fun W' => show (Op.equalIn 10000 61 (.agg (bv (R'.getD 0 [])).toArray) (.agg (bv (zer 512)).toArray)).run Try.prog W' = .ok (emp (R'.getD 0 [])) W' from run_equal_bytes (P := Try.prog) W' 61 5 512 9998 under_isec Try.underlying5 size_byte (R'.getD 0 []) (zer 512) hl0 (zer_len 512)
      have RE := run_zero_isec
      have RB := Lib.hid (show runB R' q = if emp (R'.getD 0 []) = true then 0 :: leB q 2 else 1 :: leB q 2 ++ (R'.take q).flatten from rfl)
      have LD := Lib.hid (show w3.rangeAt bb oo X1 from fun i u hu => by have := RG.out 0 h0 i u (hX1 ▸ hu); rwa [Nat.zero_mul] at this)
      have LS := Lib.hid (show (Try.prog.info? 61).map (·.size) = some X1.length by rw [hX1, bv_len, hl0]; exact size_isec)
      rw [← hX1] at EQ
      generalize hZZ : (bv (zer 512)).toArray = ZZ at EQ RE
      generalize emp (R'.getD 0 []) = b0 at EQ RB
      clear hZZ hX1 hl0
      cases b0 with
      | true =>
        go_wp2_with (first | (refine wpList_load_mid (by rfl) _ _ (by rfl) bb oo (by rfl) X1 _ LD.out under_isec rfl LS.out ?_) | fail)
        clear EQ RE LD LS
        with_reducible refine (putOb _ _ _ 1 0 0 _ (by decide) HO3.out.1.by_ (by omega) (by decide) (by decide)).mono ?_
        rintro e w4 ⟨A5, n5, c5, rfl, ho5, hb5⟩
        have H5 := Lib.hid (And.intro ho5 hb5)
        clear ho5 hb5
        go_wp2_with fail
        with_reducible refine (putOb _ _ _ 2 q q _ rfl H5.out.1.by_ (by rw [List.length_append, leB_len]; omega) (by decide) (by omega)).mono ?_
        rintro e w6 ⟨A6, n6, c6, rfl, ho6, hb6⟩
        have HB6 := Lib.hid (show Below w3.heap.size w3 w6 from H5.out.2.trans (hb6.mono H5.out.2.size))
        have HO := Lib.hid (And.intro (show Ob w6 w1.heap.size (.slice A6 n6 c6) (b ++ leB 0 1 ++ leB q 2) from ho6.mono (Nat.le_trans HO3.out.2.size H5.out.2.size)) (show Below w1.heap.size w1 w6 from HO3.out.2.trans (HB6.out.mono HO3.out.2.size)))
        have HX := Lib.hid (Sx.keep HX3.out (Keep.of_below' HB6.out) (fun _ _ _ h => h))
        have ZE := Lib.hid (show b ++ leB 0 1 ++ leB q 2 ++ enc (R'.drop q) = Z by rw [← HZ.out, HQ.out, RB.out]; simp [leB])
        clear ho6 hb6 H5
        have j1 : q ≤ c := by omega
        have j2 : q ≤ k := by omega
        by_cases hc : c = q
        · obtain rfl : k = q := by omega
          subst hc
          go_wp2
          go_roundw
          case rel => exact ⟨0, 0, 0, _, _, some ⟨bb, oo, none⟩, _, _, _, (by rw [List.length_drop]; omega), by omega, rfl, rfl, Lib.hid ⟨by have := (HX.out).drop h5' (A' := some ⟨bb, oo, none⟩) j2 (fun _ _ _ h => by omega) (fun h => by cases h); rw [Nat.sub_self] at this; exact this, HO.out.1, HO.out.2, ZE.out, fun r hr => h5' r (List.mem_of_mem_drop hr)⟩⟩
          case measure => simp [lenV]; omega
        · have j3 : ¬ c = q := hc
          go_wp2
          go_roundw
          case rel => exact ⟨0, c - q, k - q, _, _, some ⟨bb, oo + q * 512, none⟩, _, _, _, (by rw [List.length_drop]; omega), by omega, rfl, rfl, Lib.hid ⟨(HX.out).drop h5' (A' := some ⟨bb, oo + q * 512, none⟩) j2 (fun _ _ h _ => by cases h; rfl) (fun h => by cases h), HO.out.1, HO.out.2, ZE.out, fun r hr => h5' r (List.mem_of_mem_drop hr)⟩⟩
          case measure => simp [lenV]; omega
      | false =>
        go_wp2_with (first | (refine wpList_load_mid (by rfl) _ _ (by rfl) bb oo (by rfl) X1 _ LD.out under_isec rfl LS.out ?_) | fail)
        clear EQ RE LD LS
        with_reducible refine (putOb _ _ _ 1 1 1 _ (by decide) HO3.out.1.by_ (by omega) (by decide) (by decide)).mono ?_
        rintro e w4 ⟨A5, n5, c5, rfl, ho5, hb5⟩
        have H5 := Lib.hid (And.intro ho5 hb5)
        clear ho5 hb5
        go_wp2_with fail
        with_reducible refine (putOb _ _ _ 2 q q _ rfl H5.out.1.by_ (by rw [List.length_append, leB_len]; omega) (by decide) (by omega)).mono ?_
        rintro e w6 ⟨A6, n6, c6, rfl, ho6, hb6⟩
        have HB6 := Lib.hid (show Below w3.heap.size w3 w6 from H5.out.2.trans (hb6.mono H5.out.2.size))
        have HO6 := Lib.hid (And.intro (show Ob w6 w1.heap.size (.slice A6 n6 c6) (b ++ leB 1 1 ++ leB q 2) from ho6.mono (Nat.le_trans HO3.out.2.size H5.out.2.size)) (show Below w1.heap.size w1 w6 from HO3.out.2.trans (HB6.out.mono HO3.out.2.size)))
        have HX6 := Lib.hid (Sx.keep HX3.out (Keep.of_below' HB6.out) (fun _ _ _ h => h))
        have ZE := Lib.hid (show b ++ leB 1 1 ++ leB q 2 ++ (R'.take q).flatten ++ enc (R'.drop q) = Z by rw [← HZ.out, HQ.out, RB.out]; simp [leB])
        clear ho6 hb6 H5
        have T0 := Lib.hid (show (R'.take 0).flatten = [] by simp)
        have TN := Lib.hid (fun j (hj : j < k) => flat_next (R := R') (k := j) (by omega))
        have SA := run_sliceAt_isec
        go_wp2
        go_loopw [4, 33] (fun y i wr => ∃ (j : Nat) (A4 : Option Addr) (n4 c4 : Nat), j ≤ q ∧ i = .int .i64 j ∧ y = .slice A4 n4 c4 ∧ Hid (Ob wr w1.heap.size (.slice A4 n4 c4) (b ++ leB 1 1 ++ leB q 2 ++ (R'.take j).flatten) ∧ Below w1.heap.size w1 wr ∧ Keep (fun x => w1.heap.size ≤ x) w6 wr)) (fun _ i _ => q - (intOf i).toNat)
        case atStart => exact ⟨0, A6, n6, c6, by omega, rfl, rfl, Lib.hid ⟨by rw [T0.out, List.append_nil]; exact HO6.out.1, HO6.out.2, Keep.refl _ _⟩⟩
        case round =>
          obtain ⟨j, A7, n7, c7, hj, rfl, rfl, hin⟩ := hrel
          have HX := Lib.hid (HX6.out.keep hin.out.2.2 (fun b _ h => by omega))
          by_cases hjq : j < q
          · have g1 : (j : Int) < (q : Int) := by omega
            have g2 : (j : Int) < (k : Int) := by omega
            have g3 : (0 : Int) ≤ (j : Int) := by omega
            have TJ := Lib.hid (TN.out j (by omega))
            have ROW := Lib.hid (show By wr (fun x => w.heap.size ≤ x ∧ x < w1.heap.size) (.slice (some ⟨bb, oo + j * 512, none⟩) 512 512) (R'.getD j []) from by
              obtain ⟨b9, o9, e9, hF, hg⟩ := HX.out.at_ h5' (by omega)
              injection e9 with e9
              injection e9 with e91 e92
              subst e91 e92
              exact row_mid (getD_512' h5' (by omega)) (hg j (by omega)) hF)
            have FLN := Lib.hid (show (b ++ leB 1 1 ++ leB q 2 ++ (R'.take j).flatten).length + (R'.getD j []).length ≤ 140737488355328 from by
              have h1 := flat_le R' j
              have h2 := flat_512 h5'
              have h3 := getD_512' h5' (k := j) (by omega)
              rw [List.length_append, List.length_append, List.length_append, leB_len, leB_len, h3]; omega)
            go_wp2_with (refine wpList_app (by rfl) _ _ (by rfl) w1.heap.size _ _ (by rfl) hin.out.1 _ _ _ (by rfl) ROW.out FLN.out hin.out.2.1.size ?_)
            intro A8 n8 c8 w8 ho8 hk8
            have ho9 : Ob w8 w1.heap.size (.slice A8 n8 c8) (b ++ leB 1 1 ++ leB q 2 ++ (R'.take (j + 1)).flatten) := by rw [TJ.out]; simpa using ho8
            have H8 := Lib.hid (And.intro ho9 (And.intro (append_below0 hin.out.2.1 hin.out.1.choose_spec hk8) (hin.out.2.2.trans (hin.out.1.keeps hk8) (fun x _ h => h))))
            clear ho8 ho9 hk8
            go_wp2
            go_roundw
            case rel => exact ⟨j + 1, A8, n8, c8, by omega, by go_num, rfl, H8⟩
            case measure => simp [intOf]; omega
          · obtain rfl : j = q := by omega
            have g1 : ¬ (j : Int) < (j : Int) := by omega
            have HO := Lib.hid (And.intro hin.out.1 hin.out.2.1)
            have j1 : j ≤ c := by omega
            have j2 : j ≤ k := by omega
            by_cases hc : c = j
            · obtain rfl : k = j := by omega
              subst hc
              go_wp2
              go_roundw
              case rel => exact ⟨0, 0, 0, _, _, some ⟨bb, oo, none⟩, _, _, _, (by rw [List.length_drop]; omega), by omega, rfl, rfl, Lib.hid ⟨by have := (HX.out).drop h5' (A' := some ⟨bb, oo, none⟩) j2 (fun _ _ _ h => by omega) (fun h => by cases h); rw [Nat.sub_self] at this; exact this, HO.out.1, HO.out.2, ZE.out, fun r hr => h5' r (List.mem_of_mem_drop hr)⟩⟩
              case measure => simp [lenV]; omega
            · have j3 : ¬ c = j := hc
              go_wp2
              go_roundw
              case rel => exact ⟨0, c - j, k - j, _, _, some ⟨bb, oo + j * 512, none⟩, _, _, _, (by rw [List.length_drop]; omega), by omega, rfl, rfl, Lib.hid ⟨(HX.out).drop h5' (A' := some ⟨bb, oo + j * 512, none⟩) j2 (fun _ _ h _ => by cases h; rfl) (fun h => by cases h), HO.out.1, HO.out.2, ZE.out, fun r hr => h5' r (List.mem_of_mem_drop hr)⟩⟩
              case measure => simp [lenV]; omega
end Go.Proofs.Ytpedkcmcbejdiaa

/- Contract of vivariumref18.Came. -/
import Derived.Test.YtfjgbnnjfapcmaaScan9
namespace Go.Proofs.Ytfjgbnnjfapcmaa
open Go.RowKit
set_option maxRecDepth 100000
set_option linter.unusedVariables false
set_option linter.unusedSimpArgs false

theorem drop_getD {l : List (List UInt8)} {i : Nat} (h : i < l.length) : l.drop i = l.getD i [] :: l.drop (i + 1) := by
  rw [List.drop_eq_getElem_cons h, List.getD_eq_getElem?_getD, List.getElem?_eq_getElem h]; rfl
/-- Where Came stands: all of the first i came through. -/
structure CmSt (c : Cf) (g : List (List UInt8)) (ep lsn sq : Int) (R : List (List UInt8)) (i : Nat) (z : Int) : Prop where
  came : cameN c g ep lsn sq R = i + cameN c g ep z (sq + (i : Nat)) (R.drop i)
  lo : lsn ≤ z
  rest : z + (secsF ep z (sq + (i : Nat)) (R.drop i)).length = lsn + (secsF ep lsn sq R).length
section
variable {c : Cf} {g : List (List UInt8)} {ep lsn sq z : Int} {R : List (List UInt8)} {i : Nat}
theorem CmSt.first (c : Cf) (g : List (List UInt8)) (ep lsn sq : Int) (R : List (List UInt8)) : CmSt c g ep lsn sq R 0 lsn := ⟨by simp, Int.le_refl _, by simp⟩
theorem CmSt.sec (h : CmSt c g ep lsn sq R i z) (hi : i < R.length) : z + (splitL (sq + (i : Nat)) (R.getD i [])).length ≤ lsn + (secsF ep lsn sq R).length := by
  have := h.rest
  rw [drop_getD hi, secsF, List.length_append, sealedF_len] at this
  omega
theorem CmSt.next (h : CmSt c g ep lsn sq R i z) (hi : i < R.length) (hc : cameAll c g ep z (sq + (i : Nat)) (R.getD i [])) : CmSt c g ep lsn sq R (i + 1) (z + (splitL (sq + (i : Nat)) (R.getD i [])).length) := by
  have e : sq + ((i + 1 : Nat) : Int) = sq + (i : Nat) + 1 := by omega
  refine ⟨?_, by have := h.lo; omega, ?_⟩
  · rw [h.came, drop_getD hi, cameN, if_pos hc, e]; omega
  · have := h.rest
    rw [drop_getD hi, secsF, List.length_append, sealedF_len] at this
    rw [e]; omega
theorem CmSt.stop (h : CmSt c g ep lsn sq R i z) (hi : i < R.length) (hc : ¬ cameAll c g ep z (sq + (i : Nat)) (R.getD i [])) : cameN c g ep lsn sq R = i := by
  rw [h.came, drop_getD hi, cameN, if_neg hc]; rfl
theorem CmSt.all (h : CmSt c g ep lsn sq R R.length z) : cameN c g ep lsn sq R = R.length := by
  rw [h.came, List.drop_length]; rfl
end
set_option maxHeartbeats 4000000 in
theorem rcame_any (c : Cf) (u : Value) (F : Nat → Prop) (l : List (List UInt8)) (v : Value) (G : Nat → Prop) (ep lsn sq : Int) (R : List (List UInt8)) (vR : Value) (GR : Nat → Prop) (w : World)
    (hu : CL w F u c.l) (hv : Bys w G v l) (hR : Bys w GR vR R) (hl : (l.length : Int) = c.log) (h2 : 2 ≤ c.log) (h0 : 0 ≤ lsn) (h1 : lsn + (secsF ep lsn sq R).length ≤ 1000000000000000) (s0 : 0 ≤ sq) (s1 : sq ≤ 1000000000000000)
    (hn : R.length ≤ 1000000) (hb : ∀ b ∈ R, b.length ≤ 1099511627776) :
    Calls Try.prog 27 #[confV c u, v, .int .i64 ep, .int .i64 lsn, .int .i64 sq, vR] w fun e w' => e = .returned (.int .i64 (cameN c l ep lsn sq R : Nat)) ∧ Below w.heap.size w w' := by
  have HV := Lib.hid hv
  have HR := Lib.hid hR
  have SE := Lib.hid (fun (z q : Int) (b : List UInt8) W x Fa (h : By W Fa x b) (hbl : b.length ≤ 1099511627776) (a : 0 ≤ z) (d : z ≤ 1000000000000000) => rsealed_any ep z q b x Fa W h hbl (by omega) d)
  have SM := Lib.hid (fun (a b : List UInt8) W x y Fa Fb (h1 : By W Fa x a) (h2 : By W Fb y b) => same_any a b x y Fa Fb W h1 h2)
  have BL := Lib.hid (show ∀ k, k < R.length → (R.getD k []).length ≤ 1099511627776 from fun k hk => by
    rw [List.getD_eq_getElem?_getD, List.getElem?_eq_getElem hk]; exact hb _ (List.getElem_mem _))
  have C0 := Lib.hid (CmSt.first c l ep lsn sq R)
  have CS := Lib.hid (fun i z => @CmSt.sec c l ep lsn sq z R i)
  have CN := Lib.hid (fun i z => @CmSt.next c l ep lsn sq z R i)
  have CX := Lib.hid (fun i z => @CmSt.stop c l ep lsn sq z R i)
  have CA := Lib.hid (fun z => @CmSt.all c l ep lsn sq z R)
  have TM := Lib.hid (fun (z : Int) (hz : 0 ≤ z) => tmod_plc (c := c) hz (by omega))
  have PLT := Lib.hid (fun (z : Int) => plc_lt (lsn := z) hl (by omega))
  have SLN := Lib.hid (fun z q b => sealedF_len ep z q b)
  have AT := Lib.hid (fun z => show sctAt c l z = l.getD (plc c z) [] from rfl)
  obtain ⟨A, cap, rfl, hlc, hcm, -⟩ := hv.form
  obtain ⟨AR, capR, rfl, hlR, hcR, -⟩ := hR.form
  obtain ⟨Au, cu, rfl, -⟩ := hu
  unfold maxLen at hcm hcR
  unfold confV at *
  rw [← hl] at h2 TM
  clear hv hR hb
  rw [← hl]
  clear hl
  obtain ⟨n, hn1⟩ : ∃ n, n = l.length := ⟨_, rfl⟩
  obtain ⟨m, hm⟩ : ∃ m, m = R.length := ⟨_, rfl⟩
  rw [← hn1] at hlc HV h2 PLT TM ⊢
  rw [← hm] at hlR HR hn BL CS CN CX CA ⊢
  clear hn1 hm
  generalize hcn : cameN c l ep lsn sq R = cn at *
  generalize (secsF ep lsn sq R).length = tot at *
  clear hcn
  go_enter Try.func27, Try.ntmps27
  go_upto_region 1 with fail
  refine wp_world (S := fun X => KSt w X (.int .i64 (n : Int)) (.int .i64 c.pages) (.int .i64 c.ents) (.int .i64 c.gens) (.slice Au c.l.length cu)) (KSt.mk_ w _ _ _ _ _) ?_
  intro X hX
  have HX := Lib.hid hX
  clear hX
  go_wp2
  go_loopw [3, 13] (fun ls i wr => ∃ (k : Nat) (z : Int), k ≤ m ∧ i = .int .i64 k ∧ ls = .int .i64 z ∧ Hid (KSt w wr (.int .i64 (n : Int)) (.int .i64 c.pages) (.int .i64 c.ents) (.int .i64 c.gens) (.slice Au c.l.length cu) ∧ CmSt c l ep lsn sq R k z)) (fun _ i _ => m - (intOf i).toNat)
  case atStart => exact ⟨0, lsn, by omega, rfl, rfl, Lib.hid ⟨HX.out, C0.out⟩⟩
  case round =>
    obtain ⟨k, z, hk, rfl, rfl, hst⟩ := hrel
    obtain ⟨wo, rfl⟩ : ∃ wo : World, wo = wr := ⟨_, rfl⟩
    have hz0 := hst.out.2.lo
    by_cases hlt : k < m
    · have f1 : (k : Int) < (m : Int) := by omega
      have f2 : (0 : Int) ≤ (k : Int) := by omega
      have e1 : IntKind.i64.wrap (sq + (k : Int)) = sq + (k : Int) := IntWalk.i64_in _ (by omega)
      have hsec := CS.out k z hst.out.2 hlt
      obtain ⟨b1, o1, A1, d1, rfl, x1, y1⟩ := (HR.out.keep hst.out.1.keep (fun _ _ _ h => h)).at_ k hlt
      have SEK := Lib.hid (SE.out z (sq + (k : Int)) (R.getD k []) _ _ _ y1 (BL.out k hlt) (by omega) (by omega))
      have CNK := Lib.hid (CN.out k z hst.out.2 hlt)
      have CXK := Lib.hid (CX.out k z hst.out.2 hlt)
      have SLK := Lib.hid (SLN.out z (sq + (k : Int)) (R.getD k []))
      unfold cameAll at CNK CXK
      rw [SLK.out] at CNK CXK
      clear y1
      generalize sealedF ep z (sq + (k : Int)) (R.getD k []) = L at *
      generalize (splitL (sq + (k : Int)) (R.getD k [])).length = m2 at *
      generalize (R.getD k []).length = bl at *
      go_wp2_with fail
      with_reducible refine SEK.out.mono ?_
      rintro e w3 ⟨u3, rfl, hl3, hb3⟩
      obtain ⟨A3, d3, rfl⟩ := hl3.form
      rw [SLK.out] at hl3 ⊢
      have H3 := Lib.hid (And.intro (hst.out.1.below hb3) hl3)
      clear hl3 hb3 SEK
      go_wp2
      go_loopw [15] (fun j wr => ∃ q : Nat, q ≤ m2 ∧ j = .int .i64 q ∧ Hid (KSt w wr (.int .i64 (n : Int)) (.int .i64 c.pages) (.int .i64 c.ents) (.int .i64 c.gens) (.slice Au c.l.length cu) ∧ ListSt wo.heap.size wr (.slice A3 m2 d3) L ∧ ∀ x : Nat, x < q → sctAt c l (z + (x : Nat)) = L.getD x [])) (fun j _ => m2 - (intOf j).toNat)
      case atStart => exact ⟨0, by omega, rfl, Lib.hid ⟨H3.out.1, H3.out.2, fun x hx => absurd hx (by omega)⟩⟩
      case round =>
        obtain ⟨q, hq, rfl, hs2⟩ := hrel
        by_cases hlt2 : q < m2
        · have f3 : (q : Int) < (m2 : Int) := by omega
          have f4 : (0 : Int) ≤ (q : Int) := by omega
          have e2 : IntKind.i64.wrap (z + (q : Int)) = z + (q : Int) := IntWalk.i64_in _ (by omega)
          have TMK := TM.out (z + (q : Int)) (by omega)
          have hpl := PLT.out (z + (q : Int))
          have ATK := Lib.hid (AT.out (z + (q : Int)))
          generalize plc c (z + (q : Int)) = p at *
          obtain ⟨b2, o2, A4, d4, rfl, x2, y2⟩ := (HV.out.keep hs2.out.1.keep (fun _ _ _ h => h)).at_ p hpl
          obtain ⟨b3, o3, A5, d5, rfl, x3, y3⟩ := hs2.out.2.1.at_ hlt2
          obtain ⟨c0, c1, c2, c3, c4, cf⟩ := cells5 hs2.out.1.1
          have SMK := Lib.hid (fun W (hk : Keep (fun _ => False) wr W) => SM.out (l.getD p []) (L.getD q []) W _ _ _ _ (By.keep y2 hk (fun _ _ _ h => h)) (By.keep y3 hk (fun _ _ _ h => h)))
          have p1 : (p : Int) < (n : Int) := by omega
          have p2 : (0 : Int) ≤ (p : Int) := by omega
          have n0 : ¬ (n : Int) = 0 := by omega
          have n01 : ¬ n = 0 := by omega
          have n02 : ¬ (n : Int) = -1 := by omega
          have e3 : IntKind.i64.wrap (p : Int) = (p : Int) := IntWalk.i64_in _ (by omega)
          have CE := Lib.hid (show ∀ W', Keep (fun _ => False) wr W' → W'.cell? ⟨b2, o2 + p, none⟩ = some (.slice A4 (l.getD p []).length d4) ∧ W'.cell? ⟨b3, o3 + q, none⟩ = some (.slice A5 (L.getD q []).length d5) ∧ W'.cell? ⟨w.heap.size, 0, none⟩ = some (.int .i64 (n : Int)) ∧ Keep (fun _ => False) wr W' from fun W' hk => ⟨hk.cell (fun h => h) x2, hk.cell (fun h => h) x3, hk.cell (fun h => h) c0, hk⟩)
          clear y2 y3
          by_cases heq : l.getD p [] = L.getD q []
          · rw [decide_eq_true heq] at SMK
            have NX2 := Lib.hid (show ∀ x : Nat, x < q + 1 → sctAt c l (z + (x : Nat)) = L.getD x [] from fun x hx => by
              by_cases e : x = q
              · subst e; rw [ATK.out, heq]
              · exact hs2.out.2.2 x (by omega))
            clear heq
            generalize (l.getD p []).length = q1 at *
            generalize (L.getD q []).length = q2 at *
            go_upto_region 8 with fail
            go_region_held3 (fun W' => W'.cell? ⟨b2, o2 + p, none⟩ = some (.slice A4 q1 d4) ∧ W'.cell? ⟨b3, o3 + q, none⟩ = some (.slice A5 q2 d5) ∧ W'.cell? ⟨w.heap.size, 0, none⟩ = some (.int .i64 (n : Int)) ∧ Keep (fun _ => False) wr W') (exact CE.out _ (by exact (by repeat first | (with_reducible assumption) | (with_reducible exact Keep.refl _ _) | (with_reducible refine Keep.alloc ?_ _) | (with_reducible refine Keep.drew ?_) | (with_reducible refine Keep.drewN ?_ _) | (with_reducible refine Keep.setCell ?_ (.inl (by first | omega | (simp; done) | (simp; omega) | fail)) _)))) (first
              | (go_at_call 14; (with_reducible refine (SMK.out _ (by exact (by repeat first | (with_reducible assumption) | (with_reducible exact Keep.refl _ _) | (with_reducible refine Keep.alloc ?_ _) | (with_reducible refine Keep.drew ?_) | (with_reducible refine Keep.drewN ?_ _) | (with_reducible refine Keep.setCell ?_ (.inl (by first | omega | (simp; done) | (simp; omega) | fail)) _)))).mono ?_); rintro e w7 ⟨rfl, rfl⟩)
              | fail)
            go_wp2
            go_roundw
            case rel => exact ⟨q + 1, by omega, by go_num, Lib.hid ⟨hs2.out.1.below ((Below.refl _ wr).drew), hs2.out.2.1.below ((Below.refl _ wr).drew), NX2.out⟩⟩
            case measure => simp [intOf]; omega
          · rw [decide_eq_false heq] at SMK
            have CNX := Lib.hid (CXK.out (fun h => heq (by have := h q hlt2; rw [ATK.out] at this; exact this)))
            clear heq
            generalize (l.getD p []).length = q1 at *
            generalize (L.getD q []).length = q2 at *
            go_upto_region 8 with fail
            go_region_held3 (fun W' => W'.cell? ⟨b2, o2 + p, none⟩ = some (.slice A4 q1 d4) ∧ W'.cell? ⟨b3, o3 + q, none⟩ = some (.slice A5 q2 d5) ∧ W'.cell? ⟨w.heap.size, 0, none⟩ = some (.int .i64 (n : Int)) ∧ Keep (fun _ => False) wr W') (exact CE.out _ (by exact (by repeat first | (with_reducible assumption) | (with_reducible exact Keep.refl _ _) | (with_reducible refine Keep.alloc ?_ _) | (with_reducible refine Keep.drew ?_) | (with_reducible refine Keep.drewN ?_ _) | (with_reducible refine Keep.setCell ?_ (.inl (by first | omega | (simp; done) | (simp; omega) | fail)) _)))) (first
              | (go_at_call 14; (with_reducible refine (SMK.out _ (by exact (by repeat first | (with_reducible assumption) | (with_reducible exact Keep.refl _ _) | (with_reducible refine Keep.alloc ?_ _) | (with_reducible refine Keep.drew ?_) | (with_reducible refine Keep.drewN ?_ _) | (with_reducible refine Keep.setCell ?_ (.inl (by first | omega | (simp; done) | (simp; omega) | fail)) _)))).mono ?_); rintro e w7 ⟨rfl, rfl⟩)
              | fail)
            go_wp2
            go_ret
            exact ⟨ret_int (by rw [CNX.out]), hs2.out.1.2.drew⟩
        · obtain rfl : q = m2 := by omega
          have f3 : ¬ (q : Int) < (q : Int) := by omega
          have CNX := Lib.hid (CNK.out hs2.out.2.2)
          go_wp2
          go_roundw
          case rel => exact ⟨k + 1, _, by omega, by go_num, rfl, Lib.hid ⟨hs2.out.1, CNX.out⟩⟩
          case measure => simp [intOf]; omega
    · obtain rfl : k = m := by omega
      have f1 : ¬ (k : Int) < (k : Int) := by omega
      have CNX := Lib.hid (CA.out z hst.out.2)
      go_wp2
      go_ret
      exact ⟨ret_int (by rw [CNX.out]), hst.out.1.2⟩
end Go.Proofs.Ytfjgbnnjfapcmaa

/- The walk of vivariumlaw03.SealTorn: it returns true, old memory unchanged. -/
import Derived.Test.YtakchlaoimnnhaaSealGetsW
import Derived.Test.YtakchlaoimnnhaaSealArg
namespace Go.Proofs.Ytakchlaoimnnhaa
open Go.RowKit
set_option maxRecDepth 100000
set_option linter.unusedVariables false

theorem cutB_id {l : List UInt8} {n : Nat} (h : l.length = n) : cutB l n = l := by
  subst h; unfold cutB; simp
theorem tearB_zero (a b : List UInt8) : tearB a b 0 = a := by unfold tearB; rw [if_neg (by omega), if_neg (by omega)]
set_option maxHeartbeats 8000000 in
theorem sealTorn_walk (l : List UInt8) (v : Value) (x : SV) (u : Value) (k : Int) (F G : Nat → Prop) (w : World) (hv : By w F v l) (hu : By w G u x.bd) (hk : -9223372036854775808 ≤ k ∧ k ≤ 9223372036854775807) :
    Calls Try.prog 10 #[v, sealV x u, .int .i64 k] w fun e w' => e = .returned (.bool true) ∧ Below w.heap.size w w' := by
  unfold sealV
  have LIV := Lib.hid live03
  by_cases hbig : 600 < l.length ∨ (l.length ≤ 600 ∧ 600 < x.bd.length)
  · obtain ⟨A, c, rfl, -, hcm, -⟩ := hv
    obtain ⟨B, d, rfl, -, hdm, -⟩ := hu
    generalize l.length = n at *
    generalize x.bd.length = m at *
    rcases hbig with h | ⟨h1, h2⟩
    all_goals
      go_enter Try.func10, Try.ntmps10
      go_wp2_with (go_at_call 30; refine (LIV.out _).mono ?_; rintro e w4 ⟨rfl, hb4⟩)
      go_ret
      exact ⟨rfl, ((Below.refl _ w).alloc (Nat.le_refl _) _).trans (hb4.mono (by simp))⟩
  have hl : l.length ≤ 600 := by omega
  have hm : x.bd.length ≤ 600 := by omega
  clear hbig
  have hS := sealB_len x
  have hW := cutB_len l 512
  have PU := Lib.hid (fun W (h : Keep (fun _ => False) w W) => refPut_any x u G W (hu.same h))
  have T0 := Lib.hid (fun W (h : Keep (fun _ => False) w W) => rtear_any l [] v (.slice none 0 0) F (fun _ => True) 0 W (hv.same h) (By.nil _ _) (by decide))
  rw [tearB_zero] at T0
  have EP := Lib.hid (fun W a Fa (h : By W Fa a (cutB l 512)) => refEpochs_any _ a Fa W h)
  have TP := Lib.hid (fun W a Fa (h : By W Fa a (sealB x)) => refTop_any _ a Fa W h)
  have TE := Lib.hid (fun W a b Fa Fb (ha : By W Fa a (cutB l 512)) (hb : By W Fb b (sealB x)) => stear_any _ _ a b Fa Fb k W ha hb hk)
  rw [cutB_id hW, cutB_id hS] at TE
  have tl := tearB_len k hW hS
  have GT := Lib.hid (fun W a Fa (h : By W Fa a (tearB (cutB l 512) (sealB x) k)) => sget_any _ a Fa W h (by rw [tl]; decide))
  have GW := Lib.hid (fun W a Fa (h : By W Fa a (cutB l 512)) => refGetS_any _ a Fa W h)
  have GS := Lib.hid (fun W a Fa (h : By W Fa a (sealB x)) => refGetS_any _ a Fa W h)
  have LG := Lib.hid (show k < -63 ∨ 63 < k → gotS (tearB (cutB l 512) (sealB x) k) = gotS (sealB x) ∧ okS (tearB (cutB l 512) (sealB x) k) = true from fun h => by rw [tear_whole hW hS h]; exact ⟨rfl, okS_sealB x⟩)
  have LZ := Lib.hid (show k = 0 → gotS (tearB (cutB l 512) (sealB x) k) = gotS (cutB l 512) ∧ okS (tearB (cutB l 512) (sealB x) k) = okS (cutB l 512) from fun h => by rw [h, tearB_zero]; exact ⟨rfl, rfl⟩)
  have LN := Lib.hid (show epochZ (cutB l 512) 0 ≠ topZ (sealB x) → epochZ (cutB l 512) 504 ≠ topZ (sealB x) → k ≠ 0 → -64 < k → k < 64 → okS (tearB (cutB l 512) (sealB x) k) = false from fun h1 h2 h3 h4 h5 => torn_not hW h1 h2 h3 h4 h5)
  have RS := Lib.hid (fun W z a b Fa Fb (ha : By W Fa a z.bd) (hb : By W Fb b z.bd) => (rsameS_any z z a b Fa Fb W ha hb))
  have hvl := hv
  obtain ⟨A, c, rfl, -, hcm, -⟩ := hv
  have U0 := Lib.hid hu
  obtain ⟨B, d, rfl, -, hdm, -⟩ := hu
  generalize tearB (cutB l 512) (sealB x) k = T at *
  generalize sealB x = S at *
  generalize cutB l 512 = wb at *
  generalize epochZ wb 0 = ea at *
  generalize epochZ wb 504 = eb at *
  generalize topZ S = tp at *
  clear hS hW tl hvl
  generalize l.length = n at *
  generalize x.bd.length = m at *
  go_enter Try.func10, Try.ntmps10
  go_wp2_with fail
  refine (PU.out _ (by exact (by repeat first | exact Keep.refl _ _ | refine Keep.alloc ?_ _ | refine Keep.drew ?_ | refine Keep.drewN ?_ _))).mono ?_
  rintro e w1 ⟨A1, n1, c1, rfl, hy1, hb1⟩
  have H1 := Lib.hid (And.intro hy1 (K.to (show Keep (fun _ => False) w _ from (by repeat first | exact Keep.refl _ _ | refine Keep.alloc ?_ _ | refine Keep.drew ?_ | refine Keep.drewN ?_ _)) hb1))
  clear hy1 hb1
  go_wp2_with fail
  refine (T0.out _ H1.out.2).mono ?_
  rintro e w2 ⟨A2, n2, c2, rfl, hy2, hb2⟩
  have H2 := Lib.hid (show By w2 (fun b => w.heap.size ≤ b) (.slice A2 n2 c2) wb ∧ By w2 (fun b => w.heap.size ≤ b) (.slice A1 n1 c1) S ∧ Keep (fun _ => False) w w2 from ⟨hy2.mono (fun b _ h => by have := H1.out.2.size; omega), (H1.out.1.below hb2).mono (fun b _ h => by simp at h; omega), K.to H1.out.2 hb2⟩)
  clear hy2 hb2 H1
  go_wp2_with fail
  refine (EP.out _ _ _ H2.out.1).mono ?_
  rintro e w3 ⟨rfl, rfl⟩
  go_wp2_with fail
  refine (TP.out _ _ _ H2.out.2.1).mono ?_
  rintro e w3 ⟨rfl, rfl⟩
  by_cases hab : ea = tp ∨ eb = tp
  · by_cases ha : ea = tp
    · have e1 : (ea == tp) = true := by rw [beq_iff_eq]; exact ha
      clear ha hab LN
      go_wp2_with fail
      refine (LIV.out _).mono ?_
      rintro e w4 ⟨rfl, hb4⟩
      go_wp2
      go_ret
      exact ⟨rfl, H2.out.2.2.to_below'.trans (hb4.mono H2.out.2.2.size)⟩
    · have e1 : (ea == tp) = false := by rw [beq_eq_false_iff_ne]; exact ha
      have e2 : (eb == tp) = true := by rw [beq_iff_eq]; exact hab.resolve_left ha
      clear ha hab LN
      go_wp2_with fail
      refine (LIV.out _).mono ?_
      rintro e w4 ⟨rfl, hb4⟩
      go_wp2
      go_ret
      exact ⟨rfl, H2.out.2.2.to_below'.trans (hb4.mono H2.out.2.2.size)⟩
  have e1 : (ea == tp) = false := by rw [beq_eq_false_iff_ne]; exact fun h => hab (.inl h)
  have e2 : (eb == tp) = false := by rw [beq_eq_false_iff_ne]; exact fun h => hab (.inr h)
  have LM := Lib.hid (show k ≠ 0 → -64 < k → k < 64 → okS T = false from LN.out (fun h => hab (.inl h)) (fun h => hab (.inr h)))
  clear hab LN
  go_wp2_with fail
  refine (TE.out _ _ _ _ _ H2.out.1 H2.out.2.1).mono ?_
  rintro e w3 ⟨A3, n3, c3, rfl, hy3, hb3⟩
  have H3 := Lib.hid (And.intro hy3 (And.intro (H2.out.1.below hb3) (And.intro (H2.out.2.1.below hb3) (K.to H2.out.2.2 hb3))))
  clear hy3 hb3 H2
  go_wp2_with fail
  refine (GT.out _ _ _ H3.out.1).mono ?_
  rintro e w4 ⟨A4, n4, c4, rfl, hy4, hb4⟩
  have H4 := Lib.hid (And.intro (hy4.mono (G := fun b => w.heap.size ≤ b) (fun b _ h => by have := H3.out.2.2.2.size; omega)) (And.intro (H3.out.2.1.below hb4) (And.intro (H3.out.2.2.1.below hb4) (K.to H3.out.2.2.2 hb4))))
  clear hy4 hb4 H3
  go_wp2_with fail
  refine (GW.out _ _ _ (Sl.alloc H4.out.2.1 _)).mono ?_
  rintro e w5 ⟨A5, n5, c5, rfl, hy5, hb5⟩
  generalize hT : gotS T = xT at *
  generalize hwb : gotS wb = xw at *
  have H5 := Lib.hid (show Two w (w5.alloc (.cells #[.int .i64 xw.ep, .int .i64 xw.no, .int .i64 xw.kd, .slice A5 n5 c5] 50)) w4.heap.size w5.heap.size xT xw (.slice A4 n4 c4) (.slice A5 n5 c5) ∧ By (w5.alloc (.cells #[.int .i64 xw.ep, .int .i64 xw.no, .int .i64 xw.kd, .slice A5 n5 c5] 50)) (fun b => w.heap.size ≤ b) (.slice A1 n1 c1) S from
    have kk : Keep (fun _ => False) w4 (w5.alloc (.cells #[.int .i64 xw.ep, .int .i64 xw.no, .int .i64 xw.kd, .slice A5 n5 c5] 50)) := (K.to ((Keep.refl _ w4).alloc _) hb5).alloc _
    have hsz := H4.out.2.2.2.size
    ⟨⟨((Bx.new H4.out.1).same (Keep.of_below' hb5)).same ((Keep.refl _ w5).alloc _), Bx.new (hy5.mono (fun b _ h => by simp at h; omega)), H4.out.2.2.2.trans kk (fun _ _ h => h)⟩, H4.out.2.2.1.same kk⟩)
  have HT := Lib.hid hT
  have HWB := Lib.hid hwb
  clear hy5 hb5 hT hwb
  go_upto_region 11 with fail
  refine wp_world (S := fun W => Two w W w4.heap.size w5.heap.size xT xw (.slice A4 n4 c4) (.slice A5 n5 c5) ∧ By W (fun b => w.heap.size ≤ b) (.slice A1 n1 c1) S) H5.out ?_
  intro W hW
  have HW := Lib.hid hW
  clear hW H5 H4
  generalize w4.heap.size = p at *
  generalize w5.heap.size = q at *
  generalize okS T = okT at *
  generalize okS wb = okw at *
  rcases (show (k < -63 ∨ 63 < k) ∨ k = 0 ∨ (k ≠ 0 ∧ -64 < k ∧ k < 64) by omega) with hc | hc | ⟨hc1, hc2, hc3⟩
  · obtain ⟨g1, g2⟩ := LG.out hc
    have G1 := Lib.hid g1
    clear g1
    subst g2
    have HX := Lib.hid (show gotS S = xT from G1.out.symm)
    have RS1 := Lib.hid (fun W' a (ha : By W' (fun b => w.heap.size ≤ b) a xT.bd) b Fb (hb : By W' Fb b xT.bd) => RS.out W' xT a b _ Fb ha hb)
    rw [sameS_self] at RS1
    rw [HX.out] at GS
    clear LG LZ LM
    rcases hc with hc | hc
    all_goals
      go_wp2_with fail
      refine (GS.out _ _ _ HW.out.2).mono ?_
      rintro e w6 ⟨A6, n6, c6, rfl, hy6, hb6⟩
      have H6 := Lib.hid (show Two w (w6.alloc (.cells #[.int .i64 xT.ep, .int .i64 xT.no, .int .i64 xT.kd, .slice A6 n6 c6] 50)) p w6.heap.size xT xT (.slice A4 n4 c4) (.slice A6 n6 c6) from
        ⟨(HW.out.1.1.same (Keep.of_below' hb6)).same ((Keep.refl _ w6).alloc _), Bx.new (hy6.mono (fun b _ h => by have := HW.out.1.2.2.size; omega)), (K.to HW.out.1.2.2 hb6).alloc _⟩)
      clear hy6 hb6
      go_upto_region 13 with fail
      refine wp_world (S := fun W => Two w W p w6.heap.size xT xT (.slice A4 n4 c4) (.slice A6 n6 c6)) H6.out ?_
      intro W7 hW7
      have H7 := Lib.hid hW7
      clear hW7 H6 HW
      generalize w6.heap.size = r at *
      obtain ⟨x0, x1, x2, x3⟩ := H7.out.1.cells
      obtain ⟨y0, y1, y2, y3⟩ := H7.out.2.1.cells
      go_wp2_with fail
      refine (RS1.out _ _ H7.out.1.2 _ _ H7.out.2.1.2).mono ?_
      rintro e w8 ⟨rfl, hb8⟩
      have K8 := Lib.hid (K.to H7.out.2.2 hb8)
      clear hb8
      go_wp2_with fail
      refine (LIV.out _).mono ?_
      rintro e w9 ⟨rfl, hb9⟩
      go_wp2
      go_ret
      exact ⟨rfl, K8.out.to_below'.trans (hb9.mono K8.out.size)⟩
  · subst hc
    obtain ⟨g1, g2⟩ := LZ.out rfl
    obtain rfl : xT = xw := g1
    subst g2
    have RS1 := Lib.hid (fun W' a (ha : By W' (fun b => w.heap.size ≤ b) a xT.bd) b (hb : By W' (fun b => w.heap.size ≤ b) b xT.bd) => RS.out W' xT a b _ _ ha hb)
    rw [sameS_self] at RS1
    have e3 : (okT == okT) = true := by simp
    clear LG LZ LM
    obtain ⟨x0, x1, x2, x3⟩ := HW.out.1.1.cells
    obtain ⟨y0, y1, y2, y3⟩ := HW.out.1.2.1.cells
    go_wp2_with fail
    refine (RS1.out _ _ HW.out.1.1.2 _ HW.out.1.2.1.2).mono ?_
    rintro e w8 ⟨rfl, hb8⟩
    have K8 := Lib.hid (K.to HW.out.1.2.2 hb8)
    clear hb8
    go_wp2_with fail
    refine (LIV.out _).mono ?_
    rintro e w9 ⟨rfl, hb9⟩
    go_wp2
    go_ret
    exact ⟨rfl, K8.out.to_below'.trans (hb9.mono K8.out.size)⟩
  · obtain rfl := LM.out hc1 hc2 hc3
    have e4 : (k == 0) = false := by rw [beq_eq_false_iff_ne]; exact hc1
    have f1 : ¬ 63 < k := by omega
    have f2 : ¬ k < -63 := by omega
    clear LG LZ LM hc1
    go_wp2_with fail
    refine (LIV.out _).mono ?_
    rintro e w9 ⟨rfl, hb9⟩
    go_wp2
    go_ret
    exact ⟨rfl, HW.out.1.2.2.to_below'.trans (hb9.mono HW.out.1.2.2.size)⟩
end Go.Proofs.Ytakchlaoimnnhaa

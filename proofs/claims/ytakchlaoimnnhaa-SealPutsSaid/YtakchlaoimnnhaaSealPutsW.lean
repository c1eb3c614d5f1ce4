/- The walk of vivariumlaw03.SealPuts: it returns true, old memory unchanged. -/
import Derived.Test.YtakchlaoimnnhaaSealGetsW
import Derived.Test.YtakchlaoimnnhaaSealArg
import Derived.Deep.DeepCutAuto
namespace Go.Proofs.Ytakchlaoimnnhaa
open Go.RowKit
set_option maxRecDepth 100000
set_option linter.unusedVariables false

/-- May a seal's numbers be? -/
def mayS (x : SV) : Prop := 0 ≤ x.ep ∧ x.ep ≤ 281474976710656 ∧ 0 ≤ x.no ∧ x.no ≤ 281474976710656 ∧ 0 ≤ x.kd ∧ x.kd ≤ 255 ∧ x.bd.length ≤ 472
instance (x : SV) : Decidable (mayS x) := by unfold mayS; exact inferInstance
theorem mayS_near {x : SV} (h : mayS x) : nearS x = x := by
  obtain ⟨h1, h2, h3, h4, h5, h6, h7⟩ := h
  have f : ∀ (z : Int) (m : Nat), 0 ≤ z → z ≤ m → ((nearN z m : Nat) : Int) = z := fun z m a b => by unfold nearN; rw [if_neg (by omega), if_neg (by omega)]; omega
  cases x
  unfold nearS bodyOf
  simp only [SV.mk.injEq]
  exact ⟨f _ _ h1 h2, f _ _ h3 h4, f _ _ h5 h6, List.take_of_length_le h7⟩
/-- Three boxes. -/
def Three (w W : World) (F : Nat → Prop) (o p q : Nat) (a x y : SV) (s u v : Value) : Prop := Bx W F o a s ∧ Two w W p q x y u v
theorem Three.same {w W W' : World} {F : Nat → Prop} {o p q : Nat} {a x y : SV} {s u v : Value} (h : Three w W F o p q a x y s u v) (hk : Keep (fun _ => False) W W') : Three w W' F o p q a x y s u v := ⟨h.1.same hk, h.2.same hk⟩
set_option maxHeartbeats 8000000 in
theorem sealPuts_walk (a : SV) (u : Value) (F : Nat → Prop) (w : World) (hu : By w F u a.bd) :
    Calls Try.prog 7 #[sealV a u] w fun e w' => e = .returned (.bool true) ∧ Below w.heap.size w w' := by
  unfold sealV
  have LIV := Lib.hid live03
  by_cases hbig : 600 < a.bd.length
  · obtain ⟨A, c, rfl, -, hcm, -⟩ := hu
    generalize a.bd.length = n at *
    go_enter Try.func7, Try.ntmps7
    go_wp2_with (go_at_call 30; refine (LIV.out _).mono ?_; rintro e w4 ⟨rfl, hb4⟩)
    go_ret
    exact ⟨rfl, ((Below.refl _ w).alloc (Nat.le_refl _) _).trans (hb4.mono (by simp))⟩
  have hs : a.bd.length ≤ 600 := by omega
  clear hbig
  obtain ⟨L, hL⟩ : ∃ L, L = sealB a := ⟨_, rfl⟩
  obtain ⟨x, hx⟩ : ∃ x, x = nearS a := ⟨_, rfl⟩
  have gx : gotS (sealB a) = nearS a ∧ okS (sealB a) = true := ⟨by unfold gotS; rw [okS_sealB, if_pos rfl, valOf_sealB], okS_sealB a⟩
  have tx : topZ (sealB a) = (nearS a).ep := top_sealB a
  have ll : (sealB a).length = 512 := sealB_len a
  have SP := Lib.hid (fun W Fa (h : By W Fa u a.bd) => sput_any a u Fa W h)
  have RP := Lib.hid (fun W Fa (h : By W Fa u a.bd) => refPut_any a u Fa W h)
  rw [← hL] at gx tx ll SP RP
  rw [← hx] at gx tx
  have SG := Lib.hid (fun W v Fa (h : By W Fa v L) => sget_any L v Fa W h (by rw [ll]; decide))
  have RG := Lib.hid (fun W v Fa (h : By W Fa v L) => refGetS_any L v Fa W h)
  rw [gx.1, gx.2] at SG RG
  have ST := Lib.hid (fun W v Fa (h : By W Fa v L) => stop_any L v Fa W h)
  rw [tx] at ST
  have SM := Lib.hid (fun W b c Fb Fc (h1 : By W Fb b L) (h2 : By W Fc c L) => same_any L L b c Fb Fc W h1 h2)
  rw [decide_eq_true rfl] at SM
  have RS := Lib.hid (fun W b c Fa Fb (ha : By W Fa b x.bd) (hb : By W Fb c x.bd) => rsameS_any x x b c Fa Fb W ha hb)
  rw [sameS_self] at RS
  have MY := Lib.hid (show mayS a → ∀ W b c Fa Fb, By W Fa b a.bd → By W Fb c x.bd → Calls Try.prog 35 #[.agg #[.int .i64 a.ep, .int .i64 a.no, .int .i64 a.kd, b], .agg #[.int .i64 x.ep, .int .i64 x.no, .int .i64 x.kd, c]] W fun e w' => e = .returned (.bool true) ∧ Below W.heap.size W w' from fun h W b c Fa Fb ha hb => by
    have := rsameS_any a x b c Fa Fb W ha hb
    rw [hx, mayS_near h, sameS_self] at this
    rw [hx, mayS_near h]
    exact this)
  have U0 := Lib.hid hu
  obtain ⟨A, c, rfl, -, hcm, -⟩ := hu
  have MI := Lib.hid (show mayS a → 0 ≤ a.ep ∧ a.ep ≤ 281474976710656 ∧ 0 ≤ a.no ∧ a.no ≤ 281474976710656 ∧ 0 ≤ a.kd ∧ a.kd ≤ 255 ∧ (a.bd.length : Int) ≤ 472 from fun h => ⟨h.1, h.2.1, h.2.2.1, h.2.2.2.1, h.2.2.2.2.1, h.2.2.2.2.2.1, by have := h.2.2.2.2.2.2; omega⟩)
  have MM := Lib.hid (show 0 ≤ a.ep ∧ a.ep ≤ 281474976710656 ∧ 0 ≤ a.no ∧ a.no ≤ 281474976710656 ∧ 0 ≤ a.kd ∧ a.kd ≤ 255 ∧ a.bd.length ≤ 472 → mayS a from fun h => h)
  clear hL hx gx tx ll
  generalize a.bd.length = n at *
  go_enter Try.func7, Try.ntmps7
  go_upto_region 3 with fail
  refine wp_world (S := fun W => Bx W F w.heap.size a (.slice A n c) ∧ Keep (fun _ => False) w W) ⟨Bx.new U0.out, (Keep.refl _ w).alloc _⟩ ?_
  intro W hW
  have HW := Lib.hid hW
  clear hW U0
  generalize hp0 : w.heap.size = p0 at *
  obtain ⟨x0, x1, x2, x3⟩ := HW.out.1.cells
  go_wp2_with fail
  refine (SP.out _ _ HW.out.1.2).mono ?_
  rintro e w1 ⟨A1, n1, c1, rfl, hy1, hb1⟩
  have H1 := Lib.hid (And.intro (hy1.mono (G := fun b => p0 ≤ b) (fun b _ h => by have := HW.out.2.size; omega)) (And.intro (HW.out.1.same (Keep.of_below' hb1)) (K.to HW.out.2 hb1)))
  clear hy1 hb1 HW x0 x1 x2 x3
  obtain ⟨x0, x1, x2, x3⟩ := H1.out.2.1.cells
  go_wp2_with fail
  refine (RP.out _ _ H1.out.2.1.2).mono ?_
  rintro e w2 ⟨A2, n2, c2, rfl, hy2, hb2⟩
  have H2 := Lib.hid (And.intro hy2 (And.intro (H1.out.1.below hb2) (And.intro (H1.out.2.1.same (Keep.of_below' hb2)) (K.to H1.out.2.2 hb2))))
  clear hy2 hb2 H1 x0 x1 x2 x3
  go_wp2_with fail
  refine (SM.out _ _ _ _ _ H2.out.2.1 H2.out.1).mono ?_
  rintro e w3 ⟨rfl, rfl⟩
  go_wp2_with fail
  refine (SG.out _ _ _ H2.out.2.1).mono ?_
  rintro e w3 ⟨A3, n3, c3, rfl, hy3, hb3⟩
  have H3 := Lib.hid (And.intro hy3 (And.intro (H2.out.2.1.below hb3) (And.intro (H2.out.2.2.1.same (Keep.of_below' hb3)) (K.to H2.out.2.2.2 hb3))))
  clear hy3 hb3
  go_wp2_with fail
  refine (RG.out _ _ _ (Sl.alloc H3.out.2.1 _)).mono ?_
  rintro e w4 ⟨A4, n4, c4, rfl, hy4, hb4⟩
  have H4 := Lib.hid (show Three w (w4.alloc (.cells #[.int .i64 x.ep, .int .i64 x.no, .int .i64 x.kd, .slice A4 n4 c4] 50)) F p0 w3.heap.size w4.heap.size a x x (.slice A n c) (.slice A3 n3 c3) (.slice A4 n4 c4) ∧ By (w4.alloc (.cells #[.int .i64 x.ep, .int .i64 x.no, .int .i64 x.kd, .slice A4 n4 c4] 50)) (fun b => p0 ≤ b) (.slice A1 n1 c1) L from
    have kk : Keep (fun _ => False) w3 (w4.alloc (.cells #[.int .i64 x.ep, .int .i64 x.no, .int .i64 x.kd, .slice A4 n4 c4] 50)) := (K.to ((Keep.refl _ w3).alloc _) hb4).alloc _
    have hsz := H2.out.2.2.2.size
    have hsz3 := H3.out.2.2.2.size
    ⟨⟨H3.out.2.2.1.same kk, (((Bx.new (H3.out.1.mono (G := fun b => w.heap.size ≤ b) (fun b _ h => by omega))).same (Keep.of_below' hb4)).same ((Keep.refl _ w4).alloc _)), Bx.new (hy4.mono (fun b _ h => by simp at h; omega)), (H3.out.2.2.2.trans kk (fun _ _ h => h))⟩, H3.out.2.1.same kk⟩)
  clear hy4 hb4
  go_upto_region 8 with fail
  refine wp_world (S := fun W => Three w W F p0 w3.heap.size w4.heap.size a x x (.slice A n c) (.slice A3 n3 c3) (.slice A4 n4 c4) ∧ By W (fun b => p0 ≤ b) (.slice A1 n1 c1) L) H4.out ?_
  intro W hW
  have HW := Lib.hid hW
  clear hW H4 H3 H2
  generalize w3.heap.size = p at *
  generalize w4.heap.size = q at *
  have CE := Lib.hid (show ∀ W', Keep (fun _ => False) W W' → (W'.cell? ⟨p, 0, none⟩ = some (.int .i64 x.ep) ∧ W'.cell? ⟨p, 1, none⟩ = some (.int .i64 x.no) ∧ W'.cell? ⟨p, 2, none⟩ = some (.int .i64 x.kd) ∧ W'.cell? ⟨p, 3, none⟩ = some (.slice A3 n3 c3)) ∧ (W'.cell? ⟨q, 0, none⟩ = some (.int .i64 x.ep) ∧ W'.cell? ⟨q, 1, none⟩ = some (.int .i64 x.no) ∧ W'.cell? ⟨q, 2, none⟩ = some (.int .i64 x.kd) ∧ W'.cell? ⟨q, 3, none⟩ = some (.slice A4 n4 c4)) ∧ Keep (fun _ => False) W W' from fun W' hk =>
    ⟨(HW.out.1.2.1.same hk).cells, (HW.out.1.2.2.1.same hk).cells, hk⟩)
  have RS1 := Lib.hid (fun W' (hk : Keep (fun _ => False) W W') => RS.out W' _ _ _ _ (HW.out.1.2.1.2.same hk) (HW.out.1.2.2.1.2.same hk))
  have ST1 := Lib.hid (fun W' (hk : Keep (fun _ => False) W W') => ST.out W' _ _ (HW.out.2.same hk))
  have ee : (x.ep != x.ep) = false := by simp
  go_cut [49] (fun s wx => s = .bool false ∧ Keep (fun _ => False) W wx)
  case first =>
    go_region_held3 (fun W' => (W'.cell? ⟨p, 0, none⟩ = some (.int .i64 x.ep) ∧ W'.cell? ⟨p, 1, none⟩ = some (.int .i64 x.no) ∧ W'.cell? ⟨p, 2, none⟩ = some (.int .i64 x.kd) ∧ W'.cell? ⟨p, 3, none⟩ = some (.slice A3 n3 c3)) ∧ (W'.cell? ⟨q, 0, none⟩ = some (.int .i64 x.ep) ∧ W'.cell? ⟨q, 1, none⟩ = some (.int .i64 x.no) ∧ W'.cell? ⟨q, 2, none⟩ = some (.int .i64 x.kd) ∧ W'.cell? ⟨q, 3, none⟩ = some (.slice A4 n4 c4)) ∧ Keep (fun _ => False) W W') (exact CE.out _ (by exact (by repeat first | assumption | exact Keep.refl _ _ | refine Keep.alloc ?_ _ | refine Keep.drew ?_ | refine Keep.drewN ?_ _ | refine Keep.setCell ?_ (.inl (by first | omega | (simp; done) | (simp; omega))) _))) (first
      | (go_at_call 35; go_loud (with_reducible refine (RS1.out _ (by exact (by repeat first | assumption | exact Keep.refl _ _ | refine Keep.alloc ?_ _ | refine Keep.drew ?_ | refine Keep.drewN ?_ _ | refine Keep.setCell ?_ (.inl (by first | omega | (simp; done) | (simp; omega))) _))).mono ?_); rintro e w5 ⟨rfl, hb5⟩; have hk5 := K.to (show Keep (fun _ => False) W _ from (by repeat first | assumption | exact Keep.refl _ _ | refine Keep.alloc ?_ _ | refine Keep.drew ?_ | refine Keep.drewN ?_ _ | refine Keep.setCell ?_ (.inl (by first | omega | (simp; done) | (simp; omega))) _)) hb5; clear hb5)
      | (go_at_call 36; go_loud (with_reducible refine (ST1.out _ (by exact (by repeat first | assumption | exact Keep.refl _ _ | refine Keep.alloc ?_ _ | refine Keep.drew ?_ | refine Keep.drewN ?_ _ | refine Keep.setCell ?_ (.inl (by first | omega | (simp; done) | (simp; omega))) _))).mono ?_); rintro e w5 ⟨rfl, rfl⟩)
      | fail)
    go_wp2_with fail
    go_meet
    exact ⟨rfl, by assumption⟩
  case rest =>
    obtain ⟨rfl, hk5⟩ := hcut
    have H5 := Lib.hid (HW.out.1.same hk5)
    clear hk5 HW RS1 ST1 CE ee
    obtain ⟨x0, x1, x2, x3⟩ := H5.out.1.cells
    go_upto_region 10 with fail
    obtain ⟨b, hb⟩ : ∃ b : Bool, b = decide (mayS a) := ⟨_, rfl⟩
    have HB := Lib.hid hb
    clear hb
    go_cut [8] (fun s wx => s = .bool b ∧ wx = wc)
    case first =>
      by_cases c0 : decide (0 ≤ a.ep) = true
      · have t0 := c0
        clear c0
        by_cases c1 : decide (a.ep ≤ 281474976710656) = true
        · have t1 := c1
          clear c1
          by_cases c2 : decide (0 ≤ a.no) = true
          · have t2 := c2
            clear c2
            by_cases c3 : decide (a.no ≤ 281474976710656) = true
            · have t3 := c3
              clear c3
              by_cases c4 : decide (0 ≤ a.kd) = true
              · have t4 := c4
                clear c4
                by_cases c5 : decide (a.kd ≤ 255) = true
                · have t5 := c5
                  clear c5
                  by_cases c6 : decide ((n : Int) ≤ 472) = true
                  · have t6 := c6
                    clear c6
                    obtain rfl : b = true := by rw [HB.out]; exact decide_eq_true (MM.out ⟨of_decide_eq_true t0, of_decide_eq_true t1, of_decide_eq_true t2, of_decide_eq_true t3, of_decide_eq_true t4, of_decide_eq_true t5, by have := of_decide_eq_true t6; omega⟩)
                    go_wp2_with fail
                    go_meet
                    exact ⟨rfl, rfl⟩
                  · have t6 : decide ((n : Int) ≤ 472) = false := by simpa only [Bool.not_eq_true] using c6
                    clear c6
                    obtain rfl : b = false := by rw [HB.out]; exact decide_eq_false (fun h => of_decide_eq_false t6 (MI.out h).2.2.2.2.2.2)
                    go_wp2_with fail
                    go_meet
                    exact ⟨rfl, rfl⟩
                · have t5 : decide (a.kd ≤ 255) = false := by simpa only [Bool.not_eq_true] using c5
                  clear c5
                  obtain rfl : b = false := by rw [HB.out]; exact decide_eq_false (fun h => of_decide_eq_false t5 (MI.out h).2.2.2.2.2.1)
                  go_wp2_with fail
                  go_meet
                  exact ⟨rfl, rfl⟩
              · have t4 : decide (0 ≤ a.kd) = false := by simpa only [Bool.not_eq_true] using c4
                clear c4
                obtain rfl : b = false := by rw [HB.out]; exact decide_eq_false (fun h => of_decide_eq_false t4 (MI.out h).2.2.2.2.1)
                go_wp2_with fail
                go_meet
                exact ⟨rfl, rfl⟩
            · have t3 : decide (a.no ≤ 281474976710656) = false := by simpa only [Bool.not_eq_true] using c3
              clear c3
              obtain rfl : b = false := by rw [HB.out]; exact decide_eq_false (fun h => of_decide_eq_false t3 (MI.out h).2.2.2.1)
              go_wp2_with fail
              go_meet
              exact ⟨rfl, rfl⟩
          · have t2 : decide (0 ≤ a.no) = false := by simpa only [Bool.not_eq_true] using c2
            clear c2
            obtain rfl : b = false := by rw [HB.out]; exact decide_eq_false (fun h => of_decide_eq_false t2 (MI.out h).2.2.1)
            go_wp2_with fail
            go_meet
            exact ⟨rfl, rfl⟩
        · have t1 : decide (a.ep ≤ 281474976710656) = false := by simpa only [Bool.not_eq_true] using c1
          clear c1
          obtain rfl : b = false := by rw [HB.out]; exact decide_eq_false (fun h => of_decide_eq_false t1 (MI.out h).2.1)
          go_wp2_with fail
          go_meet
          exact ⟨rfl, rfl⟩
      · have t0 : decide (0 ≤ a.ep) = false := by simpa only [Bool.not_eq_true] using c0
        clear c0
        obtain rfl : b = false := by rw [HB.out]; exact decide_eq_false (fun h => of_decide_eq_false t0 (MI.out h).1)
        go_wp2_with fail
        go_meet
        exact ⟨rfl, rfl⟩
    case rest =>
      obtain ⟨rfl, rfl⟩ := hcut
      cases b
      · go_wp2_with fail
        refine (LIV.out _).mono ?_
        rintro e w6 ⟨rfl, hb6⟩
        go_wp2
        go_ret
        exact ⟨rfl, H5.out.2.2.2.to_below'.trans (hb6.mono H5.out.2.2.2.size)⟩
      · have MA := Lib.hid (MY.out (of_decide_eq_true HB.out.symm))
        obtain ⟨y0, y1, y2, y3⟩ := H5.out.2.1.cells
        go_wp2_with fail
        refine (MA.out _ _ _ _ _ H5.out.1.2 H5.out.2.1.2).mono ?_
        rintro e w6 ⟨rfl, hb6⟩
        have K6 := Lib.hid (K.to H5.out.2.2.2 hb6)
        clear hb6
        go_wp2_with fail
        refine (LIV.out _).mono ?_
        rintro e w7 ⟨rfl, hb7⟩
        go_wp2
        go_ret
        exact ⟨rfl, K6.out.to_below'.trans (hb7.mono K6.out.size)⟩
end Go.Proofs.Ytakchlaoimnnhaa

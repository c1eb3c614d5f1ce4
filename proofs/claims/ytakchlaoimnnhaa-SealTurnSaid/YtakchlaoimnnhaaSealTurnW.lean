/- The walk of vivariumlaw03.SealTurn: it returns true, old memory unchanged. -/
import Derived.Test.YtakchlaoimnnhaaSealTornW
namespace Go.Proofs.Ytakchlaoimnnhaa
open Go.RowKit
set_option maxRecDepth 100000
set_option linter.unusedVariables false

set_option maxHeartbeats 8000000 in
theorem sealTurn_walk (x : SV) (u : Value) (no kd : Int) (l : List UInt8) (v : Value) (k : Int) (F G : Nat → Prop) (w : World) (hu : By w F u x.bd) (hv : By w G v l) (hk : -9223372036854775808 ≤ k ∧ k ≤ 9223372036854775807) :
    Calls Try.prog 11 #[sealV x u, .int .i64 no, .int .i64 kd, v, .int .i64 k] w fun e w' => e = .returned (.bool true) ∧ Below w.heap.size w w' := by
  unfold sealV
  have LIV := Lib.hid live03
  by_cases hbig : 600 < x.bd.length ∨ (x.bd.length ≤ 600 ∧ 600 < l.length)
  · obtain ⟨A, c, rfl, -, hcm, -⟩ := hv
    obtain ⟨B, d, rfl, -, hdm, -⟩ := hu
    generalize l.length = n at *
    generalize x.bd.length = m at *
    rcases hbig with h | ⟨h1, h2⟩
    all_goals
      go_enter Try.func11, Try.ntmps11
      go_wp2_with (go_at_call 30; refine (LIV.out _).mono ?_; rintro e w4 ⟨rfl, hb4⟩)
      go_ret
      exact ⟨rfl, ((Below.refl _ w).alloc (Nat.le_refl _) _).trans (hb4.mono (by simp))⟩
  have hl : l.length ≤ 600 := by omega
  have hm : x.bd.length ≤ 600 := by omega
  clear hbig
  obtain ⟨y, hy⟩ : ∃ y : SV, y = ⟨x.ep, no, kd, l⟩ := ⟨_, rfl⟩
  have hS := sealB_len x
  have hR := sealB_len y
  have P1 := Lib.hid (fun W (h : Keep (fun _ => False) w W) => refPut_any x u F W (hu.same h))
  have P2 := Lib.hid (show ∀ W, Keep (fun _ => False) w W → Calls Try.prog 32 #[.agg #[.int .i64 x.ep, .int .i64 no, .int .i64 kd, v]] W (ByPost W (sealB ⟨x.ep, no, kd, l⟩)) from fun W h => refPut_any ⟨x.ep, no, kd, l⟩ v G W (hv.same h))
  rw [← hy] at P2
  have ge : ∀ z : SV, gotS (sealB z) = nearS z ∧ okS (sealB z) = true := fun z => ⟨by unfold gotS; rw [okS_sealB, if_pos rfl, valOf_sealB], okS_sealB z⟩
  have G1 := Lib.hid (fun W a Fa (h : By W Fa a (sealB x)) => refGetS_any _ a Fa W h)
  have G2 := Lib.hid (fun W a Fa (h : By W Fa a (sealB y)) => refGetS_any _ a Fa W h)
  rw [(ge x).1, (ge x).2] at G1
  rw [(ge y).1, (ge y).2] at G2
  have TE := Lib.hid (fun W a b Fa Fb (ha : By W Fa a (sealB x)) (hb : By W Fb b (sealB y)) => stear_any _ _ a b Fa Fb k W ha hb hk)
  rw [cutB_id hS, cutB_id hR] at TE
  have tl := tearB_len k hS hR
  have GT := Lib.hid (fun W a Fa (h : By W Fa a (tearB (sealB x) (sealB y) k)) => sget_any _ a Fa W h (by rw [tl]; decide))
  have TN := Lib.hid (show (nearS x).no ≠ (nearS y).no → okS (tearB (sealB x) (sealB y) k) = true → tearB (sealB x) (sealB y) k = sealB x ∨ tearB (sealB x) (sealB y) k = sealB y from fun h1 h2 =>
    turn_not (by rw [hy]) (fun h => h1 (by show ((nearN x.no 281474976710656 : Nat) : Int) = _; rw [h]; rfl)) h2)
  have SM1 := Lib.hid (fun W a b Fa Fb (ha : By W Fa a (tearB (sealB x) (sealB y) k)) (hb : By W Fb b (sealB x)) => same_any _ _ a b Fa Fb W ha hb)
  have SM2 := Lib.hid (fun W a b Fa Fb (ha : By W Fa a (tearB (sealB x) (sealB y) k)) (hb : By W Fb b (sealB y)) => same_any _ _ a b Fa Fb W ha hb)
  have V0 := Lib.hid hv
  obtain ⟨A, c, rfl, -, hcm, -⟩ := hv
  have U0 := Lib.hid hu
  obtain ⟨B, d, rfl, -, hdm, -⟩ := hu
  generalize tearB (sealB x) (sealB y) k = T at *
  generalize nearS x = nx at *
  generalize nearS y = ny at *
  generalize sealB x = S at *
  generalize sealB y = R at *
  clear hS hR tl ge hy
  generalize l.length = n at *
  generalize x.bd.length = m at *
  go_enter Try.func11, Try.ntmps11
  go_upto_region 3 with fail
  refine wp_world (S := fun W => Bx W F w.heap.size x (.slice B m d) ∧ Keep (fun _ => False) w W) ⟨Bx.new U0.out, (Keep.refl _ w).alloc _⟩ ?_
  intro W hW
  have HW := Lib.hid hW
  clear hW U0
  generalize hp0 : w.heap.size = p0 at *
  have CE := Lib.hid (show ∀ W', Keep (fun _ => False) W W' → W'.cell? ⟨p0, 0, none⟩ = some (.int .i64 x.ep) ∧ W'.cell? ⟨p0, 1, none⟩ = some (.int .i64 x.no) ∧ W'.cell? ⟨p0, 2, none⟩ = some (.int .i64 x.kd) ∧ W'.cell? ⟨p0, 3, none⟩ = some (.slice B m d) ∧ Keep (fun _ => False) W W' from fun W' hk => by
    obtain ⟨h0, h1, h2, h3⟩ := (HW.out.1.same hk).cells
    exact ⟨h0, h1, h2, h3, hk⟩)
  go_cut [11, 12] (fun s1 s2 wx => ∃ A1 n1 c1 A2 n2 c2, s1 = .slice A1 n1 c1 ∧ s2 = .slice A2 n2 c2 ∧ Hid (By wx (fun b => p0 ≤ b) (.slice A1 n1 c1) S ∧ By wx (fun b => p0 ≤ b) (.slice A2 n2 c2) R ∧ Keep (fun _ => False) w wx))
  case first =>
    have KW := Lib.hid (fun W' (hk : Keep (fun _ => False) W W') => HW.out.2.trans hk (fun _ _ h => h))
    have hsz := HW.out.2.size
    go_region_held3 (fun W' => W'.cell? ⟨p0, 0, none⟩ = some (.int .i64 x.ep) ∧ W'.cell? ⟨p0, 1, none⟩ = some (.int .i64 x.no) ∧ W'.cell? ⟨p0, 2, none⟩ = some (.int .i64 x.kd) ∧ W'.cell? ⟨p0, 3, none⟩ = some (.slice B m d) ∧ Keep (fun _ => False) W W') (exact CE.out _ (by exact (by repeat first | assumption | exact Keep.refl _ _ | refine Keep.alloc ?_ _ | refine Keep.drew ?_ | refine Keep.drewN ?_ _ | refine Keep.setCell ?_ (.inl (by first | omega | (simp; done) | (simp; omega))) _))) (first
      | (go_at_call 32; (with_reducible refine (P1.out _ (KW.out _ (by exact (by repeat first | assumption | exact Keep.refl _ _ | refine Keep.alloc ?_ _ | refine Keep.drew ?_ | refine Keep.drewN ?_ _ | refine Keep.setCell ?_ (.inl (by first | omega | (simp; done) | (simp; omega))) _)))).mono ?_); rintro e w5 ⟨A5, n5, c5, rfl, hy5, hb5⟩; have hk5 := K.to (show Keep (fun _ => False) W _ from (by repeat first | assumption | exact Keep.refl _ _ | refine Keep.alloc ?_ _ | refine Keep.drew ?_ | refine Keep.drewN ?_ _ | refine Keep.setCell ?_ (.inl (by first | omega | (simp; done) | (simp; omega))) _)) hb5; have hz5 := hk5.size; have HY5 := Lib.hid (And.intro hy5 hb5); clear hy5 hb5)
      | (go_at_call 32; (with_reducible refine (P2.out _ (KW.out _ (by exact (by repeat first | assumption | exact Keep.refl _ _ | refine Keep.alloc ?_ _ | refine Keep.drew ?_ | refine Keep.drewN ?_ _ | refine Keep.setCell ?_ (.inl (by first | omega | (simp; done) | (simp; omega))) _)))).mono ?_); rintro e w6 ⟨A6, n6, c6, rfl, hy6, hb6⟩; have hk6 := K.to (show Keep (fun _ => False) W _ from (by repeat first | assumption | exact Keep.refl _ _ | refine Keep.alloc ?_ _ | refine Keep.drew ?_ | refine Keep.drewN ?_ _ | refine Keep.setCell ?_ (.inl (by first | omega | (simp; done) | (simp; omega))) _)) hb6; have hz6 := hk6.size; have HY6 := Lib.hid (And.intro hy6 hb6); clear hy6 hb6)
      | fail)
    all_goals
      go_wp2_with fail
      go_meet
      first
        | exact ⟨_, _, _, _, _, _, rfl, rfl, Lib.hid ⟨(HY5.out.1.below HY6.out.2).mono (fun b _ h => by simp at h; omega), HY6.out.1.mono (fun b _ h => by omega), KW.out _ hk6⟩⟩
        | exact ⟨_, _, _, _, _, _, rfl, rfl, Lib.hid ⟨HY5.out.1.mono (fun b _ h => by omega), (HY6.out.1.below HY5.out.2).mono (fun b _ h => by simp at h; omega), KW.out _ hk5⟩⟩
  case rest =>
    obtain ⟨A1, n1, c1, A2, n2, c2, rfl, rfl, hst⟩ := hcut
    have H1 := Lib.hid hst.out
    clear hst CE HW P1 P2 V0
    subst hp0
    go_wp2_with fail
    refine (G1.out _ _ _ H1.out.1).mono ?_
    rintro e w3 ⟨A3, n3, c3, rfl, hy3, hb3⟩
    have H3 := Lib.hid (And.intro (hy3.mono (G := fun b => w.heap.size ≤ b) (fun b _ h => by have := H1.out.2.2.size; omega)) (And.intro (H1.out.1.below hb3) (And.intro (H1.out.2.1.below hb3) (K.to H1.out.2.2 hb3))))
    clear hy3 hb3 H1
    go_wp2_with fail
    refine (G2.out _ _ _ (Sl.alloc H3.out.2.2.1 _)).mono ?_
    rintro e w4 ⟨A4, n4, c4, rfl, hy4, hb4⟩
    have H4 := Lib.hid (show Two w (w4.alloc (.cells #[.int .i64 ny.ep, .int .i64 ny.no, .int .i64 ny.kd, .slice A4 n4 c4] 50)) w3.heap.size w4.heap.size nx ny (.slice A3 n3 c3) (.slice A4 n4 c4) ∧ By (w4.alloc (.cells #[.int .i64 ny.ep, .int .i64 ny.no, .int .i64 ny.kd, .slice A4 n4 c4] 50)) (fun b => w.heap.size ≤ b) (.slice A1 n1 c1) S ∧ By (w4.alloc (.cells #[.int .i64 ny.ep, .int .i64 ny.no, .int .i64 ny.kd, .slice A4 n4 c4] 50)) (fun b => w.heap.size ≤ b) (.slice A2 n2 c2) R from
      have kk : Keep (fun _ => False) w3 (w4.alloc (.cells #[.int .i64 ny.ep, .int .i64 ny.no, .int .i64 ny.kd, .slice A4 n4 c4] 50)) := (K.to ((Keep.refl _ w3).alloc _) hb4).alloc _
      have hsz := H3.out.2.2.2.size
      ⟨⟨((Bx.new H3.out.1).same (Keep.of_below' hb4)).same ((Keep.refl _ w4).alloc _), Bx.new (hy4.mono (fun b _ h => by simp at h; omega)), H3.out.2.2.2.trans kk (fun _ _ h => h)⟩, H3.out.2.1.same kk, H3.out.2.2.1.same kk⟩)
    clear hy4 hb4
    go_upto_region 6 with fail
    refine wp_world (S := fun W => Two w W w3.heap.size w4.heap.size nx ny (.slice A3 n3 c3) (.slice A4 n4 c4) ∧ By W (fun b => w.heap.size ≤ b) (.slice A1 n1 c1) S ∧ By W (fun b => w.heap.size ≤ b) (.slice A2 n2 c2) R) H4.out ?_
    intro W5 hW5
    have H5 := Lib.hid hW5
    clear hW5 H4 H3
    generalize w3.heap.size = p at *
    generalize w4.heap.size = q at *
    obtain ⟨x0, x1, x2, x3⟩ := H5.out.1.1.cells
    obtain ⟨y0, y1, y2, y3⟩ := H5.out.1.2.1.cells
    by_cases hno : nx.no = ny.no
    · have e1 : (nx.no == ny.no) = true := by rw [beq_iff_eq]; exact hno
      clear hno TN
      go_wp2_with fail
      refine (LIV.out _).mono ?_
      rintro e w6 ⟨rfl, hb6⟩
      go_wp2
      go_ret
      exact ⟨rfl, H5.out.1.2.2.to_below'.trans (hb6.mono H5.out.1.2.2.size)⟩
    · have e1 : (nx.no == ny.no) = false := by rw [beq_eq_false_iff_ne]; exact hno
      have TN1 := Lib.hid (TN.out hno)
      clear hno TN
      generalize okS T = ok at *
      generalize gotS T = g at *
      go_wp2_with fail
      refine (TE.out _ _ _ _ _ H5.out.2.1 H5.out.2.2).mono ?_
      rintro e w6 ⟨A6, n6, c6, rfl, hy6, hb6⟩
      have H6 := Lib.hid (And.intro hy6 (And.intro (H5.out.2.1.below hb6) (And.intro (H5.out.2.2.below hb6) (K.to H5.out.1.2.2 hb6))))
      clear hy6 hb6 H5 x0 x1 x2 x3 y0 y1 y2 y3
      go_wp2_with fail
      refine (GT.out _ _ _ H6.out.1).mono ?_
      rintro e w7 ⟨A7, n7, c7, rfl, -, hb7⟩
      have H7 := Lib.hid (And.intro ((H6.out.1.below hb7).same ((Keep.refl _ w7).alloc (.cells #[.int .i64 g.ep, .int .i64 g.no, .int .i64 g.kd, .slice A7 n7 c7] 50))) (And.intro ((H6.out.2.1.below hb7).same ((Keep.refl _ w7).alloc (.cells #[.int .i64 g.ep, .int .i64 g.no, .int .i64 g.kd, .slice A7 n7 c7] 50))) (And.intro ((H6.out.2.2.1.below hb7).same ((Keep.refl _ w7).alloc (.cells #[.int .i64 g.ep, .int .i64 g.no, .int .i64 g.kd, .slice A7 n7 c7] 50))) ((K.to H6.out.2.2.2 hb7).alloc (.cells #[.int .i64 g.ep, .int .i64 g.no, .int .i64 g.kd, .slice A7 n7 c7] 50)))))
      clear hb7 H6
      cases ok
      · go_wp2_with fail
        refine (LIV.out _).mono ?_
        rintro e w8 ⟨rfl, hb8⟩
        go_wp2
        go_ret
        exact ⟨rfl, H7.out.2.2.2.to_below'.trans (hb8.mono H7.out.2.2.2.size)⟩
      · have SA := Lib.hid (SM1.out _ _ _ _ _ H7.out.1 H7.out.2.1)
        have SB := Lib.hid (SM2.out _ _ _ _ _ H7.out.1 H7.out.2.2.1)
        by_cases hts : T = S
        · rw [decide_eq_true hts] at SA
          clear hts TN1 SM1 SM2 SB
          go_wp2_with fail
          refine SA.out.mono ?_
          rintro e w8 ⟨rfl, rfl⟩
          go_wp2_with fail
          refine (LIV.out _).mono ?_
          rintro e w8 ⟨rfl, hb8⟩
          go_wp2
          go_ret
          exact ⟨rfl, H7.out.2.2.2.to_below'.trans (hb8.mono H7.out.2.2.2.size)⟩
        · have htr := (TN1.out rfl).resolve_left hts
          rw [decide_eq_false hts] at SA
          rw [decide_eq_true htr] at SB
          clear hts htr TN1 SM1 SM2
          go_wp2_with fail
          refine SA.out.mono ?_
          rintro e w8 ⟨rfl, rfl⟩
          go_wp2_with fail
          refine SB.out.mono ?_
          rintro e w8 ⟨rfl, rfl⟩
          go_wp2_with fail
          refine (LIV.out _).mono ?_
          rintro e w8 ⟨rfl, hb8⟩
          go_wp2
          go_ret
          exact ⟨rfl, H7.out.2.2.2.to_below'.trans (hb8.mono H7.out.2.2.2.size)⟩
end Go.Proofs.Ytakchlaoimnnhaa

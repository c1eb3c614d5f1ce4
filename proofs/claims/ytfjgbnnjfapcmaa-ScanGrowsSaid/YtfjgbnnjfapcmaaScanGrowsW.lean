/- The walk of vivariumlaw18.ScanGrows. Printed by genscangrows.py. -/
import Derived.Test.YtfjgbnnjfapcmaaScanC
import Derived.Deep.DeepCutAuto
namespace Go.Proofs.Ytfjgbnnjfapcmaa
open Go.RowKit
set_option maxRecDepth 100000
set_option linter.unusedVariables false
set_option linter.unusedSimpArgs false

/-- May the law ask at all? -/
def askB (m0 r0 f0 p1 p2 p3 q1 q2 q3 : Bool) : Bool := m0 || (!r0 || (!f0 || (!p1 || (!p2 || (!p3 || (q1 || (q2 || q3)))))))
theorem askB_no {m0 r0 f0 p1 p2 p3 q1 q2 q3 : Bool} (h : askB m0 r0 f0 p1 p2 p3 q1 q2 q3 = false) : m0 = false ∧ r0 = true ∧ f0 = true ∧ p1 = true ∧ p2 = true ∧ p3 = true ∧ q1 = false ∧ q2 = false ∧ q3 = false := by
  cases m0 <;> cases r0 <;> cases f0 <;> cases p1 <;> cases p2 <;> cases p3 <;> cases q1 <;> cases q2 <;> cases q3 <;> first | (cases h; done) | exact ⟨rfl, rfl, rfl, rfl, rfl, rfl, rfl, rfl, rfl⟩
set_option maxHeartbeats 8000000 in
theorem scanGrows_walk (c : Cf) (u : Value) (l : List (List UInt8)) (v : Value) (hd ep sq : Int) (FS : List (List Cmd)) (vF : Value) (more : Int) (T : List Int) (AT : Option Addr) (dT : Nat) (w : World)
    (hu : CL w (fun _ => True) u c.l) (hv : Bys w (fun _ => True) v l) (hF : NS csN w (fun _ => True) vF FS) (hFr : ∀ x ∈ FS, cmR x) (hT : Sl w (fun _ => True) 1 (.slice AT T.length dT) T.length (iv T)) (hTw : ∀ t ∈ T, -9223372036854775808 ≤ t ∧ t ≤ 9223372036854775807)
    (hc : -9223372036854775808 ≤ c.log ∧ c.log ≤ 9223372036854775807) :
    Calls Try.prog 4 #[confV c u, v, .int .i64 hd, .int .i64 ep, .int .i64 sq, vF, .int .i64 more, .slice AT T.length dT] w fun e w' => e = .returned (.bool true) ∧ Below w.heap.size w w' := by
  have LIV := Lib.hid live18
  have MU := Lib.hid (fun W (hk : Keep (fun _ => False) w W) => rmuch_any c u (fun _ => True) W (hu.same hk))
  have RR := Lib.hid (fun (h : ∀ x ∈ c.l, x.nm.size ≤ 100) W (hk : Keep (fun _ => False) w W) => rright_any c u (fun _ => True) W (hu.same hk) (fun s hs => Nat.le_trans (h s hs) (by decide)))
  have FU := Lib.hid (fun W (hk : Keep (fun _ => False) w W) => full_any c u (fun _ => True) l v (fun _ => True) W (hu.same hk) (hv.keep hk (fun _ _ _ h => h)))
  have PL := Lib.hid gplace_any
  have MB := Lib.hid (@muchB_small c.l)
  have UU := Lib.hid (And.intro hu (And.intro hv (And.intro hF (And.intro hFr (And.intro hT (And.intro hTw hc))))))
  obtain ⟨A, cap, rfl, -⟩ := hv.form
  obtain ⟨AF, capF, rfl, hcF, hlF⟩ := NS.form hF
  obtain ⟨Au, cu, rfl, -⟩ := hu
  unfold maxLen at hcF
  unfold confV at *
  clear hv hF hFr hT hTw hc
  obtain ⟨m0, hm0⟩ : ∃ b, b = muchB c.l := ⟨_, rfl⟩
  obtain ⟨r0, hr0⟩ : ∃ b, b = rightB c := ⟨_, rfl⟩
  obtain ⟨f0, hf0⟩ : ∃ b, b = fullB c l := ⟨_, rfl⟩
  obtain ⟨p1, hp1⟩ : ∃ b, b = decide (0 ≤ hd ∧ hd ≤ 281474976710656) := ⟨_, rfl⟩
  obtain ⟨p2, hp2⟩ : ∃ b, b = decide (0 ≤ sq ∧ sq ≤ 281474976710656) := ⟨_, rfl⟩
  obtain ⟨p3, hp3⟩ : ∃ b, b = decide (0 ≤ ep ∧ ep ≤ 281474976710656) := ⟨_, rfl⟩
  have P1 := Lib.hid (PL.out hd)
  have P2 := Lib.hid (PL.out sq)
  have P3 := Lib.hid (PL.out ep)
  rw [← hp1] at P1
  rw [← hp2] at P2
  rw [← hp3] at P3
  rw [← hm0] at MU MB
  rw [← hr0] at RR
  rw [← hf0] at FU
  have HM0 := Lib.hid hm0
  have HR0 := Lib.hid hr0
  have HF0 := Lib.hid hf0
  have HP := Lib.hid (And.intro hp1 (And.intro hp2 hp3))
  clear hm0 hr0 hf0 hp1 hp2 hp3
  obtain ⟨nF, hnF⟩ : ∃ n, n = FS.length := ⟨_, rfl⟩
  obtain ⟨nT, hnT⟩ : ∃ n, n = T.length := ⟨_, rfl⟩
  obtain ⟨nl, hnl⟩ : ∃ n, n = l.length := ⟨_, rfl⟩
  obtain ⟨nu, hnu⟩ : ∃ n, n = c.l.length := ⟨_, rfl⟩
  have HN := Lib.hid (And.intro hnF (And.intro hnT (And.intro hnl hnu)))
  rw [← hnF] at UU hlF ⊢
  rw [← hnT] at UU ⊢
  rw [← hnl] at FU UU ⊢
  rw [← hnu] at MU RR FU UU ⊢
  clear hnF hnT hnl hnu
  obtain ⟨G, hG⟩ : ∃ b, b = askB m0 r0 f0 p1 p2 p3 (decide (20 < (nF : Int))) (decide (140737488355328 < hd)) (decide (140737488355328 < sq)) := ⟨_, rfl⟩
  have HG := Lib.hid hG
  clear hG
  go_enter Try.func4, Try.ntmps4
  go_upto_region 1 with fail
  refine wp_world (S := fun X => KSt w X (.int .i64 c.log) (.int .i64 c.pages) (.int .i64 c.ents) (.int .i64 c.gens) (.slice Au nu cu)) (KSt.mk_ w _ _ _ _ _) ?_
  intro X hX
  have HX := Lib.hid hX
  clear hX
  go_cut [66] (fun s wx => s = .bool G ∧ KSt w wx (.int .i64 c.log) (.int .i64 c.pages) (.int .i64 c.ents) (.int .i64 c.gens) (.slice Au nu cu))
  case first =>
    obtain ⟨c0, c1, c2, c3, c4, cf⟩ := cells5 HX.out.1
    go_wp2_with fail
    with_reducible refine (MU.out _ HX.out.keep).mono ?_
    rintro e w1 ⟨rfl, hb1⟩
    have H1 := Lib.hid (HX.out.below hb1)
    clear hb1 c0 c1 c2 c3 c4 cf HX
    obtain ⟨c0, c1, c2, c3, c4, cf⟩ := cells5 H1.out.1
    cases m0 with
    | true =>
      go_wp2_with fail
      go_meet
      exact ⟨by rw [HG.out]; rfl, H1.out⟩
    | false =>
    have NMS := Lib.hid (MB.out rfl)
    go_wp2_with fail
    with_reducible refine (RR.out NMS.out _ H1.out.keep).mono ?_
    rintro e w2 ⟨rfl, hb2⟩
    have H2 := Lib.hid (H1.out.below hb2)
    clear hb2 c0 c1 c2 c3 c4 cf H1
    obtain ⟨c0, c1, c2, c3, c4, cf⟩ := cells5 H2.out.1
    cases r0 with
    | false =>
      go_wp2_with fail
      go_meet
      exact ⟨by rw [HG.out]; rfl, H2.out⟩
    | true =>
    go_wp2_with fail
    with_reducible refine (FU.out _ H2.out.keep).mono ?_
    rintro e w3 ⟨rfl, hb3⟩
    have H3 := Lib.hid (H2.out.below hb3)
    clear hb3 c0 c1 c2 c3 c4 cf H2
    cases f0 with
    | false =>
      go_wp2_with fail
      go_meet
      exact ⟨by rw [HG.out]; rfl, H3.out⟩
    | true =>
    go_wp2_with fail
    with_reducible refine (P1.out _).mono ?_
    rintro e w4 ⟨rfl, rfl⟩
    cases p1 with
    | false =>
      go_wp2_with fail
      go_meet
      exact ⟨by rw [HG.out]; rfl, H3.out⟩
    | true =>
    go_wp2_with fail
    with_reducible refine (P2.out _).mono ?_
    rintro e w4 ⟨rfl, rfl⟩
    cases p2 with
    | false =>
      go_wp2_with fail
      go_meet
      exact ⟨by rw [HG.out]; rfl, H3.out⟩
    | true =>
    go_wp2_with fail
    with_reducible refine (P3.out _).mono ?_
    rintro e w4 ⟨rfl, rfl⟩
    cases p3 with
    | false =>
      go_wp2_with fail
      go_meet
      exact ⟨by rw [HG.out]; rfl, H3.out⟩
    | true =>
    by_cases t1 : (20 : Int) < (nF : Int)
    · have T1 := Lib.hid (decide_eq_true t1)
      go_wp2_with fail
      go_meet
      exact ⟨by rw [HG.out, T1.out]; rfl, H3.out⟩
    have T1 := Lib.hid (decide_eq_false t1)
    by_cases t2 : (140737488355328 : Int) < hd
    · have T2 := Lib.hid (decide_eq_true t2)
      go_wp2_with fail
      go_meet
      exact ⟨by rw [HG.out, T1.out, T2.out]; rfl, H3.out⟩
    have T2 := Lib.hid (decide_eq_false t2)
    by_cases t3 : (140737488355328 : Int) < sq
    · have T3 := Lib.hid (decide_eq_true t3)
      go_wp2_with fail
      go_meet
      exact ⟨by rw [HG.out, T1.out, T2.out, T3.out]; rfl, H3.out⟩
    have T3 := Lib.hid (decide_eq_false t3)
    go_wp2_with fail
    go_meet
    exact ⟨by rw [HG.out, T1.out, T2.out, T3.out]; rfl, H3.out⟩
  case rest =>
    obtain ⟨rfl, hk1⟩ := hcut
    have H1 := Lib.hid hk1
    clear hk1 HX MU RR FU P1 P2 P3 PL
    cases G with
    | true =>
      go_wp2_with fail
      with_reducible refine (LIV.out _).mono ?_
      rintro e w2 ⟨rfl, hb2⟩
      go_wp2
      go_ret
      exact ⟨rfl, (H1.out.below hb2).2⟩
    | false =>
    obtain ⟨rfl, rfl, rfl, rfl, rfl, rfl, q1, q2, q3⟩ := askB_no HG.out.symm
    have NMS := Lib.hid (MB.out rfl)
    have hfull := of_decide_eq_true HF0.out.symm
    obtain ⟨h512, hlen, h20⟩ := hfull
    have hq1 := of_decide_eq_false q1
    have hq2 := of_decide_eq_false q2
    have hq3 := of_decide_eq_false q3
    obtain ⟨a1, a2⟩ := of_decide_eq_true HP.out.1.symm
    obtain ⟨a3, a4⟩ := of_decide_eq_true HP.out.2.1.symm
    obtain ⟨a5, a6⟩ := of_decide_eq_true HP.out.2.2.symm
    have hright := HR0.out.symm
    obtain ⟨⟨g1, g2⟩, -⟩ := (of_decide_eq_true hright).1
    obtain ⟨u1, u2, u3, u4, u5, u6, u7⟩ := UU.out
    have PLN := Lib.hid (And.intro hright (And.intro hlen h512))
    have SC := Lib.hid (fun W (hk : Keep (fun _ => False) w W) => rscan_any c (.slice Au nu cu) (fun _ => True) l (.slice A nl cap) (fun _ => True) hd ep sq W (u1.same hk) (u2.keep hk (fun _ _ _ h => h)) (fun s hs => Nat.le_trans (NMS.out s hs) (by decide)) u7)
    have TP := Lib.hid (fun W (hk : Keep (fun _ => False) w W) => rscantop_any l (.slice A nl cap) (fun _ => True) W (u2.keep hk (fun _ _ _ h => h)))
    have hm := from_mono (c := c) (l := l) (hd := hd) (c.log - (hd - hd)).toNat (lsn := hd) (ep := ep) (sq := sq) (Nat.le_refl _)
    have hm : hd ≤ (scanF c l hd ep sq).lsn ∧ ((scanF c l hd ep sq).lsn ≤ hd + c.log ∨ (scanF c l hd ep sq).lsn = hd) ∧ (scanF c l hd ep sq).sq = sq + (scanF c l hd ep sq).recs.length ∧ _ ∧ ((scanF c l hd ep sq).recs.length : Int) ≤ (scanF c l hd ep sq).lsn - hd := hm
    obtain ⟨m1, m2, m3, -, m5⟩ := hm
    have TT := Lib.hid (rfl : scanF c l hd ep sq = scanF c l hd ep sq)
    unfold ScanP confV at SC
    obtain ⟨t, ht⟩ : ∃ t, t = scanF c l hd ep sq := ⟨_, rfl⟩
    rw [← ht] at SC m1 m2 m3 m5
    have HT := Lib.hid ht
    clear ht TT
    obtain ⟨R0, tl, te, tq⟩ := t
    simp only at SC m1 m2 m3 m5
    obtain ⟨tp, htp⟩ : ∃ z, z = topTo l l.length := ⟨_, rfl⟩
    have HTP := Lib.hid htp
    rw [← htp] at TP
    clear htp hright hlen h512 h20 q1 q2 q3 u1 u2 u3 u4 u5 u6 u7
    obtain ⟨c0, c1, c2, c3, c4, cf⟩ := cells5 H1.out.1
    go_wp2_with fail
    with_reducible refine (SC.out _ H1.out.keep).mono ?_
    rintro e w2 ⟨v2, rfl, hr2, hb2⟩
    obtain ⟨A2, d2, rfl, -⟩ := hr2.form
    have H2 := Lib.hid (And.intro (H1.out.below hb2) hr2)
    clear hr2 hb2 c0 c1 c2 c3 c4 cf H1 SC
    obtain ⟨n2, hn2⟩ : ∃ n, n = R0.length := ⟨_, rfl⟩
    have HN2 := Lib.hid hn2
    rw [← hn2] at H2 m3 m5 ⊢
    have m5h := Lib.hid (show n2 ≤ 1024 by omega)
    have b2 : tl ≤ hd + c.log := by omega
    have b3 : sq ≤ tq := by omega
    have b4 : tq ≤ sq + c.log := by omega
    clear hn2 m2 m3 m5
    go_upto_region 4 with fail
    refine wp_world (S := fun X => GrSt w X (.int .i64 c.log) (.int .i64 c.pages) (.int .i64 c.ents) (.int .i64 c.gens) (.slice Au nu cu) w2.heap.size (.slice A2 n2 d2) R0 tl te tq) (H2.out.1.tail H2.out.2 tl te tq) ?_
    intro Y hY
    have HY := Lib.hid hY
    clear hY H2
    generalize w2.heap.size = q at *
    go_wp2_with fail
    with_reducible refine (TP.out _ HY.out.keep).mono ?_
    rintro e w3 ⟨rfl, rfl⟩
    obtain ⟨r0, r1, r2, r3, rf⟩ := cells4 HY.out.box
    by_cases k1 : more ≤ tp
    · go_wp2_with fail
      with_reducible refine (LIV.out _).mono ?_
      rintro e w2 ⟨rfl, hb2⟩
      go_wp2
      go_ret
      exact ⟨rfl, (HY.out.k.below hb2).2⟩
    by_cases k2 : more < te
    · go_wp2_with fail
      with_reducible refine (LIV.out _).mono ?_
      rintro e w2 ⟨rfl, hb2⟩
      go_wp2
      go_ret
      exact ⟨rfl, (HY.out.k.below hb2).2⟩
    by_cases k3 : 281474976710656 < more
    · go_wp2_with fail
      with_reducible refine (LIV.out _).mono ?_
      rintro e w2 ⟨rfl, hb2⟩
      go_wp2
      go_ret
      exact ⟨rfl, (HY.out.k.below hb2).2⟩
    go_upto_region 7 with fail
    clear r0 r1 r2 r3 rf
    obtain ⟨m, rfl⟩ : ∃ m : Nat, more = m := ⟨more.toNat, by have := (top_all l).1; rw [← HTP.out] at this; omega⟩
    obtain ⟨is, his, hs0, hs1, hs2⟩ := info_parts info_bytes
    have LN := Lib.hid (fun k (h : k ≤ nF) => rcs_len (FS := FS) (k := k) (by rw [← HN.out.1]; exact h))
    have LF := Lib.hid (fun k (h : k ≤ nF) => secs_few (FS := FS) (k := k) (m : Int) tl tq (by rw [← HN.out.1]; exact h))
    have RN := Lib.hid (fun k (h : k < nF) => rcs_next (FS := FS) (k := k) (by rw [← HN.out.1]; exact h))
    have SN := Lib.hid (fun k (h : k < nF) => secs_next (FS := FS) (k := k) (m : Int) tl tq (by rw [← HN.out.1]; exact h))
    have OX := Lib.hid (fun k (h : k < nF) => @oks_next FS k (by rw [← HN.out.1]; exact h))
    go_wp2
    go_loopw [19, 20, 21] (fun x1 x2 i wr => ∃ k : Nat, k ≤ nF ∧ i = .int .i64 k ∧ Hid (GrSt w wr (.int .i64 c.log) (.int .i64 c.pages) (.int .i64 c.ents) (.int .i64 c.gens) (.slice Au nu cu) q (.slice A2 n2 d2) R0 tl te tq ∧ Tw (q + 1) wr x1 x2 (rcs FS k) (secsF m tl tq (rcs FS k)) ∧ oks FS k)) (fun _ _ i _ => nF - (intOf i).toNat)
    case atStart => exact ⟨0, by omega, rfl, Lib.hid ⟨HY.out, by rw [rcs_zero]; exact Tw.first _ _, oks_zero FS⟩⟩
    case round =>
      obtain ⟨k, hk, rfl, hst⟩ := hrel
      obtain ⟨Ar, cr, es⟩ := hst.out.2.1.1.form
      obtain ⟨As, cs, es2⟩ := hst.out.2.1.2.1.form
      rw [LN.out k hk] at es
      subst es es2
      have hnsl := LF.out k hk
      obtain ⟨ns, hns⟩ : ∃ n, n = (secsF m tl tq (rcs FS k)).length := ⟨_, rfl⟩
      have HNS := Lib.hid hns
      rw [← hns] at hst hnsl ⊢
      clear hns
      by_cases hlt : k < nF
      · have f1 : (k : Int) < (nF : Int) := by omega
        have f2 : (0 : Int) ≤ (k : Int) := by omega
        obtain ⟨b1, o1, A5, d5, rfl, -, y1, x1⟩ := csAt (UU.out.2.2.1.keep hst.out.1.keep (fun _ _ _ h => h)) hlt
        have Y1 := Lib.hid y1
        clear y1
        have MC := Lib.hid (fun W (hk : Keep (fun _ => False) wr W) => much13 (FS.getD k []) _ _ W (NS.keep Y1.out hk (fun _ _ _ h => h)))
        have FC := Lib.hid (fun W (hk : Keep (fun _ => False) wr W) => rfcheck_any (FS.getD k []) _ _ W (NS.keep Y1.out hk (fun _ _ _ h => h)))
        have FB := Lib.hid (fun (h0 : checksF (FS.getD k []) = 0) W (hk : Keep (fun _ => False) wr W) => rfbytes_any (FS.getD k []) _ _ W (NS.keep Y1.out hk (fun _ _ _ h => h)) h0)
        have FL := Lib.hid (fun (h0 : checksF (FS.getD k []) = 0) => frameB_le h0)
        have OK2 := Lib.hid (OX.out k hlt hst.out.2.2)
        have RNK := Lib.hid (RN.out k hlt)
        have SNK := Lib.hid (SN.out k hlt)
        rw [← HNS.out] at SNK
        generalize muchC (FS.getD k []) = mc at *
        generalize (FS.getD k []).length = fl at *
        generalize checksF (FS.getD k []) = ck at *
        go_wp2_with fail
        with_reducible refine (MC.out _ (Keep.refl _ _)).mono ?_
        rintro e w3 ⟨rfl, rfl⟩
        cases mc with
        | true =>
          go_wp2_with fail
          with_reducible refine (LIV.out _).mono ?_
          rintro e w2 ⟨rfl, hb2⟩
          go_wp2
          go_ret
          exact ⟨rfl, (hst.out.1.k.below hb2).2⟩
        | false =>
        go_wp2_with fail
        with_reducible refine (FC.out _ (Keep.refl _ _)).mono ?_
        rintro e w4 ⟨rfl, hb4⟩
        have K4 := Lib.hid (Keep.of_below' hb4)
        have x4 := (Keep.of_below' hb4).cell (fun h => h) x1
        have H4 := Lib.hid (And.intro (hst.out.1.to hb4) (hst.out.2.1.same (Keep.of_below' hb4)))
        clear hb4 x1 hst MC FC
        by_cases h0 : ck = 0
        · have FB0 := Lib.hid (FB.out h0)
          have FL0 := Lib.hid (FL.out h0)
          have OK3 := Lib.hid (OK2.out h0)
          subst h0
          clear FB FL OK2
          go_wp2_with fail
          with_reducible refine (FB0.out _ K4.out).mono ?_
          rintro e w5 ⟨A6, n6, d6, rfl, hy6, hb6⟩
          have H5 := Lib.hid (And.intro (H4.out.1.to hb6) (And.intro (H4.out.2.same (Keep.of_below' hb6)) hy6))
          have OU := Lib.hid (fun e (h : ownB (.slice Ar k cr) = some e) => H4.out.2.1.own_lt h)
          have OV := Lib.hid (fun e (h : ownB (.slice As ns cs) = some e) => H4.out.2.2.1.own_lt h)
          have Q4 := Lib.hid H4.out.1.hq
          have Q5 := Lib.hid hb6.size
          clear hy6 hb6 x4 H4 FB0 K4
          obtain ⟨us, g1, g2, g3⟩ := H5.out.2.1.ofo
          rw [LN.out k hk] at g2
          have GG := Lib.hid (And.intro g1 (And.intro g2 g3))
          clear g1 g2 g3
          go_wp2_with (at_builtin; refine wpList_append_gen _ rfl _ _ 25 25 rfl (q + 1) 29 is _ 1 24 Try.underlying25 his hs0 hs1 hs2 rfl _ k us rfl (GG.out.2.1.alloc _) _ 1 [.slice A6 n6 d6] rfl (src_one w5 _ Try.underlying25 rfl) ?c1 ?c2 ?c3 ?_)
          case c1 => unfold maxLen; omega
          case c2 => omega
          case c3 => have := Q4.out; have := Q5.out; simp; omega
          intro v7 w7 ho7 hk7 hn7
          obtain ⟨A7, d7, rfl⟩ : ∃ A d, v7 = .slice A (k + 1) d := by
            obtain ⟨A, d, e, _⟩ := ho7.form
            exact ⟨A, d, e⟩
          have H7 := Lib.hid (show GrSt w w7 (.int .i64 c.log) (.int .i64 c.pages) (.int .i64 c.ents) (.int .i64 c.gens) (.slice Au nu cu) q (.slice A2 n2 d2) R0 tl te tq ∧ Tw (q + 1) w7 (.slice A7 (k + 1) d7) (.slice As ns cs) (rcs FS k ++ [frameB (FS.getD k [])]) (secsF m tl tq (rcs FS k)) ∧ By w7 (fun _ => True) (.slice A6 n6 d6) (frameB (FS.getD k [])) from
            ⟨(H5.out.1.to ((Below.refl _ w5).alloc (Nat.le_refl _) _)).keep_ hk7 (fun x e => (OU.out x e).1),
             (H5.out.2.1.same ((Keep.refl _ w5).alloc _)).push (us := us) (cs := [.slice A6 n6 d6]) GG.out.1 (fun i x q hx hq => By.keep (GG.out.2.2 i x q hx hq) ((Keep.refl (fun _ => False) w5).alloc _) (fun _ _ _ h => h)) rfl (fun i x q' hx hq => by
               match i, hx, hq with
               | 0, hx, hq =>
                 obtain rfl : frameB (FS.getD k []) = x := by simpa using hx
                 obtain rfl : Value.slice A6 n6 d6 = q' := by simpa using hq
                 exact By.mono (By.keep H5.out.2.2 ((Keep.refl (fun _ => False) w5).alloc _) (fun _ _ _ h => h)) (fun b _ h => ⟨⟨by have := Q4.out; omega, fun e => by have := (OV.out b e).2; omega⟩, fun e => by have := (OU.out b e).2; omega⟩)) (by rw [LN.out k hk]; exact ho7) hk7 (fun k' e => (hn7 k' e).imp id (fun h => by first | exact h | (simp; omega) | (simp; exact h))),
             By.mono (By.keep (By.keep H5.out.2.2 ((Keep.refl (fun _ => False) w5).alloc _) (fun _ _ _ h => h)) hk7 (fun b _ h e => by have := (OU.out b e).2; omega)) (fun _ _ _ => trivial)⟩)
          clear ho7 hk7 hn7 GG H5 OU OV Q4 Q5
          have SE := Lib.hid (rsealed_any m (tl + (ns : Nat)) (tq + (k : Nat)) (frameB (FS.getD k [])) _ _ w7 H7.out.2.2 (Nat.le_trans FL0.out (by decide)) (by omega) (by omega))
          obtain ⟨r0, r1, r2, r3, rf⟩ := cells4 H7.out.1.box
          go_wp2_with fail
          with_reducible refine SE.out.mono ?_
          rintro e w8 ⟨u8, rfl, hl8, hb8⟩
          obtain ⟨A8, d8, rfl⟩ := hl8.form
          obtain ⟨cs8, e1, -, sr, e3⟩ := hl8.src
          have hls : (sealedF m (tl + (ns : Nat)) (tq + (k : Nat)) (frameB (FS.getD k []))).length ≤ 1024 := by rw [sealedF_len]; exact splitL_le _ _
          have H8 := Lib.hid (And.intro (H7.out.1.to hb8) (H7.out.2.1.same (Keep.of_below' hb8)))
          have OU := Lib.hid (fun e (h : ownB (.slice A7 (k + 1) d7) = some e) => H7.out.2.1.1.own_lt h)
          have OV := Lib.hid (fun e (h : ownB (.slice As ns cs) = some e) => H7.out.2.1.2.1.own_lt h)
          have Q7 := Lib.hid H7.out.1.hq
          have Q8 := Lib.hid hb8.size
          have SR := Lib.hid (And.intro e1 (And.intro sr e3))
          clear e1 sr e3 hl8 hb8 r0 r1 r2 r3 rf H7 SE
          obtain ⟨us2, g1, g2, g3⟩ := H8.out.2.swap.ofo
          rw [← HNS.out] at g2
          have GG := Lib.hid (And.intro g1 (And.intro g2 g3))
          clear g1 g2 g3
          generalize sealedF m (tl + (ns : Nat)) (tq + (k : Nat)) (frameB (FS.getD k [])) = L at *
          obtain ⟨ls, hls2⟩ : ∃ n, n = L.length := ⟨_, rfl⟩
          have HLS := Lib.hid hls2
          rw [← hls2] at hls SR ⊢
          clear hls2
          go_wp2_with (at_builtin; refine wpList_append_gen _ rfl _ _ 25 25 rfl (q + 1) 29 is _ 1 24 Try.underlying25 his hs0 hs1 hs2 rfl _ ns us2 rfl GG.out.2.1 _ ls cs8 rfl SR.out.2.1 ?c4 ?c5 ?c6 ?_)
          case c4 => unfold maxLen; omega
          case c5 => omega
          case c6 => have := Q7.out; have := Q8.out; omega
          intro v9 w9 ho9 hk9 hn9
          obtain ⟨A9, d9, rfl⟩ : ∃ A d, v9 = .slice A (ns + ls) d := by
            obtain ⟨A, d, e, _⟩ := ho9.form
            exact ⟨A, d, e⟩
          have H9 := Lib.hid (show GrSt w w9 (.int .i64 c.log) (.int .i64 c.pages) (.int .i64 c.ents) (.int .i64 c.gens) (.slice Au nu cu) q (.slice A2 n2 d2) R0 tl te tq ∧ Tw (q + 1) w9 (.slice A7 (k + 1) d7) (.slice A9 (ns + ls) d9) (rcs FS k ++ [frameB (FS.getD k [])]) (secsF m tl tq (rcs FS k) ++ L) from
            ⟨H8.out.1.keep_ hk9 (fun x e => (OV.out x e).1),
             (H8.out.2.swap.push (us := us2) (cs := cs8) GG.out.1 GG.out.2.2 (by rw [← HLS.out]; exact SR.out.1) (fun i x q' hx hq => By.mono (SR.out.2.2 i x q' hx hq) (fun b _ h => ⟨⟨by have := Q7.out; omega, fun e => by have := (OU.out b e).2; omega⟩, fun e => by have := (OV.out b e).2; omega⟩)) (by rw [← HNS.out, ← HLS.out]; exact ho9) hk9 hn9).swap⟩)
          clear ho9 hk9 hn9 GG SR H8 OU OV Q7 Q8
          go_wp2
          go_roundw
          case rel => exact ⟨k + 1, by omega, by go_num, Lib.hid ⟨H9.out.1, by rw [SNK.out, RNK.out]; exact H9.out.2, OK3.out⟩⟩
          case measure => simp [intOf]; omega
        · have h00 : (ck != 0) = true := by simpa using h0
          clear h0
          go_wp2_with fail
          with_reducible refine (LIV.out _).mono ?_
          rintro e w5 ⟨rfl, hb5⟩
          go_wp2
          go_ret
          exact ⟨rfl, (H4.out.1.k.below hb5).2⟩
      · obtain rfl : k = nF := by omega
        have f1 : ¬ (k : Int) < (k : Int) := by omega
        have hright := PLN.out.1
        obtain ⟨c0, c1, c2, c3, c4, cf⟩ := cells5 hst.out.1.k.1
        obtain ⟨r0, r1, r2, r3, rf⟩ := cells4 hst.out.1.box
        have RM := Lib.hid (fun W (hk : Keep (fun _ => False) w W) => rroom_any c (.slice Au nu cu) (fun _ => True) hd tl W (UU.out.1.same hk) (fun s hs => Nat.le_trans (NMS.out s hs) (by decide)) hright a1 a2 m1 b2 (by omega))
        have LA := Lib.hid (fun W (hk : Keep (fun _ => False) w W) vS (hS : Bys W (fun _ => True) vS (secsF m tl tq (rcs FS k))) => rlaid_any c (.slice Au nu cu) (fun _ => True) l (.slice A nl cap) (fun _ => True) tl (secsF m tl tq (rcs FS k)) vS (fun _ => True) T AT dT (fun _ => True) W (UU.out.1.same hk) (UU.out.2.1.keep hk (fun _ _ _ h => h)) hS (by have := UU.out.2.2.2.2.1.keep hk (fun _ _ _ h => h); rwa [HN.out.2.1] at this) UU.out.2.2.2.2.2.1 hright PLN.out.2.1 PLN.out.2.2 (secs_512 _ _ _ _) (by omega) (by rw [← HNS.out]; omega))
        unfold confV at RM LA
        rw [← HN.out.2.1, ← HN.out.2.2.1] at LA
        clear hright
        have hoks := hst.out.2.2
        rw [HN.out.1] at hoks
        have HOK := Lib.hid hoks
        clear hoks
        go_wp2_with fail
        with_reducible refine (RM.out _ hst.out.1.keep).mono ?_
        rintro e w3 ⟨rfl, hb3⟩
        have H3 := Lib.hid (And.intro (hst.out.1.to hb3) (hst.out.2.1.same (Keep.of_below' hb3)))
        clear hb3 hst c0 c1 c2 c3 c4 cf r0 r1 r2 r3 rf RM
        by_cases k4 : hd + c.log - tl < (ns : Int)
        · go_wp2_with fail
          with_reducible refine (LIV.out _).mono ?_
          rintro e w2 ⟨rfl, hb2⟩
          go_wp2
          go_ret
          exact ⟨rfl, (H3.out.1.k.below hb2).2⟩
        obtain ⟨c0, c1, c2, c3, c4, cf⟩ := cells5 H3.out.1.k.1
        obtain ⟨r0, r1, r2, r3, rf⟩ := cells4 H3.out.1.box
        have PG := Lib.hid (show _ from grows (c := c) (l := l) (hd := hd) (ep := ep) (sq := sq) (m := m) (R := rcs FS FS.length) (T := T) PLN.out.1 PLN.out.2.1 PLN.out.2.2 (fun s hs => by have := (top_all l).2 s hs; rw [← HTP.out] at this; omega) (by omega) a1 (by omega) a3 (by rw [rcs_len (Nat.le_refl _), ← HN.out.1]; omega) (oks_all HOK.out UU.out.2.2.2.1) (by rw [← HT.out]; show te ≤ m; omega) (by rw [← HT.out]; show ((secsF m tl tq (rcs FS FS.length)).length : Int) ≤ hd + c.log - tl; rw [← HN.out.1, ← HNS.out]; omega))
        rw [← HT.out, ← HN.out.1] at PG
        simp only at PG
        have L5 := Lib.hid (laid512 (c := c) (lsn := tl) (T := T) PLN.out.2.2 (secs_512 m (rcs FS k) tl tq) _ (Nat.le_refl (secsF m tl tq (rcs FS k)).length))
        have LG := Lib.hid (laidTo_len c l tl (secsF m tl tq (rcs FS k)) T (secsF m tl tq (rcs FS k)).length)
        have CK := Lib.hid (cameN_le c (laidF c l tl (secsF m tl tq (rcs FS k)) T) m (rcs FS k) tl tq)
        rw [LN.out k (Nat.le_refl _)] at CK
        change Hid (∀ s ∈ laidF c l tl (secsF m tl tq (rcs FS k)) T, s.length = 512) at L5
        change Hid ((laidF c l tl (secsF m tl tq (rcs FS k)) T).length = l.length) at LG
        go_wp2_with fail
        with_reducible refine (LA.out _ H3.out.1.keep _ H3.out.2.snd).mono ?_
        rintro e w4 ⟨A4, d4, rfl, hn4, hb4⟩
        have H4 := Lib.hid (And.intro (H3.out.1.to hb4) (And.intro (H3.out.2.same (Keep.of_below' hb4)) hn4.bys))
        clear hb4 H3 c0 c1 c2 c3 c4 cf r0 r1 r2 r3 rf LA
        clear hn4
        generalize laidF c l tl (secsF m tl tq (rcs FS k)) T = gr at *
        have CMC := Lib.hid (fun W (hk : Keep (fun _ => False) w W) vG vR (hG : Bys W (fun _ => True) vG gr) (hR : Bys W (fun _ => True) vR (rcs FS k)) => rcame_any c (.slice Au nu cu) (fun _ => True) gr vG (fun _ => True) m tl tq (rcs FS k) vR (fun _ => True) W (UU.out.1.same hk) hG hR (by rw [LG.out]; exact PLN.out.2.1) g1 (by omega) (by rw [← HNS.out]; omega) (by omega) (by omega) (by rw [LN.out k (Nat.le_refl _)]; omega) (by have := rcs_bytes HOK.out; rwa [← HN.out.1] at this))
        have SCG := Lib.hid (fun W (hk : Keep (fun _ => False) w W) vG (hG : Bys W (fun _ => True) vG gr) => scan_any c (.slice Au nu cu) (fun _ => True) gr vG (fun _ => True) hd ep sq W (UU.out.1.same hk) hG (fun s hs => by rw [L5.out s hs]; decide) UU.out.2.2.2.2.2.2)
        unfold ScanP confV at SCG
        unfold confV at CMC
        obtain ⟨t2, ht2⟩ : ∃ t, t = scanF c gr hd ep sq := ⟨_, rfl⟩
        rw [← ht2] at PG SCG
        clear ht2
        obtain ⟨R1, gl, ge, gq⟩ := t2
        simp only at PG SCG
        generalize cameN c gr m tl tq (rcs FS k) = kk at *
        obtain ⟨pg1, pg2, pg3⟩ := PG.out
        subst pg1 pg2
        have hkk : kk ≤ k := CK.out
        have P3 := Lib.hid pg3
        clear pg3 PG L5 LG CK
        obtain ⟨n6, hn6⟩ : ∃ n, n = (R0 ++ (rcs FS k).take kk).length := ⟨_, rfl⟩
        have HN6 := Lib.hid hn6
        clear hn6
        obtain ⟨c0, c1, c2, c3, c4, cf⟩ := cells5 H4.out.1.k.1
        obtain ⟨r0, r1, r2, r3, rf⟩ := cells4 H4.out.1.box
        go_wp2_with fail
        with_reducible refine (CMC.out _ H4.out.1.keep _ _ H4.out.2.2 H4.out.2.1.fst).mono ?_
        rintro e w5 ⟨rfl, hb5⟩
        have H5 := Lib.hid (And.intro (H4.out.1.to hb5) (And.intro (H4.out.2.1.same (Keep.of_below' hb5)) (H4.out.2.2.keep (Keep.of_below' hb5) (fun _ _ _ h => h))))
        clear hb5 H4 CMC c0 c1 c2 c3 c4 cf r0 r1 r2 r3 rf
        obtain ⟨c0, c1, c2, c3, c4, cf⟩ := cells5 H5.out.1.k.1
        go_wp2_with fail
        with_reducible refine (SCG.out _ H5.out.1.keep _ H5.out.2.2).mono ?_
        rintro e w6 ⟨v6, rfl, hr6, hb6⟩
        obtain ⟨A6, d6, rfl⟩ : ∃ A d, v6 = .slice A n6 d := by
          obtain ⟨A, d, e, -⟩ := hr6.form
          exact ⟨A, d, by rw [e, HN6.out]⟩
        have H6 := Lib.hid (And.intro (H5.out.1.to hb6) (And.intro (H5.out.2.1.same (Keep.of_below' hb6)) hr6))
        clear hr6 hb6 H5 SCG c0 c1 c2 c3 c4 cf
        go_upto_region 21 with fail
        refine wp_world (S := fun X => GrSt w X (.int .i64 c.log) (.int .i64 c.pages) (.int .i64 c.ents) (.int .i64 c.gens) (.slice Au nu cu) q (.slice A2 n2 d2) R0 tl te tq ∧ Bys X (fun _ => True) (.slice Ar k cr) (rcs FS k) ∧ X.heap[w6.heap.size]? = some (.cells #[.slice A6 n6 d6, .int .i64 gl, .int .i64 ge, .int .i64 (tq + (kk : Nat))] 44 (0, 0)) ∧ Bys X (fun _ => True) (.slice A6 n6 d6) (R0 ++ (rcs FS k).take kk)) ⟨H6.out.1.to ((Below.refl _ w6).alloc (Nat.le_refl _) _), H6.out.2.1.fst.keep ((Keep.refl (fun _ => False) w6).alloc _) (fun _ _ _ h => h), heap_alloc_new w6 _, (H6.out.2.2.mono (fun _ _ _ => trivial)).keep ((Keep.refl (fun _ => False) w6).alloc _) (fun _ _ _ h => h)⟩ ?_
        rintro Z ⟨z1, z2, z3, z4⟩
        have HZ := Lib.hid (And.intro z1 (And.intro z2 (And.intro z3 z4)))
        clear z1 z2 z3 z4 H6
        generalize w6.heap.size = q6 at *
        have RL := Lib.hid (show R0.length = n2 from HN2.out.symm)
        obtain ⟨cs0, e01, e02, e03⟩ := HZ.out.1.recs.srcK (Nat.le_refl n2)
        rw [List.take_of_length_le (by rw [RL.out]; exact Nat.le_refl _)] at e01 e03
        obtain ⟨csr, e11, e12, e13⟩ := HZ.out.2.1.srcK hkk
        have E0 := Lib.hid (And.intro e01 (And.intro e02 e03))
        have E1 := Lib.hid (And.intro e11 (And.intro e12 e13))
        clear e01 e02 e03 e11 e12 e13
        have TK := Lib.hid (show ((rcs FS k).take kk).length = kk by rw [List.length_take, LN.out k (Nat.le_refl _)]; omega)
        have SM := Lib.hid (fun W x (hx : Bys W (fun _ => True) x (R0 ++ (rcs FS k).take kk)) (hk : Keep (fun _ => False) Z W) => show Calls Try.prog 29 #[.slice A6 n6 d6, x] W fun e w' => e = .returned (.bool true) ∧ Keep (fun _ => False) W w' from by have := rsame17 _ _ _ x (fun _ => True) (fun _ => True) W (HZ.out.2.2.2.keep hk (fun _ _ _ h => h)) hx; rwa [decide_eq_true rfl] at this)
        have e9 : IntKind.i64.wrap (tq + (kk : Int)) = tq + (kk : Int) := IntWalk.i64_in _ (by omega)
        have kk1 : (kk : Int) ≤ (k : Int) := by omega
        have kk0 : (0 : Int) ≤ (kk : Int) := by omega
        have CE := Lib.hid (show ∀ W', Keep (fun _ => False) Z W' → W'.cell? ⟨q, 0, none⟩ = some (.slice A2 n2 d2) ∧ W'.cell? ⟨q, 3, none⟩ = some (.int .i64 tq) ∧ W'.cell? ⟨q6, 0, none⟩ = some (.slice A6 n6 d6) ∧ W'.cell? ⟨q6, 3, none⟩ = some (.int .i64 (tq + (kk : Nat))) ∧ Keep (fun _ => False) Z W' from fun W' hk => by
          obtain ⟨a0, -, -, a3, -⟩ := cells4 HZ.out.1.box
          obtain ⟨b0, -, -, b3, -⟩ := cells4 HZ.out.2.2.1
          exact ⟨hk.cell (fun h => h) a0, hk.cell (fun h => h) a3, hk.cell (fun h => h) b0, hk.cell (fun h => h) b3, hk⟩)
        have crl : (kk : Int) ≤ (cr : Int) := by
          obtain ⟨A', c', e', hle, -⟩ := HZ.out.2.1.form
          injection e' with _ e2' e3'
          omega
        have n2l : n2 ≤ 1000000 := Nat.le_trans m5h.out (by decide)
        go_cut [184] (fun s wx => s = .bool false ∧ Keep (fun _ => False) Z wx)
        case first =>
          go_region_held3 (fun W' => W'.cell? ⟨q, 0, none⟩ = some (.slice A2 n2 d2) ∧ W'.cell? ⟨q, 3, none⟩ = some (.int .i64 tq) ∧ W'.cell? ⟨q6, 0, none⟩ = some (.slice A6 n6 d6) ∧ W'.cell? ⟨q6, 3, none⟩ = some (.int .i64 (tq + (kk : Nat))) ∧ Keep (fun _ => False) Z W') (exact CE.out _ (by exact (by repeat first | (with_reducible assumption) | (with_reducible exact Keep.refl _ _) | (with_reducible refine Keep.alloc ?_ _) | (with_reducible refine Keep.drew ?_) | (with_reducible refine Keep.drewN ?_ _) | (with_reducible refine Keep.setCell ?_ (.inl (by first | omega | (simp; done) | (simp; omega) | fail)) _)))) (first
            | ((refine step_append_gen _ (by rfl) _ _ 25 25 (by rfl) Z.heap.size 29 is _ 1 24 Try.underlying25 his hs0 hs1 hs2 rfl _ n2 cs0 (by rfl) (ho7.keep (S := fun _ => False) (by exact (by repeat first | (with_reducible assumption) | (with_reducible exact Keep.refl _ _) | (with_reducible refine Keep.alloc ?_ _) | (with_reducible refine Keep.drew ?_) | (with_reducible refine Keep.drewN ?_ _) | (with_reducible refine Keep.setCell ?_ (.inl (by first | omega | (simp; done) | (simp; omega) | fail)) _))) (fun _ _ h => h)) _ kk csr (by rfl) (E1.out.2.1 _ (by exact (by repeat first | (with_reducible assumption) | (with_reducible exact Keep.refl _ _) | (with_reducible refine Keep.alloc ?_ _) | (with_reducible refine Keep.drew ?_) | (with_reducible refine Keep.drewN ?_ _) | (with_reducible refine Keep.setCell ?_ (.inl (by first | omega | (simp; done) | (simp; omega) | fail)) _)))) (by unfold maxLen; omega) (by omega) (by have := hkz7.size; first | omega | (simp; done) | (simp; omega)) ?_); intro v8 w8 ho8 hk8 hn8; have hkz8 : Keep (fun _ => False) Z w8 := Keep.trans (T := fun k => ownB v7 = some k) (by exact (by repeat first | (with_reducible assumption) | (with_reducible exact Keep.refl _ _) | (with_reducible refine Keep.alloc ?_ _) | (with_reducible refine Keep.drew ?_) | (with_reducible refine Keep.drewN ?_ _) | (with_reducible refine Keep.setCell ?_ (.inl (by first | omega | (simp; done) | (simp; omega) | fail)) _))) hk8 (fun x hx e => by have := (ho7.ownB x e).1; omega); obtain ⟨A8, d8, rfl⟩ : ∃ A d, v8 = .slice A (n2 + kk) d := (by obtain ⟨A, d, e, _⟩ := ho8.form; exact ⟨A, d, e⟩); have hy8 := ho8.bys (L := R0 ++ (rcs FS k).take kk) (by rw [List.length_append, List.length_append, E0.out.1, E1.out.1]) (two_cells hkz8 E0.out.1 E0.out.2.2 E1.out.2.2))
            | ((refine step_append_gen _ (by rfl) _ _ 25 25 (by rfl) Z.heap.size 29 is _ 1 24 Try.underlying25 his hs0 hs1 hs2 rfl _ 0 [] (by rfl) (Own.none_ _ _ _ _ _) _ n2 cs0 (by rfl) (E0.out.2.1 _ (by exact (by repeat first | (with_reducible assumption) | (with_reducible exact Keep.refl _ _) | (with_reducible refine Keep.alloc ?_ _) | (with_reducible refine Keep.drew ?_) | (with_reducible refine Keep.drewN ?_ _) | (with_reducible refine Keep.setCell ?_ (.inl (by first | omega | (simp; done) | (simp; omega) | fail)) _)))) (by unfold maxLen; omega) (by omega) (by first | omega | (simp; done) | (simp; omega)) ?_); intro v7 w7 ho7 hk7 hn7; (try simp only [Nat.zero_add, List.nil_append] at ho7); have hkz7 : Keep (fun _ => False) Z w7 := Keep.trans (T := _) (by exact (by repeat first | (with_reducible assumption) | (with_reducible exact Keep.refl _ _) | (with_reducible refine Keep.alloc ?_ _) | (with_reducible refine Keep.drew ?_) | (with_reducible refine Keep.drewN ?_ _) | (with_reducible refine Keep.setCell ?_ (.inl (by first | omega | (simp; done) | (simp; omega) | fail)) _))) hk7 (fun x _ e => by simp [ownB] at e))
            | (go_at_call 29; (with_reducible refine (SM.out _ _ (hy8.keep (S := fun _ => False) (by exact (by repeat first | (with_reducible assumption) | (with_reducible exact Keep.refl _ _) | (with_reducible refine Keep.alloc ?_ _) | (with_reducible refine Keep.drew ?_) | (with_reducible refine Keep.drewN ?_ _) | (with_reducible refine Keep.setCell ?_ (.inl (by first | omega | (simp; done) | (simp; omega) | fail)) _))) (fun _ _ _ h => h)) (by exact (by repeat first | (with_reducible assumption) | (with_reducible exact Keep.refl _ _) | (with_reducible refine Keep.alloc ?_ _) | (with_reducible refine Keep.drew ?_) | (with_reducible refine Keep.drewN ?_ _) | (with_reducible refine Keep.setCell ?_ (.inl (by first | omega | (simp; done) | (simp; omega) | fail)) _)))).mono ?_); rintro e w9 ⟨rfl, hk9⟩; have hkz9 : Keep (fun _ => False) Z w9 := Keep.trans (T := fun _ => False) (by exact (by repeat first | (with_reducible assumption) | (with_reducible exact Keep.refl _ _) | (with_reducible refine Keep.alloc ?_ _) | (with_reducible refine Keep.drew ?_) | (with_reducible refine Keep.drewN ?_ _) | (with_reducible refine Keep.setCell ?_ (.inl (by first | omega | (simp; done) | (simp; omega) | fail)) _))) hk9 (fun _ _ h => h))
            | fail)
          go_wp2_with fail
          go_meet
          exact ⟨rfl, by assumption⟩
        case rest =>
          obtain ⟨rfl, hkc⟩ := hcut
          have HC := Lib.hid hkc
          obtain ⟨b0, b1', b2', b3', bf⟩ := cells4 ((hkc.block _ (Array.getElem?_eq_some_iff.1 HZ.out.2.2.1).1 (fun h => h)).trans HZ.out.2.2.1)
          have HB := Lib.hid (show Below w.heap.size w wc from HZ.out.1.k.2.trans (hkc.to_below'.mono HZ.out.1.k.2.size))
          clear hkc CE SM E0 E1 HZ
          by_cases k0 : kk = 0
          · subst k0
            go_wp2_with fail
            with_reducible refine (LIV.out _).mono ?_
            rintro e w9 ⟨rfl, hb9⟩
            go_wp2
            go_ret
            exact ⟨rfl, HB.out.trans (hb9.mono HB.out.size)⟩
          · have k0z : ¬ (kk : Int) = 0 := by omega
            have k0b : ((kk : Int) == 0) = false := by simp [k0]
            obtain rfl : ge = (m : Int) := P3.out.resolve_left k0
            go_wp2_with fail
            with_reducible refine (LIV.out _).mono ?_
            rintro e w9 ⟨rfl, hb9⟩
            go_wp2
            go_ret
            exact ⟨rfl, HB.out.trans (hb9.mono HB.out.size)⟩
end Go.Proofs.Ytfjgbnnjfapcmaa

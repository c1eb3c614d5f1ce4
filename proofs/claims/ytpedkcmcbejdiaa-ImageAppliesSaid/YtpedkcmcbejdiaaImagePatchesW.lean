/- The walks of vivariumlaw38.ImagePatches and ImageApplies: they return true, old memory unchanged. -/
import Derived.Test.YtpedkcmcbejdiaaImgN
import Derived.Test.YtpedkcmcbejdiaaSame
import Derived.Test.YtpedkcmcbejdiaaImagePutsW
namespace Go.Proofs.Ytpedkcmcbejdiaa
open Go.RowKit
set_option maxRecDepth 100000
set_option linter.unusedVariables false
set_option linter.unusedSimpArgs false

theorem patchB_len {A B : List (List UInt8)} (h5 : ∀ r ∈ B, r.length = 512) (hA : A.length ≤ 4096) (hB : B.length ≤ 4096) : (patchB A B).length ≤ 16777216 := by
  have h1 := entsF_len h5 (unl A B)
  have h2 := unlT_len A B (max A.length B.length)
  unfold patchB
  rw [List.length_append, leB_len]
  unfold unl at h1 ⊢
  omega
theorem appL_len {p : List UInt8} {n : Nat} : ∀ (f k : Nat) (z : Int) (out : List UInt8), out.length = 512 * n → (appL f p k n z out).1 = 0 → (appL f p k n z out).2.length = 512 * n
  | 0, _, _, _, h, _ => h
  | f + 1, k, z, out, h, he => by
    unfold appL at he ⊢
    split
    · exact h
    · rename_i h1
      rw [if_neg h1] at he
      split
      · rename_i h2; rw [if_pos h2] at he; cases he
      · rename_i h2
        rw [if_neg h2] at he
        split
        · rename_i h3; rw [if_pos h3] at he; cases he
        · rename_i h3
          rw [if_neg h3] at he
          exact appL_len f _ _ _ (setAt_len h (piece_len _ _ _ (by omega)) (by omega)) he
theorem appI_ok {a p : List UInt8} (h : (appI a p).1 = 0) : wholeB (appI a p).2 = (appI a p).2 ∧ (appI a p).2.length ≤ 2097152 := by
  have key : (appI a p).2.length % 512 = 0 ∧ (appI a p).2.length ≤ 2097152 := by
    unfold appI at h ⊢
    split
    · rename_i h1; rw [if_pos h1] at h; cases h
    · rename_i h1
      rw [if_neg h1] at h
      split
      · rename_i h2; rw [if_pos h2] at h; cases h
      · rename_i h2
        rw [if_neg h2] at h
        have := appL_len p.length 2 (-1) _ (cutB_len _ _) h
        rw [this]; omega
  exact ⟨wholeB_of key.1, key.2⟩
set_option maxHeartbeats 8000000 in
theorem imagePatches_walk (a b : List UInt8) (u v : Value) (w : World) (ha : By w (fun _ => True) u a) (hb : By w (fun _ => True) v b) :
    Calls Try.prog 6 #[u, v] w fun e w' => e = .returned (.bool true) ∧ Below w.heap.size w w' := by
  have LV := Lib.hid (fun W => live38 W)
  have ha0 := ha
  have hb0 := hb
  obtain ⟨A1, c1, rfl, -, -⟩ := ha
  obtain ⟨A2, c2, rfl, -, -⟩ := hb
  by_cases big1 : 6000 < a.length
  · have h1 : (6000 : Int) < (a.length : Int) := by omega
    generalize a.length = n at *
    generalize b.length = n' at *
    clear ha0 hb0
    go_enter Try.func6, Try.ntmps6
    go_wp2_with fail
    refine (LV.out _).mono ?_
    rintro e w2 ⟨rfl, hb2⟩
    go_wp2
    go_ret
    exact ⟨rfl, hb2⟩
  by_cases big2 : 6000 < b.length
  · have h1 : ¬ (6000 : Int) < (a.length : Int) := by omega
    have h2 : (6000 : Int) < (b.length : Int) := by omega
    generalize a.length = n at *
    generalize b.length = n' at *
    clear ha0 hb0
    go_enter Try.func6, Try.ntmps6
    go_wp2_with fail
    refine (LV.out _).mono ?_
    rintro e w2 ⟨rfl, hb2⟩
    go_wp2
    go_ret
    exact ⟨rfl, hb2⟩
  have h1 : ¬ (6000 : Int) < (a.length : Int) := by omega
  have h2 : ¬ (6000 : Int) < (b.length : Int) := by omega
  have hna : a.length / 512 ≤ 4096 := by omega
  have hnb : b.length / 512 ≤ 4096 := by omega
  have OA := Lib.hid (dof_any a _ _ w ha0 hna)
  have OB := Lib.hid (fun W (hk : Keep (fun _ => False) w W) => dof_any b _ _ W (hb0.keep hk (fun _ _ _ h => h)) hnb)
  have SLA := Lib.hid (secs_len a)
  have SLB := Lib.hid (secs_len b)
  have GE := Lib.hid (show appI (secs a).flatten (patchB (secs a) (secs b)) = (0, wholeB b) by rw [appI_patch (secs_512 a) (secs_512 b) (by rw [secs_len]; exact hnb), flat_secs])
  have SWA := Lib.hid (secs_whole a)
  have SWB := Lib.hid (secs_whole b)
  have FS := Lib.hid (flat_secs b)
  have PL := Lib.hid (patchB_len (A := secs a) (B := secs b) (secs_512 b) (by rw [secs_len]; exact hna) (by rw [secs_len]; exact hnb))
  have WA := Lib.hid (fun W (hk : Keep (fun _ => False) w W) => show Calls Try.prog 11 #[.slice A1 a.length c1] W fun e w' => ∃ A' n' c', e = .returned (.slice A' n' c') ∧ By W (fun _ => True) (.slice A' n' c') (wholeB a) ∧ W = w' from (rwhole_any a _ _ W (ha0.keep hk (fun _ _ _ h => h)) hna).mono fun e w' ⟨A', c', e1, e2, e3⟩ => ⟨A', _, c', e1, e2, e3⟩)
  have WB := Lib.hid (fun W (hk : Keep (fun _ => False) w W) => show Calls Try.prog 11 #[.slice A2 b.length c2] W fun e w' => ∃ A' n' c', e = .returned (.slice A' n' c') ∧ By W (fun _ => True) (.slice A' n' c') (wholeB b) ∧ W = w' from (rwhole_any b _ _ W (hb0.keep hk (fun _ _ _ h => h)) hnb).mono fun e w' ⟨A', c', e1, e2, e3⟩ => ⟨A', _, c', e1, e2, e3⟩)
  have LA := Lib.hid (show (wholeB a).length / 512 ≤ 4096 by rw [wholeB_len]; omega)
  have LB := Lib.hid (show (wholeB b).length / 512 ≤ 4096 by rw [wholeB_len]; omega)
  have SM := Lib.hid (fun W (l : List UInt8) u v G1 G2 (h1 : By W G1 u l) (h2 : By W G2 v l) => show Calls Try.prog 13 #[u, v] W fun e w' => e = .returned (.bool true) ∧ W = w' from by have := same_any l l u v G1 G2 W h1 h2; rwa [decide_eq_true rfl] at this)
  have SL := Lib.hid (fun W (l : List Int) A B n c d F1 F2 (h1 : Sl W F1 1 (.slice A n c) n (iv l)) (h2 : Sl W F2 1 (.slice B n d) n (iv l)) (hn : n ≤ 4611686018427387904) => show Calls Try.prog 21 #[.slice A n c, .slice B n d] W fun e w' => e = .returned (.bool true) ∧ Keep (fun _ => False) W w' from by
    obtain ⟨A', c', e, _, _, _, r1⟩ := h1
    injection e with e1 e2 e3
    subst e1
    obtain ⟨B', d', e, _, _, _, r2⟩ := h2
    injection e with e1 e2 e3
    subst e1
    rw [Nat.mul_one] at r1 r2
    have := sameList_any l l A B n n c d F1 F2 W r1 r2 hn hn
    rw [decide_eq_true rfl] at this
    exact this.mono fun e w' ⟨e1, k, e2⟩ => ⟨e1, by rw [e2]; exact (Keep.refl _ W).drewN k⟩)
  have UM := Lib.hid (show (unl (secs a) (secs b)).length ≤ 4611686018427387904 from by
    have := unlT_len (secs a) (secs b) (max (secs a).length (secs b).length)
    rw [secs_len, secs_len] at this
    unfold unl
    rw [secs_len, secs_len]
    omega)
  have HNA := hna
  clear ha0 hb0 big1 big2
  generalize a.length = na at *
  generalize b.length = nb at *
  go_enter Try.func6, Try.ntmps6
  go_wp2_with fail
  with_reducible refine OA.out.mono ?_
  rintro e w1 ⟨p1, g1, u1, rfl, hd⟩
  have H1 := Lib.hid (And.intro hd.dk hd.below)
  clear hd OA
  go_wp2_with fail
  with_reducible refine (OB.out _ (Keep.of_below' H1.out.2)).mono ?_
  rintro e w2 ⟨p2, g2, u2, rfl, hd⟩
  have H2 := Lib.hid (And.intro (H1.out.1.same (Keep.of_below' hd.below)) (And.intro hd.dk (show Below w.heap.size w w2 from H1.out.2.trans (hd.below.mono H1.out.2.size))))
  clear hd OB H1
  have PA := Lib.hid (ipatch_any _ _ _ _ _ _ w2 H2.out.1 H2.out.2.1 (by rw [SLA.out]; omega) (by rw [SLB.out]; omega))
  go_wp2_with fail
  with_reducible refine PA.out.mono ?_
  rintro e w3 ⟨A3, n3, c3, rfl, ho3, hb3⟩
  have H3 := Lib.hid (And.intro (H2.out.1.same (Keep.of_below' hb3)) (And.intro (H2.out.2.1.same (Keep.of_below' hb3)) (And.intro ho3.by_ (show Below w.heap.size w w3 from H2.out.2.2.trans (hb3.mono H2.out.2.2.size)))))
  clear ho3 hb3 PA H2
  have AP := Lib.hid (iapply_any _ _ _ _ _ _ w3 H3.out.1 (by simp) (by rw [SLA.out]; omega) H3.out.2.2.1 PL.out)
  rw [GE.out, SWB.out] at AP
  go_wp2_with fail
  with_reducible refine AP.out.mono ?_
  rintro e w4 ⟨d, rfl, hd, hdn, hb4⟩
  obtain ⟨pd, rfl⟩ := hd.some_ (by intro e; exact (hdn.1 e) rfl)
  have H4 := Lib.hid (And.intro (H3.out.1.same (Keep.of_below' hb4)) (And.intro (H3.out.2.1.same (Keep.of_below' hb4)) (And.intro (H3.out.2.2.1.keep (Keep.of_below' hb4) (fun _ _ _ h => h)) (And.intro hd (show Below w.heap.size w w4 from H3.out.2.2.2.trans (hb4.mono H3.out.2.2.2.size))))))
  clear hd hdn hb4 AP H3
  have UN := Lib.hid (unlike_any _ _ _ _ _ _ w4 H4.out.1 H4.out.2.1 (by rw [SLA.out]; omega) (by rw [SLB.out]; omega))
  go_wp2_with fail
  with_reducible refine UN.out.mono ?_
  rintro e w5 ⟨A5, c5, rfl, ho5, hb5⟩
  have H5 := Lib.hid (And.intro ho5.sl (And.intro (H4.out.2.2.1.keep (Keep.of_below' hb5) (fun _ _ _ h => h)) (And.intro (H4.out.2.2.2.1.same (Keep.of_below' hb5)) (show Below w.heap.size w w5 from H4.out.2.2.2.2.trans (hb5.mono H4.out.2.2.2.2.size)))))
  clear ho5 hb5 UN H4
  have hk5 := Keep.of_below' H5.out.2.2.2
  go_wp2_with fail
  with_reducible refine (WA.out _ hk5).mono ?_
  rintro e w6 ⟨A6, n6, c6, rfl, hy6, rfl⟩
  have Y6 := Lib.hid hy6
  clear hy6
  go_wp2_with fail
  with_reducible refine (WB.out _ hk5).mono ?_
  rintro e w6 ⟨A7, n7, c7, rfl, hy7, rfl⟩
  have RU := Lib.hid (runlike_any _ _ _ _ _ _ w5 Y6.out hy7 LA.out LB.out)
  rw [SWA.out, SWB.out] at RU
  clear hy7 Y6
  go_wp2_with fail
  with_reducible refine RU.out.mono ?_
  rintro e w8 ⟨A8, c8, rfl, ho8, hb8⟩
  have H8 := Lib.hid (And.intro (H5.out.2.1.keep (Keep.of_below' hb8) (fun _ _ _ h => h)) (And.intro (H5.out.2.2.1.same (Keep.of_below' hb8)) (show Below w.heap.size w w8 from H5.out.2.2.2.trans (hb8.mono H5.out.2.2.2.size))))
  have SLI := Lib.hid (SL.out w8 _ _ _ _ _ _ _ _ (H5.out.1.keep (Keep.of_below' hb8) (fun _ _ _ h => h)) ho8.sl UM.out)
  clear ho8 hb8 RU H5 hk5
  go_wp2_with fail
  with_reducible refine SLI.out.mono ?_
  rintro e w9 ⟨rfl, hk9⟩
  have H9 := Lib.hid (And.intro (H8.out.1.keep hk9 (fun _ _ _ h => h)) (And.intro (H8.out.2.1.same hk9) (show Below w.heap.size w w9 from H8.out.2.2.trans (hk9.to_below'.mono H8.out.2.2.size))))
  clear hk9 H8 SLI
  have hk9 := Keep.of_below' H9.out.2.2
  go_wp2_with fail
  with_reducible refine (WA.out _ hk9).mono ?_
  rintro e wa ⟨Aa, na', ca, rfl, hya, rfl⟩
  have Ya := Lib.hid hya
  clear hya
  go_wp2_with fail
  with_reducible refine (WB.out _ hk9).mono ?_
  rintro e wa ⟨Ab, nb', cb, rfl, hyb, rfl⟩
  have RP := Lib.hid (rpatch_any _ _ _ _ _ _ w9 Ya.out hyb LA.out LB.out)
  rw [SWA.out, SWB.out] at RP
  clear hyb Ya
  go_wp2_with fail
  with_reducible refine RP.out.mono ?_
  rintro e wc ⟨Ac, nc, cc, rfl, hoc, hbc⟩
  have Hc := Lib.hid (And.intro (H9.out.2.1.same (Keep.of_below' hbc)) (show Below w.heap.size w wc from H9.out.2.2.trans (hbc.mono H9.out.2.2.size)))
  have Sc := Lib.hid (SM.out wc _ _ _ _ _ (H9.out.1.keep (Keep.of_below' hbc) (fun _ _ _ h => h)) hoc.by_)
  clear hoc hbc RP H9 hk9
  go_wp2_with fail
  with_reducible refine Sc.out.mono ?_
  rintro e wd ⟨rfl, rfl⟩
  go_wp2_with fail
  with_reducible refine (code38 _ _).mono ?_
  rintro e wd ⟨rfl, rfl⟩
  have DB := Lib.hid (dbytes_any _ _ _ _ Hc.out.1 (by rw [SLB.out]; omega))
  rw [FS.out] at DB
  clear Sc
  go_wp2_with fail
  with_reducible refine DB.out.mono ?_
  rintro e we ⟨Ae, ne, ce, rfl, hoe, hbe⟩
  have He := Lib.hid (And.intro hoe.by_ (show Below w.heap.size w we from Hc.out.2.trans (hbe.mono Hc.out.2.size)))
  clear hoe hbe DB Hc
  go_wp2_with fail
  with_reducible refine (WB.out _ (Keep.of_below' He.out.2)).mono ?_
  rintro e wf ⟨Af, nf, cf, rfl, hyf, rfl⟩
  have Sf := Lib.hid (SM.out _ _ _ _ _ _ He.out.1 hyf)
  clear hyf
  go_wp2_with fail
  with_reducible refine Sf.out.mono ?_
  rintro e wf ⟨rfl, rfl⟩
  go_wp2_with fail
  refine (LV.out _).mono ?_
  rintro e wg ⟨rfl, hbg⟩
  go_wp2
  go_ret
  exact ⟨rfl, He.out.2.trans (hbg.mono He.out.2.size)⟩
theorem unl_nil : unl [] [] = [] := rfl
set_option maxHeartbeats 8000000 in
theorem imageApplies_walk (a p : List UInt8) (u v : Value) (w : World) (ha : By w (fun _ => True) u a) (hp : By w (fun _ => True) v p) :
    Calls Try.prog 3 #[u, v] w fun e w' => e = .returned (.bool true) ∧ Below w.heap.size w w' := by
  have LV := Lib.hid (fun W => live38 W)
  have ha0 := ha
  have hp0 := hp
  obtain ⟨A1, c1, rfl, -, -⟩ := ha
  obtain ⟨A2, c2, rfl, -, -⟩ := hp
  by_cases big1 : 6000 < a.length
  · have h1 : (6000 : Int) < (a.length : Int) := by omega
    generalize a.length = n at *
    generalize p.length = n' at *
    clear ha0 hp0
    go_enter Try.func3, Try.ntmps3
    go_wp2_with fail
    refine (LV.out _).mono ?_
    rintro e w2 ⟨rfl, hb2⟩
    go_wp2
    go_ret
    exact ⟨rfl, hb2⟩
  by_cases big2 : 6000 < p.length
  · have h1 : ¬ (6000 : Int) < (a.length : Int) := by omega
    have h2 : (6000 : Int) < (p.length : Int) := by omega
    generalize a.length = n at *
    generalize p.length = n' at *
    clear ha0 hp0
    go_enter Try.func3, Try.ntmps3
    go_wp2_with fail
    refine (LV.out _).mono ?_
    rintro e w2 ⟨rfl, hb2⟩
    go_wp2
    go_ret
    exact ⟨rfl, hb2⟩
  have h1 : ¬ (6000 : Int) < (a.length : Int) := by omega
  have h2 : ¬ (6000 : Int) < (p.length : Int) := by omega
  have hna : a.length / 512 ≤ 4096 := by omega
  have OA := Lib.hid (dof_any a _ _ w ha0 hna)
  have SLA := Lib.hid (secs_len a)
  have AP := Lib.hid (fun d F0 W (hk : Keep (fun _ => False) w W) (hd : Dk W F0 d (secs a)) (hdn : d ≠ .pointer none) => show Calls Try.prog 8 #[d, .slice A2 p.length c2] W fun e w' => ∃ d', e = .returned (.tuple #[d', .int .i64 (appI (wholeB a) p).1]) ∧ Dk w' (fun x => W.heap.size ≤ x) d' (secs (appI (wholeB a) p).2) ∧ (d' = .pointer none ↔ (appI (wholeB a) p).1 ≠ 0) ∧ Below W.heap.size W w' from by
    have := iapply_any d (secs a) p _ F0 _ W hd hdn (by rw [secs_len]; omega) (hp0.keep hk (fun _ _ _ h => h)) (by omega)
    rwa [flat_secs] at this)
  have WA := Lib.hid (fun W (hk : Keep (fun _ => False) w W) => show Calls Try.prog 11 #[.slice A1 a.length c1] W fun e w' => ∃ A' n' c', e = .returned (.slice A' n' c') ∧ By W (fun _ => True) (.slice A' n' c') (wholeB a) ∧ W = w' from (rwhole_any a _ _ W (ha0.keep hk (fun _ _ _ h => h)) hna).mono fun e w' ⟨A', c', e1, e2, e3⟩ => ⟨A', _, c', e1, e2, e3⟩)
  have RA := Lib.hid (fun W u F (hk : Keep (fun _ => False) w W) (hu : By W F u (wholeB a)) => rapply_any (wholeB a) p u _ F _ W hu (hp0.keep hk (fun _ _ _ h => h)) (by rw [wholeB_len]; omega) (by omega))
  have AN := Lib.hid (fun W (hk : Keep (fun _ => False) w W) => iapply_nil p _ _ W (hp0.keep hk (fun _ _ _ h => h)))
  have OK := Lib.hid (@appI_ok (wholeB a) p)
  obtain ⟨er, x, hx⟩ : ∃ er x, appI (wholeB a) p = (er, x) := ⟨_, _, rfl⟩
  rw [hx] at AP RA OK
  have SM := Lib.hid (fun W (l : List UInt8) u v G1 G2 (h1 : By W G1 u l) (h2 : By W G2 v l) => show Calls Try.prog 13 #[u, v] W fun e w' => e = .returned (.bool true) ∧ W = w' from by have := same_any l l u v G1 G2 W h1 h2; rwa [decide_eq_true rfl] at this)
  clear ha0 hp0 big1 big2 hx
  generalize a.length = na at *
  generalize p.length = np at *
  go_enter Try.func3, Try.ntmps3
  go_wp2_with fail
  with_reducible refine OA.out.mono ?_
  rintro e w1 ⟨p1, g1, u1, rfl, hd⟩
  have AP1 := Lib.hid (AP.out _ _ w1 (Keep.of_below' hd.below) hd.dk (by simp))
  have HB1 := Lib.hid hd.below
  clear hd OA AP
  go_wp2_with fail
  with_reducible refine AP1.out.mono ?_
  rintro e w2 ⟨d, rfl, hd, hdn, hb2⟩
  have H2 := Lib.hid (And.intro hd (show Below w.heap.size w w2 from HB1.out.trans (hb2.mono HB1.out.size)))
  have HN := Lib.hid (show d = .pointer none ↔ er ≠ 0 from hdn)
  clear hd hdn hb2 AP1 HB1
  go_wp2_with fail
  with_reducible refine (WA.out _ (Keep.of_below' H2.out.2)).mono ?_
  rintro e w3 ⟨A3, n3, c3, rfl, hy3, rfl⟩
  have RA3 := Lib.hid (RA.out w2 _ _ (Keep.of_below' H2.out.2) hy3)
  clear hy3 RA
  go_wp2_with fail
  with_reducible refine RA3.out.mono ?_
  rintro e w4 ⟨A4, n4, c4, rfl, ho4, hb4⟩
  have H4 := Lib.hid (And.intro (H2.out.1.same (Keep.of_below' hb4)) (And.intro ho4.by_ (show Below w.heap.size w w4 from H2.out.2.trans (hb4.mono H2.out.2.size))))
  clear ho4 hb4 RA3 H2
  go_wp2_with fail
  with_reducible refine (AN.out _ (Keep.of_below' H4.out.2.2)).mono ?_
  rintro e w5 ⟨rfl, rfl⟩
  go_wp2_with fail
  with_reducible refine (code38 _ _).mono ?_
  rintro e w5 ⟨rfl, rfl⟩
  go_wp2_with fail
  with_reducible refine (code38 _ _).mono ?_
  rintro e w5 ⟨rfl, rfl⟩
  by_cases he : er = 0
  · subst he
    obtain ⟨pd, rfl⟩ := H4.out.1.some_ (fun e => (HN.out.1 e) rfl)
    obtain ⟨o2, o3⟩ := OK.out rfl
    have o4 : x.length ≤ 2097152 := o3
    have DB := Lib.hid (dbytes_any _ _ _ _ H4.out.1 (by rw [secs_len]; omega))
    rw [flat_secs, o2] at DB
    clear o2 o3 o4 OK
    try dsimp only at DB
    go_wp2_with fail
    with_reducible refine DB.out.mono ?_
    rintro e w6 ⟨A6, n6, c6, rfl, ho6, hb6⟩
    have S6 := Lib.hid (SM.out w6 _ _ _ _ _ ho6.by_ (H4.out.2.1.keep (Keep.of_below' hb6) (fun _ _ _ h => h)))
    have H6 := Lib.hid (show Below w.heap.size w w6 from H4.out.2.2.trans (hb6.mono H4.out.2.2.size))
    clear ho6 hb6 DB
    go_wp2_with fail
    with_reducible refine S6.out.mono ?_
    rintro e w7 ⟨rfl, rfl⟩
    have UN := Lib.hid (unlike_any _ _ [] [] (fun _ => True) (fun _ => True) w6 (Dk.nil _ _) (Dk.nil _ _) (by simp) (by simp))
    rw [unl_nil] at UN
    go_wp2_with fail
    refine UN.out.mono ?_
    rintro e w8 ⟨A8, c8, rfl, -, hb8⟩
    have H8 := Lib.hid (show Below w.heap.size w w8 from H6.out.trans (hb8.mono H6.out.size))
    clear hb8 UN S6
    go_wp2_with fail
    refine (LV.out _).mono ?_
    rintro e wa ⟨rfl, hba⟩
    go_wp2
    go_ret
    exact ⟨rfl, H8.out.trans (hba.mono H8.out.size)⟩
  · obtain rfl := HN.out.2 he
    have e1 : (er != 0) = true := by simpa using he
    clear he OK HN
    go_wp2_with fail
    refine (LV.out _).mono ?_
    rintro e wa ⟨rfl, hba⟩
    go_wp2
    go_ret
    exact ⟨rfl, H4.out.2.2.trans (hba.mono H4.out.2.2.size)⟩
end Go.Proofs.Ytpedkcmcbejdiaa

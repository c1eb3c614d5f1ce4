/- The walk of vivariumlaw13.CmdPuts: it returns true, old memory unchanged. -/
import Derived.Test.YtakchlaoimnnhaaCmdLv
import Derived.Test.YtakchlaoimnnhaaCmdB
import Derived.Test.YtakchlaoimnnhaaCmdX
import Derived.Test.YtakchlaoimnnhaaCmdW
import Derived.Test.YtakchlaoimnnhaaCmdV
import Derived.Deep.DeepCutAuto
import Derived.Deep.RegionHeld3
import Derived.OwnWalk
namespace Go.Proofs.Ytakchlaoimnnhaa
open Go.RowKit
set_option maxRecDepth 100000
set_option linter.unusedVariables false

theorem bytesC_len (x : Cmd) : (bytesC x).length ≤ x.l.length + 60 := by
  have he : ∀ loc, e0R loc ≤ 18 := by intro loc; cases loc <;> decide
  by_cases hk : knownC x.do_ = false
  · unfold bytesC
    rw [if_pos hk]
    simp
  have hd : x.do_ = 0 ∨ x.do_ = 1 ∨ x.do_ = 2 ∨ x.do_ = 3 := by
    have : 0 ≤ x.do_ ∧ x.do_ ≤ 3 := by
      by_cases h : 0 ≤ x.do_ ∧ x.do_ ≤ 3
      · exact h
      · exact absurd (decide_eq_false h) hk
    omega
  have := he x.loc
  rcases hd with hd | hd | hd | hd
  · unfold bytesC
    rw [if_neg hk, if_pos hd]
    simp [leB_len]
  · rw [bytesC_1 _ hd, headC_len]; omega
  · rw [bytesC_2 _ hd]
    simp only [List.length_append, headC_len, leB_len]
    omega
  · rw [bytesC_3 _ hd]
    simp only [List.length_append, headC_len, leB_len]
    omega
set_option maxHeartbeats 8000000 in
theorem cmdPuts_walk (b : List UInt8) (x : Cmd) (v u : Value) (F G : Nat → Prop) (w : World) (hv : By w F v b) (hu : By w G u x.l) (hr : rngC x) :
    Calls Try.prog 14 #[v, cmdV x u] w fun e w' => e = .returned (.bool true) ∧ Below w.heap.size w w' := by
  have hv0 := hv
  have hu0 := hu
  obtain ⟨A, c, rfl, hbc, hcm, -, -⟩ := hv
  obtain ⟨B, d, rfl, hbd, hdm, -, -⟩ := hu
  by_cases hbig : 300 < b.length ∨ 300 < x.l.length
  · clear hu0 hv0
    unfold cmdV
    generalize b.length = n at *
    generalize x.l.length = m at *
    by_cases h1 : 300 < n
    · clear hbig
      go_enter Try.func14, Try.ntmps14
      go_wp2_with (go_at_call 24; (with_reducible refine (live13 _).mono ?_); rintro e w4 ⟨rfl, hb4⟩)
      go_ret
      exact ⟨rfl, (show Below w.heap.size w _ from (by repeat first | exact Below.refl _ _ | refine Below.setCell ?_ (by first | omega | (simp; done) | (simp; omega)) _ | refine Below.alloc ?_ (by first | omega | (simp; done) | (simp; omega)) _ | refine Below.drew ?_ | refine below_drewN ?_ _ | assumption)).trans (hb4.mono (by simp))⟩
    · have h2 : 300 < m := by omega
      clear hbig
      go_enter Try.func14, Try.ntmps14
      go_wp2_with (go_at_call 24; (with_reducible refine (live13 _).mono ?_); rintro e w4 ⟨rfl, hb4⟩)
      go_ret
      exact ⟨rfl, (show Below w.heap.size w _ from (by repeat first | exact Below.refl _ _ | refine Below.setCell ?_ (by first | omega | (simp; done) | (simp; omega)) _ | refine Below.alloc ?_ (by first | omega | (simp; done) | (simp; omega)) _ | refine Below.drew ?_ | refine below_drewN ?_ _ | assumption)).trans (hb4.mono (by simp))⟩
  have hA : b.length ≤ 300 := by omega
  have hB : x.l.length ≤ 300 := by omega
  have hbl := bytesC_len x
  have LC := Lib.hid (show checkC x = 0 → getP (b ++ bytesC x) (b.length : Nat) = (plainC x, (((b ++ bytesC x).length : Nat) : Int), 0) from fun hc => by
    rw [getP_refP]
    unfold checkC at hc
    by_cases hk : knownC x.do_ = false
    · rw [if_pos hk] at hc; cases hc
    · rw [if_neg hk] at hc
      by_cases h64 : 64 < x.l.length
      · rw [if_pos h64] at hc; cases hc
      · exact refP_bytes (by simpa using hk) (by omega) hr)
  have PB := Lib.hid (fun W (hk : Keep (fun _ => False) w W) => cput_any x _ _ b F G W (hv0.keep hk (fun _ _ _ h => h)) (by omega) (hu0.keep hk (fun _ _ _ h => h)) (by omega))
  have HVB := Lib.hid (fun W (hk : Keep (fun _ => False) w W) => hv0.keep hk (fun _ _ _ h => h))
  have RBY := Lib.hid (fun W (hk : Keep (fun _ => False) w W) => rcbytes_any x _ G W (hu0.keep hk (fun _ _ _ h => h)) (by omega))
  have PP := Lib.hid (fun W (hk : Keep (fun _ => False) w W) => pplain_any x _ G W (hu0.keep hk (fun _ _ _ h => h)) (by omega))
  have RP := Lib.hid (fun W (hk : Keep (fun _ => False) w W) => rplain_any x _ G W (hu0.keep hk (fun _ _ _ h => h)))
  have CC := Lib.hid (fun W (hk : Keep (fun _ => False) w W) => ccheck_any x _ G W (hu0.keep hk (fun _ _ _ h => h)))
  have RC := Lib.hid (fun W (hk : Keep (fun _ => False) w W) => rcheck_any x _ G W (hu0.keep hk (fun _ _ _ h => h)))
  have CG := Lib.hid (fun W v (F2 : Nat → Prop) (h : By W F2 v (b ++ bytesC x)) => cget_any (b ++ bytesC x) v F2 (b.length : Nat) W h (by rw [List.length_append]; omega) (by omega) (by omega))
  have LS := Lib.hid (show ([] : List UInt8).length + b.length ≤ 140737488355328 ∧ b.length + (bytesC x).length ≤ 140737488355328 by simp; omega)
  clear hv0 hu0 hr hbl
  unfold cmdV at PB RBY PP RP CC RC ⊢
  generalize hcz : checkC x = cz at *
  generalize hnl : b.length = n at *
  generalize hml : x.l.length = m at *
  have NL := Lib.hid hnl
  clear hcz hnl hml
  go_enter Try.func14, Try.ntmps14
  go_wp2_with fail
  with_reducible refine (PB.out _ (by exact (by repeat first | exact Keep.refl _ _ | refine Keep.alloc ?_ _ | refine Keep.drew ?_ | refine Keep.drewN ?_ _))).mono ?_
  rintro e w1 ⟨A1, n1, c1, rfl, hy1, hb1⟩
  have NE := Lib.hid (show n1 = (b ++ bytesC x).length by obtain ⟨_, _, e, _⟩ := hy1; injection e)
  have H1 := Lib.hid (And.intro (hy1.mono (G := fun _ => True) (fun _ _ _ => trivial)) (And.intro (show Keep (fun _ => False) w w1 from Keep.trans (T := fun _ => False) (by repeat first | exact Keep.refl _ _ | refine Keep.alloc ?_ _ | refine Keep.drew ?_ | refine Keep.drewN ?_ _) (Keep.of_below' hb1) (fun _ _ h => h)) (show w1.heap[w.heap.size]? = some (.cells #[.int .i64 x.do_, .bool x.loc, .int .i64 x.idx, .int .i64 x.gen, .int .i64 x.comp, .slice B m d] 39 (0, 0)) from (hb1.block _ (by first | omega | (simp; done) | (simp; omega))).trans (by (try simp only [heap_drew']); (try simp only [World.heap_drewN]); repeat (first | exact heap_alloc_at _ _ _ (by first | rfl | simp) | rw [Below.heap_alloc _ _ _ (by first | (simp; done) | (simp; omega))])))))
  clear hy1 hb1
  obtain ⟨x0, x1, x2, x3, x4, x5, xf⟩ := cells6 H1.out.2.2
  go_upto_region 4 with fail
  have BX := Lib.hid (show ∀ W', Keep (fun _ => False) w1 W' → (W'.cell? ⟨w.heap.size, 0, none⟩ = some (.int .i64 x.do_) ∧ W'.cell? ⟨w.heap.size, 1, none⟩ = some (.bool x.loc) ∧ W'.cell? ⟨w.heap.size, 2, none⟩ = some (.int .i64 x.idx) ∧ W'.cell? ⟨w.heap.size, 3, none⟩ = some (.int .i64 x.gen) ∧ W'.cell? ⟨w.heap.size, 4, none⟩ = some (.int .i64 x.comp) ∧ W'.cell? ⟨w.heap.size, 5, none⟩ = some (.slice B m d) ∧ Keep (fun _ => False) w1 W') from fun W' hk =>
    ⟨hk.cell (fun h => h) x0, hk.cell (fun h => h) x1, hk.cell (fun h => h) x2, hk.cell (fun h => h) x3, hk.cell (fun h => h) x4, hk.cell (fun h => h) x5, hk⟩)
  have KW := Lib.hid (show ∀ W', Keep (fun _ => False) w1 W' → Keep (fun _ => False) w W' from fun W' hk => H1.out.2.1.trans hk (fun _ _ h => h))
  go_region_held3 (fun W' => W'.cell? ⟨w.heap.size, 0, none⟩ = some (.int .i64 x.do_) ∧ W'.cell? ⟨w.heap.size, 1, none⟩ = some (.bool x.loc) ∧ W'.cell? ⟨w.heap.size, 2, none⟩ = some (.int .i64 x.idx) ∧ W'.cell? ⟨w.heap.size, 3, none⟩ = some (.int .i64 x.gen) ∧ W'.cell? ⟨w.heap.size, 4, none⟩ = some (.int .i64 x.comp) ∧ W'.cell? ⟨w.heap.size, 5, none⟩ = some (.slice B m d) ∧ Keep (fun _ => False) w1 W') (exact BX.out _ (by exact (by repeat first | assumption | exact Keep.refl _ _ | refine Keep.alloc ?_ _ | refine Keep.drew ?_ | refine Keep.drewN ?_ _ | refine Keep.setCell ?_ (.inl (by first | omega | (simp; done) | (simp; omega))) _)))
    (first
      | (go_at_call 54; (with_reducible refine (RBY.out _ (by exact KW.out _ (by exact (by repeat first | assumption | exact Keep.refl _ _ | refine Keep.alloc ?_ _ | refine Keep.drew ?_ | refine Keep.drewN ?_ _ | refine Keep.setCell ?_ (.inl (by first | omega | (simp; done) | (simp; omega))) _)))).mono ?_); rintro e w3 ⟨A3, n3, c3, rfl, hy3, hb3⟩; have hk3 : Keep (fun _ => False) w1 w3 := Keep.trans (T := fun _ => False) (by exact (by repeat first | assumption | exact Keep.refl _ _ | refine Keep.alloc ?_ _ | refine Keep.drew ?_ | refine Keep.drewN ?_ _ | refine Keep.setCell ?_ (.inl (by first | omega | (simp; done) | (simp; omega))) _)) (Keep.of_below' hb3) (fun _ _ h => h); (try have hk23 : Keep (fun _ => False) w2 w3 := Keep.trans (T := fun _ => False) (by exact (by repeat first | assumption | exact Keep.refl _ _ | refine Keep.alloc ?_ _ | refine Keep.drew ?_ | refine Keep.drewN ?_ _ | refine Keep.setCell ?_ (.inl (by first | omega | (simp; done) | (simp; omega))) _)) (Keep.of_below' hb3) (fun _ _ h => h)); have HY := Lib.hid (show ∀ W', Keep (fun _ => False) w3 W' → By W' _ (.slice A3 n3 c3) (bytesC x) from fun W' hk => hy3.keep hk (fun _ _ _ h => h)); clear hy3 hb3)
      | ((refine step_app (by rfl) _ _ rfl w1.heap.size _ [] (by rfl) (Ob.nil _ _ _) _ _ b (by rfl) (HVB.out _ (by exact KW.out _ (by exact (by repeat first | assumption | exact Keep.refl _ _ | refine Keep.alloc ?_ _ | refine Keep.drew ?_ | refine Keep.drewN ?_ _ | refine Keep.setCell ?_ (.inl (by first | omega | (simp; done) | (simp; omega))) _)))) (by rw [NL.out]; exact LS.out.1) (by exact Keep.size (by exact (by repeat first | assumption | exact Keep.refl _ _ | refine Keep.alloc ?_ _ | refine Keep.drew ?_ | refine Keep.drewN ?_ _ | refine Keep.setCell ?_ (.inl (by first | omega | (simp; done) | (simp; omega))) _) : Keep (fun _ => False) w1 _)) ?_); intro A2 n2 c2 w2 ho2 hk2; have hk2' := hk2.mono (T := fun _ => False) (fun k _ e => by simp [ownB] at e); clear hk2; have hk12 : Keep (fun _ => False) w1 w2 := Keep.trans (T := fun _ => False) (by exact (by repeat first | assumption | exact Keep.refl _ _ | refine Keep.alloc ?_ _ | refine Keep.drew ?_ | refine Keep.drewN ?_ _ | refine Keep.setCell ?_ (.inl (by first | omega | (simp; done) | (simp; omega))) _)) hk2' (fun _ _ h => h); (try have hk32 : Keep (fun _ => False) w3 w2 := Keep.trans (T := fun _ => False) (by exact (by repeat first | assumption | exact Keep.refl _ _ | refine Keep.alloc ?_ _ | refine Keep.drew ?_ | refine Keep.drewN ?_ _ | refine Keep.setCell ?_ (.inl (by first | omega | (simp; done) | (simp; omega))) _)) hk2' (fun _ _ h => h)); have HA := Lib.hid (show ∀ W', Keep (fun _ => False) w2 W' → Ob W' w1.heap.size (.slice A2 n2 c2) b from fun W' hk => Ob.same ho2 hk); clear ho2 hk2')
      | ((refine step_app (by rfl) _ _ rfl w1.heap.size _ b (by rfl) (HA.out _ (by exact (by repeat first | assumption | exact Keep.refl _ _ | refine Keep.alloc ?_ _ | refine Keep.drew ?_ | refine Keep.drewN ?_ _ | refine Keep.setCell ?_ (.inl (by first | omega | (simp; done) | (simp; omega))) _))) _ _ (bytesC x) (by rfl) (HY.out _ (by exact (by repeat first | assumption | exact Keep.refl _ _ | refine Keep.alloc ?_ _ | refine Keep.drew ?_ | refine Keep.drewN ?_ _ | refine Keep.setCell ?_ (.inl (by first | omega | (simp; done) | (simp; omega))) _))) (by rw [NL.out]; exact LS.out.2) (by exact Keep.size (by exact (by repeat first | assumption | exact Keep.refl _ _ | refine Keep.alloc ?_ _ | refine Keep.drew ?_ | refine Keep.drewN ?_ _ | refine Keep.setCell ?_ (.inl (by first | omega | (simp; done) | (simp; omega))) _) : Keep (fun _ => False) w1 _)) ?_); intro A4 n4 c4 w4 ho4 hk4; have hk14 : Keep (fun _ => False) w1 w4 := Keep.trans (show Keep (fun _ => False) w1 _ from (by repeat first | assumption | exact Keep.refl _ _ | refine Keep.alloc ?_ _ | refine Keep.drew ?_ | refine Keep.drewN ?_ _ | refine Keep.setCell ?_ (.inl (by first | omega | (simp; done) | (simp; omega))) _)) hk4 (fun k hk e => by have := ((HA.out _ (by exact (by repeat first | assumption | exact Keep.refl _ _ | refine Keep.alloc ?_ _ | refine Keep.drew ?_ | refine Keep.drewN ?_ _ | refine Keep.setCell ?_ (.inl (by first | omega | (simp; done) | (simp; omega))) _))).ownB_ k e).1; omega); have HZ := Lib.hid (show ∀ W', Keep (fun _ => False) w4 W' → By W' (fun _ => True) (.slice A4 n4 c4) (b ++ bytesC x) from fun W' hk => (ho4.by_.mono (fun _ _ _ => trivial)).keep hk (fun _ _ _ h => h)); clear ho4 hk4)
      | (go_at_call 20; (with_reducible refine (same_any (b ++ bytesC x) (b ++ bytesC x) _ _ (fun _ => True) (fun _ => True) _ (H1.out.1.keep (by exact hk14) (fun _ _ _ h => h)) (HZ.out _ (by exact (by repeat first | assumption | exact Keep.refl _ _ | refine Keep.alloc ?_ _ | refine Keep.drew ?_ | refine Keep.drewN ?_ _ | refine Keep.setCell ?_ (.inl (by first | omega | (simp; done) | (simp; omega))) _)))).mono ?_); rw [decide_eq_true rfl]; rintro e w5 ⟨rfl, rfl⟩)
      | (go_at_call 55; (with_reducible refine (PP.out _ (by exact KW.out _ (by exact (by repeat first | assumption | exact Keep.refl _ _ | refine Keep.alloc ?_ _ | refine Keep.drew ?_ | refine Keep.drewN ?_ _ | refine Keep.setCell ?_ (.inl (by first | omega | (simp; done) | (simp; omega))) _)))).mono ?_); rintro e w6 ⟨A6, c6, rfl, hy6, hb6⟩; unfold cmdV; have hk6 : Keep (fun _ => False) w1 w6 := Keep.trans (T := fun _ => False) (by exact (by repeat first | assumption | exact Keep.refl _ _ | refine Keep.alloc ?_ _ | refine Keep.drew ?_ | refine Keep.drewN ?_ _ | refine Keep.setCell ?_ (.inl (by first | omega | (simp; done) | (simp; omega))) _)) (Keep.of_below' hb6) (fun _ _ h => h); have HP := Lib.hid (show ∀ W', Keep (fun _ => False) w6 W' → By W' _ (.slice A6 (plainC x).l.length c6) (plainC x).l from fun W' hk => hy6.keep hk (fun _ _ _ h => h)); clear hy6 hb6)
      | (go_at_call 56; (with_reducible refine (RP.out _ (by exact KW.out _ (by exact (by repeat first | assumption | exact Keep.refl _ _ | refine Keep.alloc ?_ _ | refine Keep.drew ?_ | refine Keep.drewN ?_ _ | refine Keep.setCell ?_ (.inl (by first | omega | (simp; done) | (simp; omega))) _)))).mono ?_); rintro e w7 ⟨A7, c7, rfl, hy7, hb7⟩; unfold cmdV; have hk7 : Keep (fun _ => False) w1 w7 := Keep.trans (T := fun _ => False) (by exact (by repeat first | assumption | exact Keep.refl _ _ | refine Keep.alloc ?_ _ | refine Keep.drew ?_ | refine Keep.drewN ?_ _ | refine Keep.setCell ?_ (.inl (by first | omega | (simp; done) | (simp; omega))) _)) (Keep.of_below' hb7) (fun _ _ h => h); have hk67 : Keep (fun _ => False) w6 w7 := Keep.trans (T := fun _ => False) (by exact (by repeat first | assumption | exact Keep.refl _ _ | refine Keep.alloc ?_ _ | refine Keep.drew ?_ | refine Keep.drewN ?_ _ | refine Keep.setCell ?_ (.inl (by first | omega | (simp; done) | (simp; omega))) _)) (Keep.of_below' hb7) (fun _ _ h => h); have EX := Lib.hid (show ∀ W', Keep (fun _ => False) w7 W' → Calls Try.prog 27 #[cmdV (plainC x) (.slice A6 (plainC x).l.length c6), cmdV (plainC x) (.slice A7 (plainC x).l.length c7)] W' fun e w' => e = .returned (.bool (exactC (plainC x) (plainC x))) ∧ Below W'.heap.size W' w' from fun W' hk => exact_any (plainC x) (plainC x) _ _ _ _ _ (HP.out W' (hk67.trans hk (fun _ _ h => h))) (hy7.keep hk (fun _ _ _ h => h))); rw [exactC_self] at EX; unfold cmdV at EX; clear hy7 hb7)
      | (go_at_call 27; (with_reducible refine (EX.out _ (by exact (by repeat first | assumption | exact Keep.refl _ _ | refine Keep.alloc ?_ _ | refine Keep.drew ?_ | refine Keep.drewN ?_ _ | refine Keep.setCell ?_ (.inl (by first | omega | (simp; done) | (simp; omega))) _))).mono ?_); rintro e w8 ⟨rfl, hb8⟩; have hk8 : Keep (fun _ => False) w1 w8 := Keep.trans (T := fun _ => False) (by exact (by repeat first | assumption | exact Keep.refl _ _ | refine Keep.alloc ?_ _ | refine Keep.drew ?_ | refine Keep.drewN ?_ _ | refine Keep.setCell ?_ (.inl (by first | omega | (simp; done) | (simp; omega))) _)) (Keep.of_below' hb8) (fun _ _ h => h); clear hb8)
      | (go_at_call 57; (with_reducible refine (CC.out _ (by exact KW.out _ (by exact (by repeat first | assumption | exact Keep.refl _ _ | refine Keep.alloc ?_ _ | refine Keep.drew ?_ | refine Keep.drewN ?_ _ | refine Keep.setCell ?_ (.inl (by first | omega | (simp; done) | (simp; omega))) _)))).mono ?_); rintro e w9 ⟨rfl, hb9⟩; have hk9 : Keep (fun _ => False) w1 w9 := Keep.trans (T := fun _ => False) (by exact (by repeat first | assumption | exact Keep.refl _ _ | refine Keep.alloc ?_ _ | refine Keep.drew ?_ | refine Keep.drewN ?_ _ | refine Keep.setCell ?_ (.inl (by first | omega | (simp; done) | (simp; omega))) _)) (Keep.of_below' hb9) (fun _ _ h => h); clear hb9)
      | (go_at_call 28; (with_reducible refine (code13 _ _).mono ?_); rintro e w10 ⟨rfl, rfl⟩)
      | (go_at_call 58; (with_reducible refine (RC.out _ (by exact KW.out _ (by exact (by repeat first | assumption | exact Keep.refl _ _ | refine Keep.alloc ?_ _ | refine Keep.drew ?_ | refine Keep.drewN ?_ _ | refine Keep.setCell ?_ (.inl (by first | omega | (simp; done) | (simp; omega))) _)))).mono ?_); rintro e w11 ⟨rfl, hb11⟩; have hk11 : Keep (fun _ => False) w1 w11 := Keep.trans (T := fun _ => False) (by exact (by repeat first | assumption | exact Keep.refl _ _ | refine Keep.alloc ?_ _ | refine Keep.drew ?_ | refine Keep.drewN ?_ _ | refine Keep.setCell ?_ (.inl (by first | omega | (simp; done) | (simp; omega))) _)) (Keep.of_below' hb11) (fun _ _ h => h); clear hb11)
      | fail)
  have K11 := Lib.hid hk11
  clear hk11 hk9 hk8 hk7 hk67 hk6 hk14 EX HP HZ HY HA PP CC RBY HVB PB
  clear x0 x1 x2 x3 x4 x5 xf
  obtain ⟨x0, x1, x2, x3, x4, x5, -⟩ := BX.out _ K11.out
  by_cases hz : cz = 0
  · rw [LC.out hz, ← NE.out] at CG
    subst hz
    clear LC NE
    go_wp2_with fail
    with_reducible refine (RC.out _ (KW.out _ K11.out)).mono ?_
    rintro e w12 ⟨rfl, hb12⟩
    have K12 := Lib.hid (K11.out.trans (Keep.of_below' hb12) (fun _ _ h => h))
    clear hb12 K11 x0 x1 x2 x3 x4 x5
    go_wp2_with fail
    with_reducible refine (CG.out _ _ _ (H1.out.1.keep K12.out (fun _ _ _ h => h))).mono ?_
    rintro e w13 ⟨A13, n13, c13, rfl, hy13, hb13⟩
    have H13 := Lib.hid (And.intro hy13 (K12.out.trans (Keep.of_below' hb13) (fun _ _ h => h)))
    clear hy13 hb13
    unfold cmdV
    go_upto_region 9 with fail
    refine wp_world (S := fun X => (X.heap[w13.heap.size]? = some (.cells #[.int .i64 (plainC x).do_, .bool (plainC x).loc, .int .i64 (plainC x).idx, .int .i64 (plainC x).gen, .int .i64 (plainC x).comp, .slice A13 n13 c13] 39 (0, 0)) ∧ By X (fun _ => True) (.slice A13 n13 c13) (plainC x).l) ∧ Keep (fun _ => False) w1 X)
      (have ka : Keep (fun _ => False) w13 (w13.alloc (.cells #[.int .i64 (plainC x).do_, .bool (plainC x).loc, .int .i64 (plainC x).idx, .int .i64 (plainC x).gen, .int .i64 (plainC x).comp, .slice A13 n13 c13] 39 (0, 0))) := (Keep.refl _ w13).alloc _
       ⟨⟨heap_alloc_new w13 _, (H13.out.1.keep ka (fun _ _ _ h => h)).mono (fun _ _ _ => trivial)⟩, H13.out.2.trans ka (fun _ _ h => h)⟩) ?_
    intro X hX
    have HX := Lib.hid hX
    clear hX H13 K12 CG RC
    generalize hP : w13.heap.size = P at *
    clear hP
    obtain ⟨y0, y1, y2, y3, y4, y5, -⟩ := cells6 HX.out.1.1
    have YX := Lib.hid (show ∀ W', Keep (fun _ => False) X W' → ((W'.cell? ⟨P, 0, none⟩ = some (.int .i64 (plainC x).do_) ∧ W'.cell? ⟨P, 1, none⟩ = some (.bool (plainC x).loc) ∧ W'.cell? ⟨P, 2, none⟩ = some (.int .i64 (plainC x).idx) ∧ W'.cell? ⟨P, 3, none⟩ = some (.int .i64 (plainC x).gen) ∧ W'.cell? ⟨P, 4, none⟩ = some (.int .i64 (plainC x).comp) ∧ W'.cell? ⟨P, 5, none⟩ = some (.slice A13 n13 c13)) ∧ (W'.cell? ⟨w.heap.size, 0, none⟩ = some (.int .i64 x.do_) ∧ W'.cell? ⟨w.heap.size, 1, none⟩ = some (.bool x.loc) ∧ W'.cell? ⟨w.heap.size, 2, none⟩ = some (.int .i64 x.idx) ∧ W'.cell? ⟨w.heap.size, 3, none⟩ = some (.int .i64 x.gen) ∧ W'.cell? ⟨w.heap.size, 4, none⟩ = some (.int .i64 x.comp) ∧ W'.cell? ⟨w.heap.size, 5, none⟩ = some (.slice B m d)) ∧ Keep (fun _ => False) X W') from fun W' hk =>
      have q := BX.out W' (HX.out.2.trans hk (fun _ _ h => h))
      ⟨⟨hk.cell (fun h => h) y0, hk.cell (fun h => h) y1, hk.cell (fun h => h) y2, hk.cell (fun h => h) y3, hk.cell (fun h => h) y4, hk.cell (fun h => h) y5⟩, ⟨q.1, q.2.1, q.2.2.1, q.2.2.2.1, q.2.2.2.2.1, q.2.2.2.2.2.1⟩, hk⟩)
    go_region_held3 (fun W' => (W'.cell? ⟨P, 0, none⟩ = some (.int .i64 (plainC x).do_) ∧ W'.cell? ⟨P, 1, none⟩ = some (.bool (plainC x).loc) ∧ W'.cell? ⟨P, 2, none⟩ = some (.int .i64 (plainC x).idx) ∧ W'.cell? ⟨P, 3, none⟩ = some (.int .i64 (plainC x).gen) ∧ W'.cell? ⟨P, 4, none⟩ = some (.int .i64 (plainC x).comp) ∧ W'.cell? ⟨P, 5, none⟩ = some (.slice A13 n13 c13)) ∧ (W'.cell? ⟨w.heap.size, 0, none⟩ = some (.int .i64 x.do_) ∧ W'.cell? ⟨w.heap.size, 1, none⟩ = some (.bool x.loc) ∧ W'.cell? ⟨w.heap.size, 2, none⟩ = some (.int .i64 x.idx) ∧ W'.cell? ⟨w.heap.size, 3, none⟩ = some (.int .i64 x.gen) ∧ W'.cell? ⟨w.heap.size, 4, none⟩ = some (.int .i64 x.comp) ∧ W'.cell? ⟨w.heap.size, 5, none⟩ = some (.slice B m d)) ∧ Keep (fun _ => False) X W') (exact YX.out _ (by exact (by repeat first | assumption | exact Keep.refl _ _ | refine Keep.alloc ?_ _ | refine Keep.drew ?_ | refine Keep.drewN ?_ _ | refine Keep.setCell ?_ (.inl (by first | omega | (simp; done) | (simp; omega))) _)))
      (first
        | (go_at_call 56; (with_reducible refine (RP.out _ (by exact KW.out _ (HX.out.2.trans (by exact (by repeat first | assumption | exact Keep.refl _ _ | refine Keep.alloc ?_ _ | refine Keep.drew ?_ | refine Keep.drewN ?_ _ | refine Keep.setCell ?_ (.inl (by first | omega | (simp; done) | (simp; omega))) _)) (fun _ _ h => h)))).mono ?_); rintro e w15 ⟨A15, c15, rfl, hy15, hb15⟩; unfold cmdV; have hk15 : Keep (fun _ => False) X w15 := Keep.trans (T := fun _ => False) (by exact (by repeat first | assumption | exact Keep.refl _ _ | refine Keep.alloc ?_ _ | refine Keep.drew ?_ | refine Keep.drewN ?_ _ | refine Keep.setCell ?_ (.inl (by first | omega | (simp; done) | (simp; omega))) _)) (Keep.of_below' hb15) (fun _ _ h => h); have EX := Lib.hid (show ∀ W', Keep (fun _ => False) w15 W' → Calls Try.prog 27 #[cmdV (plainC x) (.slice A13 n13 c13), cmdV (plainC x) (.slice A15 (plainC x).l.length c15)] W' fun e w' => e = .returned (.bool (exactC (plainC x) (plainC x))) ∧ Below W'.heap.size W' w' from fun W' hk => exact_any (plainC x) (plainC x) _ _ _ _ _ (HX.out.1.2.keep (hk15.trans hk (fun _ _ h => h)) (fun _ _ _ h => h)) (hy15.keep hk (fun _ _ _ h => h))); rw [exactC_self] at EX; unfold cmdV at EX; clear hy15 hb15)
        | (go_at_call 27; (with_reducible refine (EX.out _ (by exact (by repeat first | assumption | exact Keep.refl _ _ | refine Keep.alloc ?_ _ | refine Keep.drew ?_ | refine Keep.drewN ?_ _ | refine Keep.setCell ?_ (.inl (by first | omega | (simp; done) | (simp; omega))) _))).mono ?_); rintro e w16 ⟨rfl, hb16⟩; have hk16 : Keep (fun _ => False) X w16 := Keep.trans (T := fun _ => False) (by exact (by repeat first | assumption | exact Keep.refl _ _ | refine Keep.alloc ?_ _ | refine Keep.drew ?_ | refine Keep.drewN ?_ _ | refine Keep.setCell ?_ (.inl (by first | omega | (simp; done) | (simp; omega))) _)) (Keep.of_below' hb16) (fun _ _ h => h); clear hb16)
        | (go_at_call 28; (with_reducible refine (code13 _ _).mono ?_); rintro e w17 ⟨rfl, rfl⟩)
        | (go_at_call 24; (with_reducible refine (live13 _).mono ?_); rintro e w18 ⟨rfl, hb18⟩; have hk18 : Keep (fun _ => False) X w18 := Keep.trans (T := fun _ => False) (by exact (by repeat first | assumption | exact Keep.refl _ _ | refine Keep.alloc ?_ _ | refine Keep.drew ?_ | refine Keep.drewN ?_ _ | refine Keep.setCell ?_ (.inl (by first | omega | (simp; done) | (simp; omega))) _)) (Keep.of_below' hb18) (fun _ _ h => h); clear hb18)
        | fail)
    go_wp2
    go_ret
    exact ⟨rfl, (KW.out _ (HX.out.2.trans hk18 (fun _ _ h => h))).to_below'⟩
  · clear LC NE CG
    go_wp2_with fail
    with_reducible refine (RC.out _ (KW.out _ K11.out)).mono ?_
    rintro e w12 ⟨rfl, hb12⟩
    have K12 := Lib.hid (K11.out.trans (Keep.of_below' hb12) (fun _ _ h => h))
    clear hb12 K11 x0 x1 x2 x3 x4 x5
    go_wp2_with fail
    with_reducible refine (live13 _).mono ?_
    rintro e w18 ⟨rfl, hb18⟩
    go_wp2
    go_ret
    exact ⟨rfl, (KW.out _ (K12.out.trans (Keep.of_below' hb18) (fun _ _ h => h))).to_below'⟩
end Go.Proofs.Ytakchlaoimnnhaa

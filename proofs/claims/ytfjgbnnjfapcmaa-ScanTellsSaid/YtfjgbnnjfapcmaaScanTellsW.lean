/- The walk of vivariumlaw18.ScanTells: it returns true, old memory unchanged. -/
import Derived.Test.YtfjgbnnjfapcmaaScanOnesW
namespace Go.Proofs.Ytfjgbnnjfapcmaa
open Go.RowKit
set_option maxRecDepth 100000
set_option linter.unusedVariables false
set_option linter.unusedSimpArgs false

set_option maxHeartbeats 8000000 in
theorem scanTells_walk (c : Cf) (u : Value) (l : List (List UInt8)) (v : Value) (hd ep sq : Int) (w : World) (hu : CL w (fun _ => True) u c.l) (hv : Bys w (fun _ => True) v l) (hc : -9223372036854775808 ≤ c.log ∧ c.log ≤ 9223372036854775807) :
    Calls Try.prog 5 #[confV c u, v, .int .i64 hd, .int .i64 ep, .int .i64 sq] w fun e w' => e = .returned (.bool true) ∧ Below w.heap.size w w' := by
  have LIV := Lib.hid live18
  have MU := Lib.hid (fun W (hk : Keep (fun _ => False) w W) => rmuch_any c u (fun _ => True) W (hu.same hk))
  have ML := Lib.hid (fun W (hk : Keep (fun _ => False) w W) => muchL_any l v (fun _ => True) W (hv.keep hk (fun _ _ _ h => h)))
  have SC := Lib.hid (fun (h : ∀ s ∈ l, s.length ≤ 600) W (hk : Keep (fun _ => False) w W) => scan_any c u (fun _ => True) l v (fun _ => True) hd ep sq W (hu.same hk) (hv.keep hk (fun _ _ _ h => h)) (fun s hs => Nat.le_trans (h s hs) (by decide)) hc)
  have RC := Lib.hid (fun (h : ∀ x ∈ c.l, x.nm.size ≤ 100) W (hk : Keep (fun _ => False) w W) => rscan_any c u (fun _ => True) l v (fun _ => True) hd ep sq W (hu.same hk) (hv.keep hk (fun _ _ _ h => h)) (fun s hs => Nat.le_trans (h s hs) (by decide)) hc)
  have ST := Lib.hid (fun W x y F G (h1 : Bys W F x (scanF c l hd ep sq).recs) (h2 : Bys W G y (scanF c l hd ep sq).recs) => rsameTail_any (scanF c l hd ep sq) x y F G W h1 h2)
  have TP := Lib.hid (fun W (hk : Keep (fun _ => False) w W) => scantop_any l v (fun _ => True) W (hv.keep hk (fun _ _ _ h => h)))
  have RT := Lib.hid (fun W (hk : Keep (fun _ => False) w W) => rscantop_any l v (fun _ => True) W (hv.keep hk (fun _ _ _ h => h)))
  have MB := Lib.hid (@muchB_small c.l)
  have MN := Lib.hid (fun h => (@muchL_no l h).2)
  obtain ⟨A, cap, rfl, -⟩ := hv.form
  obtain ⟨Au, cu, rfl, -⟩ := hu
  unfold ScanP at SC RC
  unfold tailV at ST
  unfold confV at *
  clear hv
  generalize scanF c l hd ep sq = t at *
  obtain ⟨R, tl, te, ts⟩ := t
  simp only at SC RC ST
  generalize topTo l l.length = tp at *
  generalize muchB c.l = mb at *
  generalize muchL l = ml at *
  generalize l.length = nl at *
  generalize c.l.length = nu at *
  go_enter Try.func5, Try.ntmps5
  go_upto_region 1 with fail
  refine wp_world (S := fun X => KSt w X (.int .i64 c.log) (.int .i64 c.pages) (.int .i64 c.ents) (.int .i64 c.gens) (.slice Au nu cu)) (KSt.mk_ w _ _ _ _ _) ?_
  intro X hX
  have HX := Lib.hid hX
  clear hX
  obtain ⟨c0, c1, c2, c3, c4, cf⟩ := cells5 HX.out.1
  go_wp2_with fail
  with_reducible refine (MU.out _ HX.out.keep).mono ?_
  rintro e w1 ⟨rfl, hb1⟩
  have H1 := Lib.hid (HX.out.below hb1)
  clear hb1 c0 c1 c2 c3 c4 cf HX
  cases mb with
  | true =>
    go_wp2_with fail
    with_reducible refine (LIV.out _).mono ?_
    rintro e w2 ⟨rfl, hb2⟩
    go_wp2
    go_ret
    exact ⟨rfl, (H1.out.below hb2).2⟩
  | false =>
  have NS := Lib.hid (MB.out rfl)
  go_wp2_with fail
  with_reducible refine (ML.out _ H1.out.keep).mono ?_
  rintro e w2 ⟨rfl, rfl⟩
  cases ml with
  | true =>
    go_wp2_with fail
    with_reducible refine (LIV.out _).mono ?_
    rintro e w2 ⟨rfl, hb2⟩
    go_wp2
    go_ret
    exact ⟨rfl, (H1.out.below hb2).2⟩
  | false =>
  have NL := Lib.hid (MN.out rfl)
  go_upto_region 3 with fail
  have SC1 := Lib.hid (SC.out NL.out)
  have RC1 := Lib.hid (RC.out NS.out)
  have CE := Lib.hid (show ∀ W', Keep (fun _ => False) w1 W' → W'.cell? ⟨w.heap.size, 0, none⟩ = some (.int .i64 c.log) ∧ W'.cell? ⟨w.heap.size, 1, none⟩ = some (.int .i64 c.pages) ∧ W'.cell? ⟨w.heap.size, 2, none⟩ = some (.int .i64 c.ents) ∧ W'.cell? ⟨w.heap.size, 3, none⟩ = some (.int .i64 c.gens) ∧ W'.cell? ⟨w.heap.size, 4, none⟩ = some (.slice Au nu cu) ∧ Keep (fun _ => False) w1 W' from fun W' hk => by
    have h := (hk.block _ H1.out.lt (fun h => h)).trans H1.out.1
    obtain ⟨c0, c1, c2, c3, c4, -⟩ := cells5 h
    exact ⟨c0, c1, c2, c3, c4, hk⟩)
  have K1 := Lib.hid H1.out.keep
  go_region_held3 (fun W' => W'.cell? ⟨w.heap.size, 0, none⟩ = some (.int .i64 c.log) ∧ W'.cell? ⟨w.heap.size, 1, none⟩ = some (.int .i64 c.pages) ∧ W'.cell? ⟨w.heap.size, 2, none⟩ = some (.int .i64 c.ents) ∧ W'.cell? ⟨w.heap.size, 3, none⟩ = some (.int .i64 c.gens) ∧ W'.cell? ⟨w.heap.size, 4, none⟩ = some (.slice Au nu cu) ∧ Keep (fun _ => False) w1 W') (exact CE.out _ (by exact (by repeat first | (with_reducible assumption) | (with_reducible exact Keep.refl _ _) | (with_reducible refine Keep.alloc ?_ _) | (with_reducible refine Keep.drew ?_) | (with_reducible refine Keep.drewN ?_ _) | (with_reducible refine Keep.setCell ?_ (.inl (by first | omega | (simp; done) | (simp; omega) | fail)) _)))) (first
    | (go_at_call 28; (with_reducible refine (SC1.out _ (K1.out.trans (T := fun _ => False) (by exact (by repeat first | (with_reducible assumption) | (with_reducible exact Keep.refl _ _) | (with_reducible refine Keep.alloc ?_ _) | (with_reducible refine Keep.drew ?_) | (with_reducible refine Keep.drewN ?_ _) | (with_reducible refine Keep.setCell ?_ (.inl (by first | omega | (simp; done) | (simp; omega) | fail)) _))) (fun _ _ h => h))).mono ?_); rintro e w3 ⟨v3, rfl, hr3, hb3⟩; have hk3 : Keep (fun _ => False) w1 w3 := Keep.trans (T := fun _ => False) (by exact (by repeat first | (with_reducible assumption) | (with_reducible exact Keep.refl _ _) | (with_reducible refine Keep.alloc ?_ _) | (with_reducible refine Keep.drew ?_) | (with_reducible refine Keep.drewN ?_ _) | (with_reducible refine Keep.setCell ?_ (.inl (by first | omega | (simp; done) | (simp; omega) | fail)) _))) (Keep.of_below' hb3) (fun _ _ h => h); clear hb3)
    | (go_at_call 19; (with_reducible refine (RC1.out _ (K1.out.trans (T := fun _ => False) (by exact (by repeat first | (with_reducible assumption) | (with_reducible exact Keep.refl _ _) | (with_reducible refine Keep.alloc ?_ _) | (with_reducible refine Keep.drew ?_) | (with_reducible refine Keep.drewN ?_ _) | (with_reducible refine Keep.setCell ?_ (.inl (by first | omega | (simp; done) | (simp; omega) | fail)) _))) (fun _ _ h => h))).mono ?_); rintro e w4 ⟨v4, rfl, hr4, hb4⟩; have hk4 : Keep (fun _ => False) w1 w4 := Keep.trans (T := fun _ => False) (by exact (by repeat first | (with_reducible assumption) | (with_reducible exact Keep.refl _ _) | (with_reducible refine Keep.alloc ?_ _) | (with_reducible refine Keep.drew ?_) | (with_reducible refine Keep.drewN ?_ _) | (with_reducible refine Keep.setCell ?_ (.inl (by first | omega | (simp; done) | (simp; omega) | fail)) _))) (Keep.of_below' hb4) (fun _ _ h => h); have hr34 := hr3.keep (Keep.trans (S := fun _ => False) (T := fun _ => False) (by exact (by repeat first | (with_reducible assumption) | (with_reducible exact Keep.refl _ _) | (with_reducible refine Keep.alloc ?_ _) | (with_reducible refine Keep.drew ?_) | (with_reducible refine Keep.drewN ?_ _) | (with_reducible refine Keep.setCell ?_ (.inl (by first | omega | (simp; done) | (simp; omega) | fail)) _))) (Keep.of_below' hb4) (fun _ _ h => h)) (fun _ _ _ h => h); clear hb4)
    | (go_at_call 30; (with_reducible refine (ST.out _ _ _ _ _ (hr34.keep (S := fun _ => False) (by exact (by repeat first | (with_reducible assumption) | (with_reducible exact Keep.refl _ _) | (with_reducible refine Keep.alloc ?_ _) | (with_reducible refine Keep.drew ?_) | (with_reducible refine Keep.drewN ?_ _) | (with_reducible refine Keep.setCell ?_ (.inl (by first | omega | (simp; done) | (simp; omega) | fail)) _))) (fun _ _ _ h => h)) (hr4.keep (S := fun _ => False) (by exact (by repeat first | (with_reducible assumption) | (with_reducible exact Keep.refl _ _) | (with_reducible refine Keep.alloc ?_ _) | (with_reducible refine Keep.drew ?_) | (with_reducible refine Keep.drewN ?_ _) | (with_reducible refine Keep.setCell ?_ (.inl (by first | omega | (simp; done) | (simp; omega) | fail)) _))) (fun _ _ _ h => h))).mono ?_); rintro e w5 ⟨rfl, hb5⟩; have hk5 : Keep (fun _ => False) w1 w5 := Keep.trans (T := fun _ => False) (by exact (by repeat first | (with_reducible assumption) | (with_reducible exact Keep.refl _ _) | (with_reducible refine Keep.alloc ?_ _) | (with_reducible refine Keep.drew ?_) | (with_reducible refine Keep.drewN ?_ _) | (with_reducible refine Keep.setCell ?_ (.inl (by first | omega | (simp; done) | (simp; omega) | fail)) _))) (Keep.of_below' hb5) (fun _ _ h => h); clear hb5)
    | (go_at_call 31; (with_reducible refine (TP.out _ (K1.out.trans (T := fun _ => False) (by exact (by repeat first | (with_reducible assumption) | (with_reducible exact Keep.refl _ _) | (with_reducible refine Keep.alloc ?_ _) | (with_reducible refine Keep.drew ?_) | (with_reducible refine Keep.drewN ?_ _) | (with_reducible refine Keep.setCell ?_ (.inl (by first | omega | (simp; done) | (simp; omega) | fail)) _))) (fun _ _ h => h))).mono ?_); rintro e w6 ⟨rfl, rfl⟩)
    | (go_at_call 20; (with_reducible refine (RT.out _ (K1.out.trans (T := fun _ => False) (by exact (by repeat first | (with_reducible assumption) | (with_reducible exact Keep.refl _ _) | (with_reducible refine Keep.alloc ?_ _) | (with_reducible refine Keep.drew ?_) | (with_reducible refine Keep.drewN ?_ _) | (with_reducible refine Keep.setCell ?_ (.inl (by first | omega | (simp; done) | (simp; omega) | fail)) _))) (fun _ _ h => h))).mono ?_); rintro e w7 ⟨rfl, rfl⟩)
    | (go_at_call 9; (with_reducible refine (LIV.out _).mono ?_); rintro e w8 ⟨rfl, hb8⟩; have hk8 : Keep (fun _ => False) w1 w8 := Keep.trans (T := fun _ => False) (by exact (by repeat first | (with_reducible assumption) | (with_reducible exact Keep.refl _ _) | (with_reducible refine Keep.alloc ?_ _) | (with_reducible refine Keep.drew ?_) | (with_reducible refine Keep.drewN ?_ _) | (with_reducible refine Keep.setCell ?_ (.inl (by first | omega | (simp; done) | (simp; omega) | fail)) _))) (Keep.of_below' hb8) (fun _ _ h => h))
    | fail)
  go_wp2
  go_ret
  exact ⟨rfl, (K1.out.trans hk8 (fun _ _ h => h)).to_below'⟩
end Go.Proofs.Ytfjgbnnjfapcmaa

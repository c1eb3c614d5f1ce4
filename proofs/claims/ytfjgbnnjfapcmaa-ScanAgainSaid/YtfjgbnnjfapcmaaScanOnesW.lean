/- The walk of vivariumlaw18.ScanOnes: it returns true, old memory unchanged. -/
import Derived.Test.YtfjgbnnjfapcmaaScan3
import Derived.Test.YtfjgbnnjfapcmaaScanLv
import Derived.Test.YtfjgbnnjfapcmaaSeal7
namespace Go.Proofs.Ytfjgbnnjfapcmaa
open Go.RowKit
set_option maxRecDepth 100000
set_option linter.unusedVariables false
set_option linter.unusedSimpArgs false

theorem muchB_small {l : List Cp} (h : muchB l = false) : ∀ x ∈ l, x.nm.size ≤ 100 := by
  have h2 := of_decide_eq_false h
  have h3 : l.length ≤ 40 := by
    by_cases h4 : 40 < l.length
    · exact absurd (.inl h4) h2
    · omega
  have h5 : bigTo l l.length := Classical.not_not.1 (fun h6 => h2 (.inr h6))
  intro x hx
  obtain ⟨i, hi, rfl⟩ := List.getElem_of_mem hx
  have := h5 i hi (by omega)
  rwa [nmAt_of (List.getElem?_eq_getElem hi)] at this
theorem Bx.bd {W : World} {F : Nat → Prop} {p : Nat} {x : SV} {u : Value} (h : Bx W F p x u) : By W F u x.bd := h.2
set_option maxHeartbeats 8000000 in
theorem scanOnes_walk (c : Cf) (u : Value) (l : List (List UInt8)) (v : Value) (lsn ep sq most : Int) (w : World) (hu : CL w (fun _ => True) u c.l) (hv : Bys w (fun _ => True) v l) :
    Calls Try.prog 3 #[confV c u, v, .int .i64 lsn, .int .i64 ep, .int .i64 sq, .int .i64 most] w fun e w' => e = .returned (.bool true) ∧ Below w.heap.size w w' := by
  have LIV := Lib.hid live18
  have MU := Lib.hid (fun W (hk : Keep (fun _ => False) w W) => rmuch_any c u (fun _ => True) W (hu.same hk))
  have ML := Lib.hid (fun W (hk : Keep (fun _ => False) w W) => muchL_any l v (fun _ => True) W (hv.keep hk (fun _ _ _ h => h)))
  have ON := Lib.hid (fun (h : ∀ s ∈ l, s.length ≤ 600) W (hk : Keep (fun _ => False) w W) => one_any c u (fun _ => True) l v (fun _ => True) lsn ep sq most W (hu.same hk) (hv.keep hk (fun _ _ _ h => h)) (fun s hs => Nat.le_trans (h s hs) (by decide)))
  have RO := Lib.hid (fun (h : ∀ x ∈ c.l, x.nm.size ≤ 100) W (hk : Keep (fun _ => False) w W) => rone_any c u (fun _ => True) l v (fun _ => True) lsn ep sq most W (hu.same hk) (hv.keep hk (fun _ _ _ h => h)) (fun s hs => Nat.le_trans (h s hs) (by decide)))
  have HA := Lib.hid (fun (h : ∀ s ∈ l, s.length ≤ 600) W (hk : Keep (fun _ => False) w W) => has_any c u (fun _ => True) l v (fun _ => True) lsn W (hu.same hk) (hv.keep hk (fun _ _ _ h => h)) (fun s hs => Nat.le_trans (h s hs) (by decide)))
  have RH := Lib.hid (fun (h : ∀ x ∈ c.l, x.nm.size ≤ 100) W (hk : Keep (fun _ => False) w W) => rhas_any c u (fun _ => True) l v (fun _ => True) lsn W (hu.same hk) (hv.keep hk (fun _ _ _ h => h)) (fun s hs => Nat.le_trans (h s hs) (by decide)))
  have SM := Lib.hid (fun W b d Fb Fd (L : List UInt8) (h1 : By W Fb b L) (h2 : By W Fd d L) => show Calls Try.prog 14 #[b, d] W fun e w' => e = .returned (.bool true) ∧ W = w' from by have := same_any L L b d Fb Fd W h1 h2; rwa [decide_eq_true rfl] at this)
  have RS := Lib.hid (fun W (x : SV) b d Fa Fb (ha : By W Fa b x.bd) (hb : By W Fb d x.bd) => show Calls Try.prog 15 #[.agg #[.int .i64 x.ep, .int .i64 x.no, .int .i64 x.kd, b], .agg #[.int .i64 x.ep, .int .i64 x.no, .int .i64 x.kd, d]] W fun e w' => e = .returned (.bool true) ∧ Below W.heap.size W w' from by have := rsameS_any x x b d Fa Fb W ha hb; rwa [sameS_self] at this)
  have MB := Lib.hid (@muchB_small c.l)
  have MN := Lib.hid (fun h => (@muchL_no l h).2)
  obtain ⟨A, cap, rfl, -⟩ := hv.form
  obtain ⟨Au, cu, rfl, -⟩ := hu
  unfold OneP at ON RO
  unfold confV at *
  clear hv
  generalize (if recB c l lsn ep sq most = true then recF c l lsn else []) = br at *
  generalize (if recB c l lsn ep sq most = true then (cntF c l lsn : Int) else 0) = bn at *
  generalize (if recB c l lsn ep sq most = true then (hasF c l lsn).ep else 0) = be at *
  generalize recB c l lsn ep sq most = bo at *
  generalize hasF c l lsn = hf at *
  generalize hasB c l lsn = hb at *
  generalize muchB c.l = mb at *
  generalize muchL l = ml at *
  generalize l.length = nl at *
  generalize c.l.length = nu at *
  go_enter Try.func3, Try.ntmps3
  go_upto_region 1 with fail
  refine wp_world (S := fun X => KSt w X (.int .i64 c.log) (.int .i64 c.pages) (.int .i64 c.ents) (.int .i64 c.gens) (.slice Au nu cu)) (KSt.mk_ w _ _ _ _ _) ?_
  intro X hX
  have HX := Lib.hid hX
  clear hX
  obtain ⟨c0, c1, c2, c3, c4, cf⟩ := cells5 HX.out.1
  go_wp2_with fail
  with_reducible refine (MU.out _ HX.out.keep).mono ?_
  rintro e w1 ⟨rfl, hb1⟩
  have H1 := Lib.hid (HX.out.below hb1)
  clear hb1 c0 c1 c2 c3 c4 cf HX
  cases mb with
  | true =>
    go_wp2_with fail
    with_reducible refine (LIV.out _).mono ?_
    rintro e w2 ⟨rfl, hb2⟩
    go_wp2
    go_ret
    exact ⟨rfl, (H1.out.below hb2).2⟩
  | false =>
  have NS := Lib.hid (MB.out rfl)
  go_wp2_with fail
  with_reducible refine (ML.out _ H1.out.keep).mono ?_
  rintro e w2 ⟨rfl, rfl⟩
  cases ml with
  | true =>
    go_wp2_with fail
    with_reducible refine (LIV.out _).mono ?_
    rintro e w2 ⟨rfl, hb2⟩
    go_wp2
    go_ret
    exact ⟨rfl, (H1.out.below hb2).2⟩
  | false =>
  have NL := Lib.hid (MN.out rfl)
  obtain ⟨c0, c1, c2, c3, c4, cf⟩ := cells5 H1.out.1
  go_wp2_with fail
  with_reducible refine (ON.out NL.out _ H1.out.keep).mono ?_
  rintro e w3 ⟨A3, n3, d3, rfl, hy3, hb3⟩
  have H3 := Lib.hid (And.intro (H1.out.below hb3) hy3)
  clear hb3 hy3 c0 c1 c2 c3 c4 cf H1
  obtain ⟨c0, c1, c2, c3, c4, cf⟩ := cells5 H3.out.1.1
  go_wp2_with fail
  with_reducible refine (RO.out NS.out _ H3.out.1.keep).mono ?_
  rintro e w4 ⟨A4, n4, d4, rfl, hy4, hb4⟩
  have H4 := Lib.hid (And.intro (H3.out.1.below hb4) (And.intro (By.below H3.out.2 hb4) hy4))
  clear hb4 hy4 c0 c1 c2 c3 c4 cf H3
  obtain ⟨c0, c1, c2, c3, c4, cf⟩ := cells5 H4.out.1.1
  go_wp2_with fail
  with_reducible refine (HA.out NL.out _ H4.out.1.keep).mono ?_
  rintro e w5 ⟨A5, n5, d5, rfl, hy5, hb5⟩
  have H5 := Lib.hid (And.intro (H4.out.1.below hb5) (And.intro (By.below H4.out.2.1 hb5) (And.intro (By.below H4.out.2.2 hb5) hy5)))
  clear hb5 hy5 c0 c1 c2 c3 c4 cf H4
  go_upto_region 6 with fail
  refine wp_world (S := fun X => KSt w X (.int .i64 c.log) (.int .i64 c.pages) (.int .i64 c.ents) (.int .i64 c.gens) (.slice Au nu cu) ∧ By X (fun _ => True) (.slice A3 n3 d3) br ∧ By X (fun _ => True) (.slice A4 n4 d4) br ∧ Bx X (fun _ => True) w5.heap.size hf (.slice A5 n5 d5)) ⟨H5.out.1.below ((Below.refl _ w5).alloc (Nat.le_refl _) _), (By.same H5.out.2.1 ((Keep.refl _ w5).alloc _)).mono (fun _ _ _ => trivial), (By.same H5.out.2.2.1 ((Keep.refl _ w5).alloc _)).mono (fun _ _ _ => trivial), Bx.new (By.mono H5.out.2.2.2 (fun _ _ _ => trivial))⟩ ?_
  rintro Y ⟨y1, y2, y3, y4⟩
  have HY := Lib.hid (And.intro y1 (And.intro y2 (And.intro y3 y4)))
  clear y1 y2 y3 y4 H5
  generalize w5.heap.size = q5 at *
  obtain ⟨c0, c1, c2, c3, c4, cf⟩ := cells5 HY.out.1.1
  go_wp2_with fail
  with_reducible refine (RH.out NS.out _ HY.out.1.keep).mono ?_
  rintro e w6 ⟨A6, n6, d6, rfl, hy6, hb6⟩
  have H6 := Lib.hid (And.intro (HY.out.1.below hb6) (And.intro (By.below HY.out.2.1 hb6) (And.intro (By.below HY.out.2.2.1 hb6) (And.intro (HY.out.2.2.2.same (Keep.of_below' hb6)) hy6))))
  clear hb6 hy6 c0 c1 c2 c3 c4 cf HY
  go_upto_region 7 with fail
  refine wp_world (S := fun X => Below w.heap.size w X ∧ By X (fun _ => True) (.slice A3 n3 d3) br ∧ By X (fun _ => True) (.slice A4 n4 d4) br ∧ Bx X (fun _ => True) q5 hf (.slice A5 n5 d5) ∧ Bx X (fun _ => True) w6.heap.size hf (.slice A6 n6 d6)) ⟨(H6.out.1.below ((Below.refl _ w6).alloc (Nat.le_refl _) _)).2, (By.same H6.out.2.1 ((Keep.refl _ w6).alloc _)), (By.same H6.out.2.2.1 ((Keep.refl _ w6).alloc _)), H6.out.2.2.2.1.same ((Keep.refl _ w6).alloc _), Bx.new (By.mono H6.out.2.2.2.2 (fun _ _ _ => trivial))⟩ ?_
  rintro Z ⟨z1, z2, z3, z4, z5⟩
  have HZ := Lib.hid (And.intro z1 (And.intro z2 (And.intro z3 (And.intro z4 z5))))
  clear z1 z2 z3 z4 z5 H6
  generalize w6.heap.size = q6 at *
  obtain ⟨x0, x1, x2, x3⟩ := HZ.out.2.2.2.1.cells
  obtain ⟨y0, y1, y2, y3⟩ := HZ.out.2.2.2.2.cells
  go_wp2_with fail
  with_reducible refine (SM.out _ _ _ _ _ _ HZ.out.2.1 HZ.out.2.2.1).mono ?_
  rintro e w7 ⟨rfl, rfl⟩
  go_wp2_with fail
  with_reducible refine (RS.out _ _ _ _ _ _ HZ.out.2.2.2.1.bd HZ.out.2.2.2.2.bd).mono ?_
  rintro e w8 ⟨rfl, hb8⟩
  have H8 := Lib.hid (HZ.out.1.trans (hb8.mono HZ.out.1.size))
  clear hb8
  go_wp2_with fail
  with_reducible refine (LIV.out _).mono ?_
  rintro e w9 ⟨rfl, hb9⟩
  go_wp2
  go_ret
  exact ⟨rfl, H8.out.trans (hb9.mono H8.out.size)⟩
end Go.Proofs.Ytfjgbnnjfapcmaa

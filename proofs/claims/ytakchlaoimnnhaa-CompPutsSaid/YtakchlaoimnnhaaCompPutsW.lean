/- The walk of vivariumlaw07.CompPuts: it returns true, old memory unchanged. Printed by gencompputs.py. -/
import Derived.Test.YtakchlaoimnnhaaCompE
import Derived.Test.YtakchlaoimnnhaaComp5
import Derived.Test.YtakchlaoimnnhaaCompB
import Derived.Test.YtakchlaoimnnhaaCompS
import Derived.Test.YtakchlaoimnnhaaCompU
import Derived.Test.YtakchlaoimnnhaaComp8
import Derived.Deep.RegionHeld3
import Derived.OwnWalk
namespace Go.Proofs.Ytakchlaoimnnhaa
open Go.RowKit
set_option maxRecDepth 100000
set_option linter.unusedVariables false
set_option linter.unusedSimpArgs false

theorem muchB_noP {l : List Cp} (h : muchB l = false) : l.length ≤ 40 ∧ ∀ x ∈ l, x.nm.size ≤ 100 := by
  have h2 := of_decide_eq_false h
  have h3 : l.length ≤ 40 := by
    by_cases h4 : 40 < l.length
    · exact absurd (.inl h4) h2
    · omega
  have h5 : bigTo l l.length := Classical.not_not.1 (fun h6 => h2 (.inr h6))
  refine ⟨h3, fun x hx => ?_⟩
  obtain ⟨i, hi, rfl⟩ := List.getElem_of_mem hx
  have := h5 i hi (by omega)
  rwa [nmAt_of (List.getElem?_eq_getElem hi)] at this
theorem confB_len (c : Cf) (h : c.l.length ≤ 1000) : (confB c).length ≤ 65538100 := by
  unfold confB
  have h1 := numsB_len c 4
  have h2 := compsB_len c.l c.l.length
  rw [List.length_append, List.length_append, leB_len]
  omega
theorem info_intP : (Try.prog.info? 3).map (fun i => (i.zero, i.size, i.bytes)) = some (some (.int .i64 0), 1, 8) := by kernel_rfl
set_option maxHeartbeats 8000000 in
theorem compPuts_walk (c : Cf) (u : Value) (F : Nat → Prop) (w : World) (hu : CL w F u c.l) :
    Calls Try.prog 13 #[confV c u] w fun e w' => e = .returned (.bool true) ∧ Below w.heap.size w w' := by
  have hu0 := hu
  obtain ⟨i0, hi0, hz0, hz1, hz2⟩ := info_parts info_intP
  obtain ⟨A, cap, rfl, hnc, hcm, -⟩ := hu
  have B0 := Lib.hid (BF.first hu0)
  have HU := Lib.hid hu0
  have MU := Lib.hid (fun (W : World) (h : CL W F (.slice A c.l.length cap) c.l) => rmuch_any c _ F W h)
  obtain ⟨mb, hmb⟩ : ∃ b, b = muchB c.l := ⟨_, rfl⟩
  rw [← hmb] at MU
  cases mb with
  | true =>
    clear hmb
    unfold confV at MU ⊢
    obtain ⟨n, hn⟩ : ∃ n, n = c.l.length := ⟨_, rfl⟩
    rw [← hn] at hnc HU B0 MU ⊢
    obtain ⟨log, pages, ents, gens, l⟩ := c
    simp only at hnc HU B0 MU hn ⊢
    clear hn
    go_enter Try.func13, Try.ntmps13
    go_upto_region 1 with fail
    refine wp_world (S := BF w F ⟨log, pages, ents, gens, l⟩ (.slice A n cap)) B0.out ?_
    intro X hX
    have HX := Lib.hid hX
    clear hX B0
    obtain ⟨x0, x1, x2, x3, x4, xf⟩ := cells5 HX.out.1
    have CX0 := HX.out.2.1
    go_wp2_with fail
    with_reducible refine (MU.out X CX0).mono ?_
    rintro e w1 ⟨rfl, hb1⟩
    have K1 := Lib.hid (Keep.of_below' hb1)
    clear hb1 CX0 MU
    go_wp2_with fail
    with_reducible refine (live07 _).mono ?_
    rintro e w2 ⟨rfl, hb2⟩
    go_wp2
    go_ret
    exact ⟨rfl, HX.out.2.2.trans ((K1.out.trans (Keep.of_below' hb2) (fun _ _ h => h)).to_below'.mono HX.out.2.2.size)⟩
  | false =>
    obtain ⟨h40, hsm⟩ := muchB_noP hmb.symm
    have PU := Lib.hid (fun (W : World) (h : CL W F (.slice A c.l.length cap) c.l) => cputF_any c _ F W h (by omega) (fun x hx => by have := hsm x hx; omega))
    have RB := Lib.hid (fun (W : World) (h : CL W F (.slice A c.l.length cap) c.l) => rbytesF_any c _ F W h (by omega) (fun x hx => by have := hsm x hx; omega))
    have RR := Lib.hid (fun (W : World) (h : CL W F (.slice A c.l.length cap) c.l) => rright_any c _ F W h (fun x hx => by have := hsm x hx; omega))
    have GC := Lib.hid (show rightB c = true → getF (confB c) = (c, 0) from getF_confB)
    have SO := Lib.hid (show rightB c = true → (0 ≤ c.log ∧ c.log ≤ 1024) ∧ (0 ≤ c.pages ∧ c.pages ≤ 1024) from fun h => by
      have := (of_decide_eq_true h).1
      unfold sizesOk at this
      omega)
    have CG := Lib.hid (fun (W : World) v (F2 : Nat → Prop) (h : By W F2 v (confB c)) => cgetF_any (confB c) v F2 W h (by have := confB_len c (by omega); omega))
    have AL := Lib.hid (fun (W : World) (h : CL W F (.slice A c.l.length cap) c.l) => call_any c _ F W h (by omega))
    have SE := Lib.hid (fun (W : World) (h : CL W F (.slice A c.l.length cap) c.l) h1 h2 => csectors_any c _ F W h h1 h2)
    have SF := Lib.hid (fun (W : World) v (G : Nat → Prop) (h1 : CL W G v c.l) (h : CL W F (.slice A c.l.length cap) c.l) => rsameF c v _ G F W h1 h (by omega))
    have h41 : c.l.length ≤ 40 := h40
    generalize confB c = cb at *
    generalize rightB c = rb at *
    clear hmb hsm h40
    unfold confV at MU PU RB RR AL SE SF ⊢
    obtain ⟨n, hn⟩ : ∃ n, n = c.l.length := ⟨_, rfl⟩
    rw [← hn] at hnc HU B0 h41 MU PU RB RR AL SE SF ⊢
    obtain ⟨log, pages, ents, gens, l⟩ := c
    simp only at hnc HU B0 hn MU PU RB RR GC SO CG AL SE SF h41 ⊢
    clear hn
    go_enter Try.func13, Try.ntmps13
    go_upto_region 1 with fail
    refine wp_world (S := BF w F ⟨log, pages, ents, gens, l⟩ (.slice A n cap)) B0.out ?_
    intro X hX
    have HX := Lib.hid hX
    clear hX B0
    obtain ⟨x0, x1, x2, x3, x4, xf⟩ := cells5 HX.out.1
    have CX0 := HX.out.2.1
    go_wp2_with fail
    with_reducible refine (MU.out X CX0).mono ?_
    rintro e w1 ⟨rfl, hb1⟩
    have K1 := Lib.hid (Keep.of_below' hb1)
    clear hb1 CX0 MU
    have CX := Lib.hid (show ∀ W, Keep (fun _ => False) X W → CL W F (.slice A n cap) l from fun W hk => HX.out.2.1.same hk)
    have BX := Lib.hid (show ∀ W, Keep (fun _ => False) X W → (W.cell? ⟨w.heap.size, 0, none⟩ = some (.int .i64 log) ∧ W.cell? ⟨w.heap.size, 1, none⟩ = some (.int .i64 pages) ∧ W.cell? ⟨w.heap.size, 2, none⟩ = some (.int .i64 ents) ∧ W.cell? ⟨w.heap.size, 3, none⟩ = some (.int .i64 gens) ∧ W.cell? ⟨w.heap.size, 4, none⟩ = some (.slice A n cap) ∧ Keep (fun _ => False) X W) from fun W hk =>
      have q := cells5 ((hk.block _ (Array.getElem?_eq_some_iff.1 HX.out.1).1 (fun h => h)).trans HX.out.1)
      ⟨q.1, q.2.1, q.2.2.1, q.2.2.2.1, q.2.2.2.2.1, hk⟩)
    clear x0 x1 x2 x3 x4 xf
    obtain ⟨x0, x1, x2, x3, x4, -⟩ := BX.out w1 K1.out
    have q1 := CX.out w1 K1.out
    go_wp2_with fail
    with_reducible refine (PU.out w1 q1).mono ?_
    rintro e w2 ⟨A2, n2, c2, rfl, hy2, hb2⟩
    have K2 := Lib.hid (K1.out.trans (Keep.of_below' hb2) (fun _ _ h => h))
    have Y2 := Lib.hid (show ∀ W, Keep (fun _ => False) w2 W → By W _ (.slice A2 n2 c2) cb from fun W hk => hy2.keep hk (fun _ _ _ h => h))
    clear hb2 hy2 q1 x0 x1 x2 x3 x4
    obtain ⟨x0, x1, x2, x3, x4, -⟩ := BX.out w2 K2.out
    have q2 := CX.out w2 K2.out
    go_wp2_with fail
    with_reducible refine (RB.out w2 q2).mono ?_
    rintro e w3 ⟨A3, n3, c3, rfl, hy3, hb3⟩
    have K23 := Lib.hid (Keep.of_below' hb3)
    have K3 := Lib.hid (K2.out.trans K23.out (fun _ _ h => h))
    have SB := same_any cb cb _ _ _ _ w3 (Y2.out w3 K23.out) hy3
    rw [decide_eq_true rfl] at SB
    clear hb3 hy3 q2 x0 x1 x2 x3 x4
    obtain ⟨x0, x1, x2, x3, x4, -⟩ := BX.out w3 K3.out
    go_wp2_with fail
    refine SB.mono ?_
    rintro e w4 ⟨rfl, rfl⟩
    clear SB
    have q3 := CX.out w3 K3.out
    go_wp2_with fail
    with_reducible refine (RR.out w3 q3).mono ?_
    rintro e w5 ⟨rfl, hb5⟩
    have K25 := Lib.hid (K23.out.trans (Keep.of_below' hb5) (fun _ _ h => h))
    have K5 := Lib.hid (K2.out.trans K25.out (fun _ _ h => h))
    clear hb5 q3 x0 x1 x2 x3 x4
    cases rb with
    | false =>
      go_wp2_with fail
      with_reducible refine (live07 _).mono ?_
      rintro e w6 ⟨rfl, hb6⟩
      go_wp2
      go_ret
      exact ⟨rfl, HX.out.2.2.trans ((K5.out.trans (Keep.of_below' hb6) (fun _ _ h => h)).to_below'.mono HX.out.2.2.size)⟩
    | true =>
      rw [GC.out rfl] at CG
      obtain ⟨hlog, hpages⟩ := SO.out rfl
      have SE2 := Lib.hid (fun (W : World) (h : CL W F (.slice A n cap) l) => SE.out W h hlog hpages)
      have ew1 : IntKind.i64.wrap (log + pages) = log + pages := IntWalk.i64_in _ (by omega)
      have ew2 : IntKind.i64.wrap (log + pages + 2) = log + pages + 2 := IntWalk.i64_in _ (by omega)
      have ee1 : ((log + pages + 2) == (log + pages + 2)) = true := by simp
      clear GC SO SE hlog hpages PU RB RR
      go_wp2
      go_loopw [4, 5] (fun t i wr => ∃ k : Nat, k ≤ n ∧ i = .int .i64 k ∧ ∃ A0 n0 c0, t = .slice A0 n0 c0 ∧ Hid (Own wr w5.heap.size 3 1 (.slice A0 n0 c0) k (iv ((idxL n).take k)) ∧ Keep (fun _ => False) w5 wr)) (fun _ i _ => n - (intOf i).toNat)
      case atStart => exact ⟨0, by omega, rfl, none, 0, 0, rfl, Lib.hid ⟨Own.none_ _ _ _ _ _, Keep.refl _ _⟩⟩
      case round =>
        obtain ⟨k, hk, rfl, A0, n0, c0, rfl, HG⟩ := hrel
        have K6 := Lib.hid (K5.out.trans HG.out.2 (fun _ _ h => h))
        obtain ⟨x0, x1, x2, x3, x4, -⟩ := BX.out _ K6.out
        by_cases hlt : k < n
        · have hi : (k : Int) < (n : Int) := by omega
          have HE := Lib.hid (show iv ((idxL n).take (k + 1)) = iv ((idxL n).take k) ++ [.int .i64 (k : Int)] from by rw [List.take_add_one, idxL_at hlt]; unfold iv; rw [List.map_append]; rfl)
          have HO := Lib.hid (HG.out.1.keep ((Keep.refl (fun _ => False) wr).alloc (.cells #[.int .i64 (k : Int)] 3 (0, 0))) (fun _ _ h => h))
          have y0 := (cells1 (heap_alloc_new wr (.cells #[.int .i64 (k : Int)] 3 (0, 0)))).1
          go_wp2_with (at_builtin; refine wpList_append_gen _ rfl _ _ _ _ rfl w5.heap.size 3 i0 _ 1 8 Try.underlying74 hi0 hz0 hz1 hz2 rfl _ _ _ rfl HO.out _ 1 _ rfl (src_at Try.underlying74 rfl y0) (by unfold maxLen; omega) (by omega) (by have := HG.out.2.size; simp; omega) ?_)
          intro v6 w6 ho6 hk6 _
          obtain ⟨A6, c6, rfl, -⟩ := ho6.form
          have HG6 := Lib.hid (And.intro (show Own w6 w5.heap.size 3 1 (.slice A6 (k + 1) c6) (k + 1) (iv ((idxL n).take (k + 1))) from by rw [HE.out]; exact ho6) (show Keep (fun _ => False) w5 w6 from Keep.trans (HG.out.2.alloc _) hk6 (fun x hx e => by have := (Own.ownB HG.out.1 x e).1; omega)))
          clear ho6 hk6 HO y0 x0 x1 x2 x3 x4
          go_wp2
          go_roundw
          case rel => exact ⟨k + 1, by omega, by go_num, A6, k + 1, c6, by first | rfl | trivial, HG6⟩
          case measure => simp [intOf]; omega
        · obtain rfl : k = n := by omega
          have hi : ¬ (k : Int) < (k : Int) := by omega
          have eL : (idxL k).take k = idxL k := List.take_of_length_le (by rw [idxL_len]; omega)
          obtain ⟨A7, c7, e7, -, -, -, g4⟩ := HG.out.1.sl
          injection e7 with e71 e72 e73
          have g5 : Rd wr (fun b => w5.heap.size ≤ b) A0 n0 (iv (idxL k)) := by
            rw [eL, Nat.mul_one, ← e71] at g4
            rw [e72]
            exact g4
          have N0 := Lib.hid e72
          clear e71 e72 e73
          have OF := Lib.hid (show ∀ W, Keep (fun _ => False) wr W → Calls Try.prog 52 #[.slice A0 n0 c0] W (fun e w' => e = .returned (.int .u64 (orL (idxL k) 0 : Nat)) ∧ W = w') from fun W hk => by
            rw [of_eq]
            exact refOf_any (idxL k) A0 n0 c0 _ W (g5.keep hk (fun _ _ _ h => h)) (by have := N0.out; omega))
          have K26 := Lib.hid (K25.out.trans HG.out.2 (fun _ _ h => h))
          clear g4 g5 eL
          have CG2 := CG.out wr _ _ (Y2.out wr K26.out)
          go_wp2_with fail
          with_reducible refine CG2.mono ?_
          rintro e w7 ⟨A8, n8, c8, rfl, hcl, hb7⟩
          unfold confV
          have H7 := Lib.hid (And.intro hcl (Keep.of_below' hb7))
          clear hcl hb7 CG2 x0 x1 x2 x3 x4
          go_upto_region 14 with fail
          refine wp_world (S := fun Z => (Z.heap[w7.heap.size]? = some (.cells #[.int .i64 log, .int .i64 pages, .int .i64 ents, .int .i64 gens, .slice A8 n8 c8] 66 (0, 0)) ∧ CL Z _ (.slice A8 n8 c8) l) ∧ Keep (fun _ => False) wr Z) ⟨⟨heap_alloc_new w7 _, H7.out.1.same ((Keep.refl _ w7).alloc _)⟩, H7.out.2.alloc _⟩ ?_
          intro Z hZ
          have HZ := Lib.hid hZ
          clear hZ H7
          generalize w7.heap.size = P at *
          obtain ⟨y0, y1, y2, y3, y4, yf⟩ := cells5 HZ.out.1.1
          have KZ := Lib.hid (K6.out.trans HZ.out.2 (fun _ _ h => h))
          generalize orL (idxL k) 0 = so at *
          have ee2 : ((so : Int) == (so : Int)) = true := by simp
          have YX := Lib.hid (show ∀ W', Keep (fun _ => False) Z W' → ((W'.cell? ⟨P, 0, none⟩ = some (.int .i64 log) ∧ W'.cell? ⟨P, 1, none⟩ = some (.int .i64 pages) ∧ W'.cell? ⟨P, 2, none⟩ = some (.int .i64 ents) ∧ W'.cell? ⟨P, 3, none⟩ = some (.int .i64 gens) ∧ W'.cell? ⟨P, 4, none⟩ = some (.slice A8 n8 c8)) ∧ (W'.cell? ⟨w.heap.size, 0, none⟩ = some (.int .i64 log) ∧ W'.cell? ⟨w.heap.size, 1, none⟩ = some (.int .i64 pages) ∧ W'.cell? ⟨w.heap.size, 2, none⟩ = some (.int .i64 ents) ∧ W'.cell? ⟨w.heap.size, 3, none⟩ = some (.int .i64 gens) ∧ W'.cell? ⟨w.heap.size, 4, none⟩ = some (.slice A k cap)) ∧ Keep (fun _ => False) Z W') from fun W' hk =>
            have q := BX.out W' (KZ.out.trans hk (fun _ _ h => h))
            ⟨⟨hk.cell (fun h => h) y0, hk.cell (fun h => h) y1, hk.cell (fun h => h) y2, hk.cell (fun h => h) y3, hk.cell (fun h => h) y4⟩, ⟨q.1, q.2.1, q.2.2.1, q.2.2.2.1, q.2.2.2.2.1⟩, hk⟩)
          have CZ := Lib.hid (show ∀ W', Keep (fun _ => False) Z W' → CL W' F (.slice A k cap) l from fun W' hk => CX.out W' (KZ.out.trans hk (fun _ _ h => h)))
          have SF2 := Lib.hid (fun (W' : World) (hk : Keep (fun _ => False) Z W') => SF.out W' (.slice A8 n8 c8) _ (HZ.out.1.2.same hk) (CZ.out W' hk))
          go_region_held3 (fun W' => (W'.cell? ⟨P, 0, none⟩ = some (.int .i64 log) ∧ W'.cell? ⟨P, 1, none⟩ = some (.int .i64 pages) ∧ W'.cell? ⟨P, 2, none⟩ = some (.int .i64 ents) ∧ W'.cell? ⟨P, 3, none⟩ = some (.int .i64 gens) ∧ W'.cell? ⟨P, 4, none⟩ = some (.slice A8 n8 c8)) ∧ (W'.cell? ⟨w.heap.size, 0, none⟩ = some (.int .i64 log) ∧ W'.cell? ⟨w.heap.size, 1, none⟩ = some (.int .i64 pages) ∧ W'.cell? ⟨w.heap.size, 2, none⟩ = some (.int .i64 ents) ∧ W'.cell? ⟨w.heap.size, 3, none⟩ = some (.int .i64 gens) ∧ W'.cell? ⟨w.heap.size, 4, none⟩ = some (.slice A k cap)) ∧ Keep (fun _ => False) Z W') (exact YX.out _ (by exact (by repeat first | assumption | exact Keep.refl _ _ | refine Keep.alloc ?_ _ | refine Keep.drew ?_ | refine Keep.drewN ?_ _ | refine Keep.setCell ?_ (.inl (by first | omega | (simp; done) | (simp; omega))) _)))
            (first
              | (go_at_call 45; (with_reducible refine (SF2.out _ (by exact (by repeat first | assumption | exact Keep.refl _ _ | refine Keep.alloc ?_ _ | refine Keep.drew ?_ | refine Keep.drewN ?_ _ | refine Keep.setCell ?_ (.inl (by first | omega | (simp; done) | (simp; omega))) _))).mono ?_); rintro e w10 ⟨rfl, hb10⟩; have hk10 : Keep (fun _ => False) Z w10 := Keep.trans (T := fun _ => False) (by exact (by repeat first | assumption | exact Keep.refl _ _ | refine Keep.alloc ?_ _ | refine Keep.drew ?_ | refine Keep.drewN ?_ _ | refine Keep.setCell ?_ (.inl (by first | omega | (simp; done) | (simp; omega))) _)) (Keep.of_below' hb10) (fun _ _ h => h); clear hb10)
              | (go_at_call 46; (with_reducible refine (code07 _ _).mono ?_); rintro e w11 ⟨rfl, rfl⟩)
              | (go_at_call 51; (with_reducible refine (AL.out _ (by exact CZ.out _ (by exact (by repeat first | assumption | exact Keep.refl _ _ | refine Keep.alloc ?_ _ | refine Keep.drew ?_ | refine Keep.drewN ?_ _ | refine Keep.setCell ?_ (.inl (by first | omega | (simp; done) | (simp; omega))) _)))).mono ?_); rintro e w12 ⟨rfl, hb12⟩; have hk12 : Keep (fun _ => False) Z w12 := Keep.trans (T := fun _ => False) (by exact (by repeat first | assumption | exact Keep.refl _ _ | refine Keep.alloc ?_ _ | refine Keep.drew ?_ | refine Keep.drewN ?_ _ | refine Keep.setCell ?_ (.inl (by first | omega | (simp; done) | (simp; omega))) _)) (Keep.of_below' hb12) (fun _ _ h => h); clear hb12)
              | (go_at_call 52; (with_reducible refine (OF.out _ (by exact HZ.out.2.trans (by exact (by repeat first | assumption | exact Keep.refl _ _ | refine Keep.alloc ?_ _ | refine Keep.drew ?_ | refine Keep.drewN ?_ _ | refine Keep.setCell ?_ (.inl (by first | omega | (simp; done) | (simp; omega))) _)) (fun _ _ h => h))).mono ?_); rintro e w13 ⟨rfl, rfl⟩)
              | (go_at_call 53; (with_reducible refine (SE2.out _ (by exact CZ.out _ (by exact (by repeat first | assumption | exact Keep.refl _ _ | refine Keep.alloc ?_ _ | refine Keep.drew ?_ | refine Keep.drewN ?_ _ | refine Keep.setCell ?_ (.inl (by first | omega | (simp; done) | (simp; omega))) _)))).mono ?_); rintro e w14 ⟨rfl, hb14⟩; have hk14 : Keep (fun _ => False) Z w14 := Keep.trans (T := fun _ => False) (by exact (by repeat first | assumption | exact Keep.refl _ _ | refine Keep.alloc ?_ _ | refine Keep.drew ?_ | refine Keep.drewN ?_ _ | refine Keep.setCell ?_ (.inl (by first | omega | (simp; done) | (simp; omega))) _)) (Keep.of_below' hb14) (fun _ _ h => h); clear hb14)
              | (go_at_call 42; (with_reducible refine (live07 _).mono ?_); rintro e w15 ⟨rfl, hb15⟩; have hk15 : Keep (fun _ => False) Z w15 := Keep.trans (T := fun _ => False) (by exact (by repeat first | assumption | exact Keep.refl _ _ | refine Keep.alloc ?_ _ | refine Keep.drew ?_ | refine Keep.drewN ?_ _ | refine Keep.setCell ?_ (.inl (by first | omega | (simp; done) | (simp; omega))) _)) (Keep.of_below' hb15) (fun _ _ h => h); clear hb15)
              | fail)
          go_wp2
          go_ret
          exact ⟨rfl, HX.out.2.2.trans ((KZ.out.trans hk15 (fun _ _ h => h)).to_below'.mono HX.out.2.2.size)⟩
end Go.Proofs.Ytakchlaoimnnhaa

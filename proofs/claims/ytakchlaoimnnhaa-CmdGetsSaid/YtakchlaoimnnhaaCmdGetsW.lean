/- The walk of vivariumlaw13.CmdGets: it returns true, old memory unchanged. -/
import Derived.Test.YtakchlaoimnnhaaCmdLv
import Derived.Test.YtakchlaoimnnhaaCmdW
import Derived.Test.YtakchlaoimnnhaaCmdX
import Derived.Test.YtakchlaoimnnhaaCmdK
import Derived.Test.YtakchlaoimnnhaaCmd5
import Derived.Deep.DeepCutAuto
import Derived.Deep.RegionHeld3
import Derived.OwnWalk
namespace Go.Proofs.Ytakchlaoimnnhaa
open Go.RowKit
set_option maxRecDepth 100000
set_option linter.unusedVariables false
set_option linter.unusedSimpArgs false

/-- Two commands' boxes. -/
def CB2 (w : World) (p q : Nat) (x : Cmd) (u v : Value) (W : World) : Prop :=
  W.heap[p]? = some (.cells #[.int .i64 x.do_, .bool x.loc, .int .i64 x.idx, .int .i64 x.gen, .int .i64 x.comp, u] 39 (0, 0)) ∧
  W.heap[q]? = some (.cells #[.int .i64 x.do_, .bool x.loc, .int .i64 x.idx, .int .i64 x.gen, .int .i64 x.comp, v] 39 (0, 0)) ∧
  By W (fun _ => True) u x.l ∧ By W (fun _ => True) v x.l ∧ Keep (fun _ => False) w W
theorem cb2_drew {w W : World} {p q : Nat} {x : Cmd} {u v : Value} (h : CB2 w p q x u v W) : CB2 w p q x u v W.drew :=
  ⟨h.1, h.2.1, h.2.2.1.keep ((Keep.refl (fun _ => False) W).drew) (fun _ _ _ h => h), h.2.2.2.1.keep ((Keep.refl (fun _ => False) W).drew) (fun _ _ _ h => h), h.2.2.2.2.drew⟩
theorem cb2_next {w W W' : World} {p q : Nat} {x : Cmd} {u v : Value} (h : CB2 w p q x u v W) (hb : Below W.heap.size W W') : CB2 w p q x u v W' :=
  ⟨(hb.block _ (Array.getElem?_eq_some_iff.1 h.1).1).trans h.1, (hb.block _ (Array.getElem?_eq_some_iff.1 h.2.1).1).trans h.2.1, h.2.2.1.below hb, h.2.2.2.1.below hb, h.2.2.2.2.trans (Keep.of_below' hb) (fun _ _ h => h)⟩
theorem cb2_cells {w W : World} {p q : Nat} {x : Cmd} {u v : Value} (h : CB2 w p q x u v W) :
    (W.cell? ⟨p, 0, none⟩ = some (.int .i64 x.do_) ∧ W.cell? ⟨p, 1, none⟩ = some (.bool x.loc) ∧ W.cell? ⟨p, 2, none⟩ = some (.int .i64 x.idx) ∧ W.cell? ⟨p, 3, none⟩ = some (.int .i64 x.gen) ∧ W.cell? ⟨p, 4, none⟩ = some (.int .i64 x.comp) ∧ W.cell? ⟨p, 5, none⟩ = some u) ∧
    (W.cell? ⟨q, 0, none⟩ = some (.int .i64 x.do_) ∧ W.cell? ⟨q, 1, none⟩ = some (.bool x.loc) ∧ W.cell? ⟨q, 2, none⟩ = some (.int .i64 x.idx) ∧ W.cell? ⟨q, 3, none⟩ = some (.int .i64 x.gen) ∧ W.cell? ⟨q, 4, none⟩ = some (.int .i64 x.comp) ∧ W.cell? ⟨q, 5, none⟩ = some v) := by
  obtain ⟨x0, x1, x2, x3, x4, x5, _⟩ := cells6 h.1
  obtain ⟨y0, y1, y2, y3, y4, y5, _⟩ := cells6 h.2.1
  exact ⟨⟨x0, x1, x2, x3, x4, x5⟩, ⟨y0, y1, y2, y3, y4, y5⟩⟩
set_option maxHeartbeats 4000000 in
theorem cmdGets_walk (b : List UInt8) (v : Value) (F : Nat → Prop) (at_ : Int) (w : World) (hv : By w F v b) (hlo : -9223372036854775808 ≤ at_) (hhi : at_ ≤ 9223372036854775807) :
    Calls Try.prog 6 #[v, .int .i64 at_] w fun e w' => e = .returned (.bool true) ∧ Below w.heap.size w w' := by
  obtain ⟨A, c, rfl, hbc, hcm, hnil, -⟩ := id hv
  by_cases hbig : 400 < b.length
  · clear hv
    generalize b.length = n at *
    go_enter Try.func6, Try.ntmps6
    go_wp2_with (go_at_call 24; (with_reducible refine (live13 _).mono ?_); rintro e w4 ⟨rfl, hb4⟩)
    go_ret
    exact ⟨rfl, (show Below w.heap.size w _ from (by repeat first | exact Below.refl _ _ | refine Below.setCell ?_ (by first | omega | (simp; done) | (simp; omega)) _ | refine Below.alloc ?_ (by first | omega | (simp; done) | (simp; omega)) _ | refine Below.drew ?_ | refine below_drewN ?_ _ | assumption)).trans (hb4.mono (by simp))⟩
  have CG := Lib.hid (cget_any b _ F at_ w hv (by omega) hlo hhi)
  have RG := Lib.hid (fun W (hk : Keep (fun _ => False) w W) => rget_any b _ F at_ W (hv.keep hk (fun _ _ _ h => h)) (by omega) hlo hhi)
  rw [getP_refP b at_] at CG
  have LW := Lib.hid (bytes_refP (b := b) (at_ := at_))
  generalize refP b at_ = r at *
  obtain ⟨x, nx, f⟩ := r
  by_cases he : f = 0
  · obtain ⟨l0, l1, l2, l3, l4⟩ := LW.out he
    obtain ⟨a, rfl⟩ := Int.eq_ofNat_of_zero_le l0
    obtain ⟨z, rfl⟩ := Int.eq_ofNat_of_zero_le (show 0 ≤ nx by simp only at l1; omega)
    simp only at l1 l2 l4
    have haz : a ≤ z := by omega
    have hzb : z ≤ b.length := by omega
    obtain ⟨A', hA'⟩ : ∃ A' : Option Addr, A' = if c = a then A else A.map (fun x => x.add a) := ⟨_, rfl⟩
    have RB := Lib.hid (show ∀ W, Keep (fun _ => False) w W → By W F (.slice A' (z - a) (c - a)) (bytesC x) from fun W hk => by
      have e3 : bytesC x = (b.drop a).take (z - a) := by
        have : ((z : Int) - a).toNat = z - a := by omega
        rw [← this]; exact l3
      rw [e3]
      by_cases hc : c = a
      · rw [hA', if_pos hc, show z - a = 0 by omega, show c - a = 0 by omega, List.take_zero]
        exact By.zero W F A
      · exact (hv.keep hk (fun _ _ _ h => h)).piece (A' := A') (lo := a) (m := z - a) (c' := c - a) (by omega) (fun _ x hx => by rw [hA', if_neg hc, hx]; rfl) (by omega) (by omega) (fun hh => by
          rw [hA', if_neg hc] at hh
          rcases A with _ | x
          · have := hnil rfl; omega
          · cases hh))
    clear LW hv l3
    generalize b.length = n at *
    have f2 : (a : Int) ≤ (c : Int) := by omega
    have f3 : (z : Int) ≤ (c : Int) := by omega
    have f0 : (0 : Int) ≤ (a : Int) := by omega
    have f1 : (a : Int) ≤ (z : Int) := by omega
    have f4 : (0 : Int) ≤ (z : Int) := by omega
    have hac : a ≤ c := by omega
    have hzc : z ≤ c := by omega
    have PN := Lib.hid (fun W u (h : By W (fun _ => True) u x.l) => cput_any x u (.slice none 0 0) [] (fun _ => True) _ W (By.nil _ _) (by decide) h (by omega))
    have SM := Lib.hid (fun W u (G : Nat → Prop) (h : By W G u (bytesC x)) (hk : Keep (fun _ => False) w W) => same_any (bytesC x) (bytesC x) u _ G F W h (RB.out W hk))
    rw [decide_eq_true rfl] at SM
    by_cases hc : c = a
    case' pos =>
      rw [if_pos hc] at hA'
      subst hA'
      obtain rfl : z = a := by omega
      rw [show c - z = 0 by omega, show z - z = 0 by omega] at SM RB
      simp only [hc] at CG RG
    case' neg => rw [if_neg hc] at hA'; subst hA'
    all_goals
      go_enter Try.func6, Try.ntmps6
      go_wp2_with fail
      with_reducible refine CG.out.mono ?_
      rintro e w1 ⟨A1, n1, c1, rfl, hy1, hb1⟩
      have H1 := Lib.hid (And.intro hy1 hb1)
      clear hy1 hb1 CG
      unfold cmdV
      go_wp2_with fail
      with_reducible refine (RG.out _ (by exact (Keep.of_below' H1.out.2).alloc _)).mono ?_
      rintro e w2 ⟨A2, n2, c2, rfl, hy2, hb2⟩
      have H2 := Lib.hid (And.intro hy2 hb2)
      clear hy2 hb2 RG
      unfold cmdV
      go_upto_region 5 with fail
      refine wp_world (S := fun X => CB2 w w1.heap.size w2.heap.size x (.slice A1 n1 c1) (.slice A2 n2 c2) X) ?c0 ?_
      case c0 =>
        have hz2 := H2.out.2.size
        simp only [World.size_alloc] at hz2
        have k1 : Below w1.heap.size w1 w2 := Below.trans (by exact (by repeat first | exact Below.refl _ _ | refine Below.setCell ?_ (by first | omega | (simp; done) | (simp; omega)) _ | refine Below.alloc ?_ (by first | omega | (simp; done) | (simp; omega)) _ | refine Below.drew ?_ | refine below_drewN ?_ _ | assumption)) (H2.out.2.mono (by simp))
        have k2 : Keep (fun _ => False) w2 (w2.alloc (.cells #[.int .i64 x.do_, .bool x.loc, .int .i64 x.idx, .int .i64 x.gen, .int .i64 x.comp, .slice A2 n2 c2] 39 (0, 0))) := (Keep.refl _ w2).alloc _
        exact ⟨(heap_alloc_old _ _ (by omega)).trans ((H2.out.2.block _ (by simp)).trans (heap_alloc_new w1 _)), heap_alloc_new w2 _, ((H1.out.1.below k1).keep k2 (fun _ _ _ h => h)).mono (fun _ _ _ => trivial), (H2.out.1.keep k2 (fun _ _ _ h => h)).mono (fun _ _ _ => trivial),
          ((Keep.of_below' H1.out.2).trans (Keep.of_below' k1) (fun _ _ h => h)).trans k2 (fun _ _ h => h)⟩
      intro X hX
      have HX := Lib.hid hX
      clear hX H1 H2
      obtain ⟨⟨x0, x1, x2, x3, x4, x5⟩, ⟨y0, y1, y2, y3, y4, y5⟩⟩ := cb2_cells HX.out
      have EX := Lib.hid (exact_any x x _ _ _ _ X HX.out.2.2.1 HX.out.2.2.2.1)
      rw [exactC_self] at EX
      unfold cmdV at EX
      go_wp2_with fail
      with_reducible refine EX.out.mono ?_
      rintro e w3 ⟨rfl, hb3⟩
      have H3 := Lib.hid (cb2_next HX.out hb3)
      clear hb3 HX EX x0 x1 x2 x3 x4 x5 y0 y1 y2 y3 y4 y5
      go_wp2_with fail
      with_reducible refine (code13 _ _).mono ?_
      rintro e w4 ⟨rfl, rfl⟩
      subst he
      go_upto_region 7 with fail
      obtain ⟨⟨x0, x1, x2, x3, x4, x5⟩, ⟨y0, y1, y2, y3, y4, y5⟩⟩ := cb2_cells H3.out
      have CE := Lib.hid (show ∀ W', Keep (fun _ => False) w3 W' → (W'.cell? ⟨w1.heap.size, 0, none⟩ = some (.int .i64 x.do_) ∧ W'.cell? ⟨w1.heap.size, 1, none⟩ = some (.bool x.loc) ∧ W'.cell? ⟨w1.heap.size, 2, none⟩ = some (.int .i64 x.idx) ∧ W'.cell? ⟨w1.heap.size, 3, none⟩ = some (.int .i64 x.gen) ∧ W'.cell? ⟨w1.heap.size, 4, none⟩ = some (.int .i64 x.comp) ∧ W'.cell? ⟨w1.heap.size, 5, none⟩ = some (.slice A1 n1 c1) ∧ Keep (fun _ => False) w3 W') from fun W' hk =>
        ⟨hk.cell (fun h => h) x0, hk.cell (fun h => h) x1, hk.cell (fun h => h) x2, hk.cell (fun h => h) x3, hk.cell (fun h => h) x4, hk.cell (fun h => h) x5, hk⟩)
      have PP := Lib.hid (fun W' (hk : Keep (fun _ => False) w3 W') => PN.out W' _ (H3.out.2.2.1.keep hk (fun _ _ _ h => h)))
      unfold cmdV at PP
      rw [List.nil_append] at PP
      go_region_held3 (fun W' => W'.cell? ⟨w1.heap.size, 0, none⟩ = some (.int .i64 x.do_) ∧ W'.cell? ⟨w1.heap.size, 1, none⟩ = some (.bool x.loc) ∧ W'.cell? ⟨w1.heap.size, 2, none⟩ = some (.int .i64 x.idx) ∧ W'.cell? ⟨w1.heap.size, 3, none⟩ = some (.int .i64 x.gen) ∧ W'.cell? ⟨w1.heap.size, 4, none⟩ = some (.int .i64 x.comp) ∧ W'.cell? ⟨w1.heap.size, 5, none⟩ = some (.slice A1 n1 c1) ∧ Keep (fun _ => False) w3 W') (exact CE.out _ (by exact (by repeat first | assumption | exact Keep.refl _ _ | refine Keep.alloc ?_ _ | refine Keep.drew ?_ | refine Keep.drewN ?_ _ | refine Keep.setCell ?_ (.inl (by first | omega | (simp; done) | (simp; omega))) _)))
        (first
          | (go_at_call 29; (with_reducible refine (PP.out _ (by exact (by repeat first | assumption | exact Keep.refl _ _ | refine Keep.alloc ?_ _ | refine Keep.drew ?_ | refine Keep.drewN ?_ _ | refine Keep.setCell ?_ (.inl (by first | omega | (simp; done) | (simp; omega))) _))).mono ?_); rintro e w5 ⟨A5, n5, c5, rfl, hy5, hb5⟩; have hk5 : Keep (fun _ => False) w3 w5 := Keep.trans (T := fun _ => False) (by exact (by repeat first | assumption | exact Keep.refl _ _ | refine Keep.alloc ?_ _ | refine Keep.drew ?_ | refine Keep.drewN ?_ _ | refine Keep.setCell ?_ (.inl (by first | omega | (simp; done) | (simp; omega))) _)) (Keep.of_below' hb5) (fun _ _ h => h); have H5 := Lib.hid (And.intro hy5 (H3.out.2.2.2.2.trans hk5 (fun _ _ h => h))); clear hy5 hb5)
          | (go_at_call 20; (with_reducible refine (SM.out _ _ _ H5.out.1 H5.out.2).mono ?_); rintro e w6 ⟨rfl, rfl⟩)
          | (go_at_call 24; (with_reducible refine (live13 _).mono ?_); rintro e w7 ⟨rfl, hb7⟩; have hk7 : Keep (fun _ => False) w3 w7 := Keep.trans (T := fun _ => False) (by exact (by repeat first | assumption | exact Keep.refl _ _ | refine Keep.alloc ?_ _ | refine Keep.drew ?_ | refine Keep.drewN ?_ _ | refine Keep.setCell ?_ (.inl (by first | omega | (simp; done) | (simp; omega))) _)) (Keep.of_below' hb7) (fun _ _ h => h); clear hb7)
          | fail)
      go_wp2
      go_ret
      exact ⟨rfl, (H3.out.2.2.2.2.trans hk7 (fun _ _ h => h)).to_below'⟩
  · clear LW hv
    have e1 : (f != 0) = true := by simp [he]
    have e2 : decide (f = 0) = false := by simp [he]
    have e3 : (f == 0) = false := by simp [he]
    generalize b.length = n at *
    go_enter Try.func6, Try.ntmps6
    go_wp2_with fail
    with_reducible refine CG.out.mono ?_
    rintro e w1 ⟨A1, n1, c1, rfl, hy1, hb1⟩
    have H1 := Lib.hid (And.intro hy1 hb1)
    clear hy1 hb1 CG
    unfold cmdV
    go_wp2_with fail
    with_reducible refine (RG.out _ (by exact (Keep.of_below' H1.out.2).alloc _)).mono ?_
    rintro e w2 ⟨A2, n2, c2, rfl, hy2, hb2⟩
    have H2 := Lib.hid (And.intro hy2 hb2)
    clear hy2 hb2 RG
    unfold cmdV
    go_upto_region 5 with fail
    refine wp_world (S := fun X => CB2 w w1.heap.size w2.heap.size x (.slice A1 n1 c1) (.slice A2 n2 c2) X) ?c0 ?_
    case c0 =>
      have hz2 := H2.out.2.size
      simp only [World.size_alloc] at hz2
      have k1 : Below w1.heap.size w1 w2 := Below.trans (by exact (by repeat first | exact Below.refl _ _ | refine Below.setCell ?_ (by first | omega | (simp; done) | (simp; omega)) _ | refine Below.alloc ?_ (by first | omega | (simp; done) | (simp; omega)) _ | refine Below.drew ?_ | refine below_drewN ?_ _ | assumption)) (H2.out.2.mono (by simp))
      have k2 : Keep (fun _ => False) w2 (w2.alloc (.cells #[.int .i64 x.do_, .bool x.loc, .int .i64 x.idx, .int .i64 x.gen, .int .i64 x.comp, .slice A2 n2 c2] 39 (0, 0))) := (Keep.refl _ w2).alloc _
      exact ⟨(heap_alloc_old _ _ (by omega)).trans ((H2.out.2.block _ (by simp)).trans (heap_alloc_new w1 _)), heap_alloc_new w2 _, ((H1.out.1.below k1).keep k2 (fun _ _ _ h => h)).mono (fun _ _ _ => trivial), (H2.out.1.keep k2 (fun _ _ _ h => h)).mono (fun _ _ _ => trivial),
        ((Keep.of_below' H1.out.2).trans (Keep.of_below' k1) (fun _ _ h => h)).trans k2 (fun _ _ h => h)⟩
    intro X hX
    have HX := Lib.hid hX
    clear hX H1 H2
    obtain ⟨⟨x0, x1, x2, x3, x4, x5⟩, ⟨y0, y1, y2, y3, y4, y5⟩⟩ := cb2_cells HX.out
    have EX := Lib.hid (exact_any x x _ _ _ _ X HX.out.2.2.1 HX.out.2.2.2.1)
    rw [exactC_self] at EX
    unfold cmdV at EX
    go_wp2_with fail
    with_reducible refine EX.out.mono ?_
    rintro e w3 ⟨rfl, hb3⟩
    have H3 := Lib.hid (cb2_next HX.out hb3)
    clear hb3 HX EX x0 x1 x2 x3 x4 x5 y0 y1 y2 y3 y4 y5
    go_wp2_with fail
    with_reducible refine (code13 _ _).mono ?_
    rintro e w4 ⟨rfl, rfl⟩
    go_upto_region 7 with fail
    refine wp_region_noPanic ?_
    refine wp_region_held_drew (S := fun W' => Keep (fun _ => False) w3 W') (by kernel_rfl) ((Keep.refl _ w3).drew) (fun hHeld => ?_)
    (refine' wpAnyH_take (i := 0) (oi := _) (v := _) ?_ (by kernel_rfl) (by kernel_rfl) (by kernel_rfl) (fun _ _ _ h => h) ?_ (by assumption) ?_; rotate_left; rotate_left; (focus (first | (simp only [List.getElem?_toArray, List.getElem?_cons_succ, List.getElem?_cons_zero]; done) | (simp only [List.getElem?_toArray, List.getElem?_cons_succ, List.getElem?_cons_zero]; rfl))); (focus (refine Or.inl ⟨by rfl, ?_⟩; intro W' hSw; (try dsimp only at hSw); go_simp; try with_reducible rfl)); (try simp only [Act.put, List.setIfInBounds_toArray, List.set_cons_zero, List.set_cons_succ]))
    (refine' wpAnyH_take (i := 1) (oi := _) (v := _) ?_ (by kernel_rfl) (by kernel_rfl) (by kernel_rfl) (fun _ _ _ h => h) ?_ (by assumption) ?_; rotate_left; rotate_left; (focus (first | (simp only [List.getElem?_toArray, List.getElem?_cons_succ, List.getElem?_cons_zero]; done) | (simp only [List.getElem?_toArray, List.getElem?_cons_succ, List.getElem?_cons_zero]; rfl))); (focus (refine Or.inl ⟨by rfl, ?_⟩; intro W' hSw; (try dsimp only at hSw); go_simp; try with_reducible rfl)); (try simp only [Act.put, List.setIfInBounds_toArray, List.set_cons_zero, List.set_cons_succ]))
    (refine' wpAnyH_take (i := 2) (oi := _) (v := _) ?_ (by kernel_rfl) (by kernel_rfl) (by kernel_rfl) (fun _ _ _ h => h) ?_ (by assumption) ?_; rotate_left; rotate_left; (focus (first | (simp only [List.getElem?_toArray, List.getElem?_cons_succ, List.getElem?_cons_zero]; done) | (simp only [List.getElem?_toArray, List.getElem?_cons_succ, List.getElem?_cons_zero]; rfl))); (focus (refine Or.inl ⟨by rfl, ?_⟩; intro W' hSw; (try dsimp only at hSw); go_simp; try with_reducible rfl)); (try simp only [Act.put, List.setIfInBounds_toArray, List.set_cons_zero, List.set_cons_succ]))
    (refine' wpAnyH_take (i := 3) (oi := _) (v := undef) ?_ (by kernel_rfl) (by kernel_rfl) (by kernel_rfl) (fun _ _ _ h => h) ?_ (by assumption) ?_; rotate_left; (focus (first | (simp only [List.getElem?_toArray, List.getElem?_cons_succ, List.getElem?_cons_zero]; done) | (simp only [List.getElem?_toArray, List.getElem?_cons_succ, List.getElem?_cons_zero]; rfl))); (focus (exact Or.inr ⟨by rfl, rfl⟩)); (try simp only [Act.put, List.setIfInBounds_toArray, List.set_cons_zero, List.set_cons_succ]))
    (refine' wpAnyH_take (i := 4) (oi := _) (v := undef) ?_ (by kernel_rfl) (by kernel_rfl) (by kernel_rfl) (fun _ _ _ h => h) ?_ (by assumption) ?_; rotate_left; (focus (first | (simp only [List.getElem?_toArray, List.getElem?_cons_succ, List.getElem?_cons_zero]; done) | (simp only [List.getElem?_toArray, List.getElem?_cons_succ, List.getElem?_cons_zero]; rfl))); (focus (exact Or.inr ⟨by rfl, rfl⟩)); (try simp only [Act.put, List.setIfInBounds_toArray, List.set_cons_zero, List.set_cons_succ]))
    (refine' wpAnyH_take (i := 5) (oi := _) (v := undef) ?_ (by kernel_rfl) (by kernel_rfl) (by kernel_rfl) (fun _ _ _ h => h) ?_ (by assumption) ?_; rotate_left; (focus (first | (simp only [List.getElem?_toArray, List.getElem?_cons_succ, List.getElem?_cons_zero]; done) | (simp only [List.getElem?_toArray, List.getElem?_cons_succ, List.getElem?_cons_zero]; rfl))); (focus (exact Or.inr ⟨by rfl, rfl⟩)); (try simp only [Act.put, List.setIfInBounds_toArray, List.set_cons_zero, List.set_cons_succ]))
    (refine' wpAnyH_take (i := 6) (oi := _) (v := undef) ?_ (by kernel_rfl) (by kernel_rfl) (by kernel_rfl) (fun _ _ _ h => h) ?_ (by assumption) ?_; rotate_left; (focus (first | (simp only [List.getElem?_toArray, List.getElem?_cons_succ, List.getElem?_cons_zero]; done) | (simp only [List.getElem?_toArray, List.getElem?_cons_succ, List.getElem?_cons_zero]; rfl))); (focus (exact Or.inr ⟨by rfl, rfl⟩)); (try simp only [Act.put, List.setIfInBounds_toArray, List.set_cons_zero, List.set_cons_succ]))
    (refine' wpAnyH_take (i := 7) (oi := _) (v := undef) ?_ (by kernel_rfl) (by kernel_rfl) (by kernel_rfl) (fun _ _ _ h => h) ?_ (by assumption) ?_; rotate_left; (focus (first | (simp only [List.getElem?_toArray, List.getElem?_cons_succ, List.getElem?_cons_zero]; done) | (simp only [List.getElem?_toArray, List.getElem?_cons_succ, List.getElem?_cons_zero]; rfl))); (focus (exact Or.inr ⟨by rfl, rfl⟩)); (try simp only [Act.put, List.setIfInBounds_toArray, List.set_cons_zero, List.set_cons_succ]))
    (refine' wpAnyH_take (i := 8) (oi := _) (v := undef) ?_ (by kernel_rfl) (by kernel_rfl) (by kernel_rfl) (fun _ _ _ h => h) ?_ (by assumption) ?_; rotate_left; (focus (first | (simp only [List.getElem?_toArray, List.getElem?_cons_succ, List.getElem?_cons_zero]; done) | (simp only [List.getElem?_toArray, List.getElem?_cons_succ, List.getElem?_cons_zero]; rfl))); (focus (exact Or.inr ⟨by rfl, rfl⟩)); (try simp only [Act.put, List.setIfInBounds_toArray, List.set_cons_zero, List.set_cons_succ]))
    (refine' wpAnyH_take (i := 9) (oi := _) (v := undef) ?_ (by kernel_rfl) (by kernel_rfl) (by kernel_rfl) (fun _ _ _ h => h) ?_ (by assumption) ?_; rotate_left; (focus (first | (simp only [List.getElem?_toArray, List.getElem?_cons_succ, List.getElem?_cons_zero]; done) | (simp only [List.getElem?_toArray, List.getElem?_cons_succ, List.getElem?_cons_zero]; rfl))); (focus (exact Or.inr ⟨by rfl, rfl⟩)); (try simp only [Act.put, List.setIfInBounds_toArray, List.set_cons_zero, List.set_cons_succ]))
    (refine' wpAnyH_take (i := 10) (oi := _) (v := _) ?_ (by kernel_rfl) (by kernel_rfl) (by kernel_rfl) (fun _ _ _ h => h) ?_ (by assumption) ?_; rotate_left; rotate_left; (focus (first | (simp only [List.getElem?_toArray, List.getElem?_cons_succ, List.getElem?_cons_zero]; done) | (simp only [List.getElem?_toArray, List.getElem?_cons_succ, List.getElem?_cons_zero]; rfl))); (focus (refine Or.inl ⟨by rfl, ?_⟩; intro W' hSw; (try dsimp only at hSw); go_simp; try with_reducible rfl)); (try simp only [Act.put, List.setIfInBounds_toArray, List.set_cons_zero, List.set_cons_succ]))
    (refine' wpAnyH_take (i := 11) (oi := _) (v := _) ?_ (by kernel_rfl) (by kernel_rfl) (by kernel_rfl) (fun _ _ _ h => h) ?_ (by assumption) ?_; rotate_left; rotate_left; (focus (first | (simp only [List.getElem?_toArray, List.getElem?_cons_succ, List.getElem?_cons_zero]; done) | (simp only [List.getElem?_toArray, List.getElem?_cons_succ, List.getElem?_cons_zero]; rfl))); (focus (refine Or.inl ⟨by rfl, ?_⟩; intro W' hSw; (try dsimp only at hSw); go_simp; try with_reducible rfl)); (try simp only [Act.put, List.setIfInBounds_toArray, List.set_cons_zero, List.set_cons_succ]))
    (refine wpAnyH_ready (rs := [12]) (by kernel_rfl) (by simp) ?_; refine' AllReadyH.cons (o := _) ?_ (fun K hK => ?_) AllReadyH.nil; rotate_left; (focus (first | (simp only [List.getElem?_toArray, List.getElem?_cons_succ, List.getElem?_cons_zero]; done) | (simp only [List.getElem?_toArray, List.getElem?_cons_succ, List.getElem?_cons_zero]; rfl))))
    go_simp
    go_at_call 24
    with_reducible refine (live13 _).mono ?_
    rintro e w7 ⟨rfl, hb7⟩
    go_wp2_with fail
    refine hK.out _ _ ?_ (fun hHeld7 => ?_)
    · exact hHeld.trans (Keep.of_below' hb7) (fun _ _ h => h)
    clear hK K
    (try simp only [Act.put, List.setIfInBounds_toArray, List.set_cons_zero, List.set_cons_succ])
    (refine' wpAnyH_take (i := 13) (oi := _) (v := _) ?_ (by kernel_rfl) (by kernel_rfl) (by kernel_rfl) (fun _ _ _ h => h) ?_ (by assumption) ?_; rotate_left; rotate_left; (focus (first | (simp only [List.getElem?_toArray, List.getElem?_cons_succ, List.getElem?_cons_zero]; done) | (simp only [List.getElem?_toArray, List.getElem?_cons_succ, List.getElem?_cons_zero]; rfl))); (focus (refine Or.inl ⟨by rfl, ?_⟩; intro W' hSw; (try dsimp only at hSw); go_simp; try with_reducible rfl)); (try simp only [Act.put, List.setIfInBounds_toArray, List.set_cons_zero, List.set_cons_succ]))
    (refine' wpAnyH_take (i := 14) (oi := _) (v := _) ?_ (by kernel_rfl) (by kernel_rfl) (by kernel_rfl) (fun _ _ _ h => h) ?_ (by assumption) ?_; rotate_left; rotate_left; (focus (first | (simp only [List.getElem?_toArray, List.getElem?_cons_succ, List.getElem?_cons_zero]; done) | (simp only [List.getElem?_toArray, List.getElem?_cons_succ, List.getElem?_cons_zero]; rfl))); (focus (refine Or.inl ⟨by rfl, ?_⟩; intro W' hSw; (try dsimp only at hSw); go_simp; try with_reducible rfl)); (try simp only [Act.put, List.setIfInBounds_toArray, List.set_cons_zero, List.set_cons_succ]))
    refine wpAnyH_done (by kernel_rfl) ?_ _
    refine NoPanic.normal ?_
    go_wp2
    go_ret
    exact ⟨rfl, (H3.out.2.2.2.2.trans hHeld7 (fun _ _ h => h)).to_below'⟩
end Go.Proofs.Ytakchlaoimnnhaa

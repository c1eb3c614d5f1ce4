/- The walk of vivariumlaw07.CompGets: it returns true, old memory unchanged. -/
import Derived.Test.YtakchlaoimnnhaaCompF
import Derived.Test.YtakchlaoimnnhaaCompS
import Derived.Test.YtakchlaoimnnhaaCompT
import Derived.Test.YtakchlaoimnnhaaComp8
namespace Go.Proofs.Ytakchlaoimnnhaa
open Go.RowKit
set_option maxRecDepth 100000
set_option linter.unusedVariables false

theorem getF_len (b : List UInt8) : (getF b).1.l.length ≤ 255 := by
  by_cases h : (getF b).2 = 0
  · exact (getF_bytes h).2.1
  · have e : (getF b).1 = zeroF := by
      unfold getF at h ⊢
      split
      · rfl
      · rename_i h17
        rw [if_neg h17] at h
        cases hc : compAt b (bytC b 16).toNat with
        | none => rfl
        | some r =>
          obtain ⟨a, l⟩ := r
          rw [hc] at h
          simp only at h ⊢
          split
          · rfl
          · rename_i ha
            rw [if_neg ha] at h
            split
            · rfl
            · rename_i hr
              rw [if_neg hr] at h
              exact absurd rfl h
    rw [e]
    exact Nat.zero_le _
/-- Two layouts' boxes. -/
def FB2 (w : World) (p q : Nat) (x : Cf) (u v : Value) (W : World) : Prop :=
  (W.heap[p]? = some (.cells #[.int .i64 x.log, .int .i64 x.pages, .int .i64 x.ents, .int .i64 x.gens, u] 66 (0, 0)) ∧
  W.heap[q]? = some (.cells #[.int .i64 x.log, .int .i64 x.pages, .int .i64 x.ents, .int .i64 x.gens, v] 66 (0, 0))) ∧
  CL W (fun _ => True) u x.l ∧ CL W (fun _ => True) v x.l ∧ Keep (fun _ => False) w W
theorem CL.mono {w : World} {F G : Nat → Prop} {u : Value} {l : List Cp} (h : CL w F u l) (hf : ∀ b, b < w.heap.size → F b → G b) : CL w G u l := by
  obtain ⟨A, c, h1, h2, h3, h4, h5⟩ := h
  exact ⟨A, c, h1, h2, h3, h4.mono hf, h5⟩
theorem fb2_next {w W W' : World} {p q : Nat} {x : Cf} {u v : Value} (h : FB2 w p q x u v W) (hk : Keep (fun _ => False) W W') : FB2 w p q x u v W' :=
  ⟨⟨(hk.block _ (Array.getElem?_eq_some_iff.1 h.1.1).1 (fun h => h)).trans h.1.1, (hk.block _ (Array.getElem?_eq_some_iff.1 h.1.2).1 (fun h => h)).trans h.1.2⟩, h.2.1.same hk, h.2.2.1.same hk, h.2.2.2.trans hk (fun _ _ h => h)⟩
set_option maxHeartbeats 4000000 in
theorem compGets_walk (b : List UInt8) (v : Value) (F : Nat → Prop) (w : World) (hv : By w F v b) :
    Calls Try.prog 12 #[v] w fun e w' => e = .returned (.bool true) ∧ Below w.heap.size w w' := by
  obtain ⟨A, c, rfl, hbc, hcm, hnil, -⟩ := id hv
  by_cases hbig : 1000 < b.length
  · clear hv
    generalize b.length = n at *
    go_enter Try.func12, Try.ntmps12
    go_wp2_with (go_at_call 42; (with_reducible refine (live07 _).mono ?_); rintro e w4 ⟨rfl, hb4⟩)
    go_ret
    exact ⟨rfl, (show Below w.heap.size w _ from (by repeat first | exact Below.refl _ _ | refine Below.setCell ?_ (by first | omega | (simp; done) | (simp; omega)) _ | refine Below.alloc ?_ (by first | omega | (simp; done) | (simp; omega)) _ | refine Below.drew ?_ | refine below_drewN ?_ _ | assumption)).trans (hb4.mono (by simp))⟩
  have CG := Lib.hid (cgetF_any b _ F w hv (by omega))
  have RG := Lib.hid (fun W (hk : Keep (fun _ => False) w W) => rgetF_any b _ F W (hv.keep hk (fun _ _ _ h => h)) (by omega))
  have HV := Lib.hid (fun W (hk : Keep (fun _ => False) w W) => hv.keep hk (fun _ _ _ h => h))
  have GB := Lib.hid (getF_bytes (b := b))
  have GL := Lib.hid (getF_len b)
  generalize getF b = r at *
  obtain ⟨x, z⟩ := r
  have ez : (z == z) = true := by simp
  simp only at GL
  generalize hbl : b.length = n at *
  clear hv hbl
  by_cases he : z = 0
  case' pos =>
    obtain ⟨l1, l2, l3⟩ := GB.out he
    simp only at l1 l2 l3
    have PU := Lib.hid (fun (W : World) u (h : CL W (fun _ => True) u x.l) => cputF_any x u (fun _ => True) W h (by omega) (fun y hy => by have := l3 y hy; omega))
    rw [l1] at PU
    subst he
    clear l1 l2 l3
  case' neg =>
    have e1 : (z != 0) = true := by simp [he]
  all_goals
    go_enter Try.func12, Try.ntmps12
    go_wp2_with fail
    with_reducible refine CG.out.mono ?_
    rintro e w1 ⟨A1, n1, c1, rfl, hy1, hb1⟩
    have H1 := Lib.hid (And.intro hy1 hb1)
    clear hy1 hb1 CG
    unfold confV
    go_wp2_with fail
    with_reducible refine (RG.out _ (by exact (Keep.of_below' H1.out.2).alloc _)).mono ?_
    rintro e w2 ⟨A2, n2, c2, rfl, hy2, hb2⟩
    have H2 := Lib.hid (And.intro hy2 hb2)
    clear hy2 hb2 RG
    unfold confV
    go_upto_region 5 with fail
    refine wp_world (S := fun X => FB2 w w1.heap.size w2.heap.size x (.slice A1 n1 c1) (.slice A2 n2 c2) X) ?c0 ?_
    case c0 =>
      have hz2 := H2.out.2.size
      simp only [World.size_alloc] at hz2
      have k1 : Below w1.heap.size w1 w2 := Below.trans (by exact (by repeat first | exact Below.refl _ _ | refine Below.setCell ?_ (by first | omega | (simp; done) | (simp; omega)) _ | refine Below.alloc ?_ (by first | omega | (simp; done) | (simp; omega)) _ | refine Below.drew ?_ | refine below_drewN ?_ _ | assumption)) (H2.out.2.mono (by simp))
      have k2 : Keep (fun _ => False) w2 (w2.alloc (.cells #[.int .i64 x.log, .int .i64 x.pages, .int .i64 x.ents, .int .i64 x.gens, .slice A2 n2 c2] 66 (0, 0))) := (Keep.refl _ w2).alloc _
      exact ⟨⟨(heap_alloc_old _ _ (by omega)).trans ((H2.out.2.block _ (by simp)).trans (heap_alloc_new w1 _)), heap_alloc_new w2 _⟩, ((H1.out.1.same (Keep.of_below' k1)).same k2).mono (fun _ _ _ => trivial), (H2.out.1.same k2).mono (fun _ _ _ => trivial),
        ((Keep.of_below' H1.out.2).trans (Keep.of_below' k1) (fun _ _ h => h)).trans k2 (fun _ _ h => h)⟩
    intro X hX
    have HX := Lib.hid hX
    clear hX H1 H2
    generalize w1.heap.size = P at *
    generalize w2.heap.size = Q at *
    obtain ⟨x0, x1, x2, x3, x4, xf⟩ := cells5 HX.out.1.1
    obtain ⟨y0, y1, y2, y3, y4, yf⟩ := cells5 HX.out.1.2
    have SM := Lib.hid (rsameF x _ _ _ _ X HX.out.2.1 HX.out.2.2.1 (by have := GL.out; omega))
    unfold confV at SM
    go_wp2_with fail
    with_reducible refine SM.out.mono ?_
    rintro e w3 ⟨rfl, hb3⟩
    have H3 := Lib.hid (fb2_next HX.out (Keep.of_below' hb3))
    clear hb3 SM x0 x1 x2 x3 x4 xf y0 y1 y2 y3 y4 yf
    obtain ⟨x0, x1, x2, x3, x4, xf⟩ := cells5 H3.out.1.1
    go_wp2_with fail
    with_reducible refine (code07 _ _).mono ?_
    rintro e w4 ⟨rfl, rfl⟩
    go_wp2_with fail
  · with_reducible refine (live07 _).mono ?_
    rintro e w7 ⟨rfl, hb7⟩
    go_wp2
    go_ret
    exact ⟨rfl, (H3.out.2.2.2.trans (Keep.of_below' hb7) (fun _ _ h => h)).to_below'⟩
  · have P1 := PU.out w3 _ H3.out.2.1
    unfold confV at P1
    with_reducible refine P1.mono ?_
    rintro e w5 ⟨A5, n5, c5, rfl, hy5, hb5⟩
    have H5 := Lib.hid (And.intro hy5 (H3.out.2.2.2.trans (Keep.of_below' hb5) (fun _ _ h => h)))
    clear hy5 hb5
    have SB := same_any b b _ _ _ _ w5 H5.out.1 (HV.out w5 H5.out.2)
    rw [decide_eq_true rfl] at SB
    go_wp2_with fail
    refine SB.mono ?_
    rintro e w6 ⟨rfl, rfl⟩
    go_wp2_with fail
    with_reducible refine (live07 _).mono ?_
    rintro e w7 ⟨rfl, hb7⟩
    go_wp2
    go_ret
    exact ⟨rfl, (H5.out.2.trans (Keep.of_below' hb7) (fun _ _ h => h)).to_below'⟩
end Go.Proofs.Ytakchlaoimnnhaa

/- Acts in memory; contracts of both Right, slices.Equal at bytes, script.exact. Printed by genscr2.py. -/
import Derived.Test.YthkgchlndfcmpaaScr1
import Derived.Test.YthkgchlndfcmpaaCells12
import Derived.Test.YthkgchlndfcmpaaCmdZ
import Derived.Deep.DeepCutAuto
import Derived.OwnWalk
namespace Go.Proofs.Ythkgchlndfcmpaa
open Go.RowKit
set_option maxRecDepth 100000
set_option linter.unusedVariables false
set_option linter.unusedSimpArgs false

def actV (x : Ac) (u1 u2 u3 : Value) : Value := .agg #[.int .i64 x.do_, .int .i64 x.c.do_, .bool x.c.loc, .int .i64 x.c.idx, .int .i64 x.c.gen, .int .i64 x.c.comp, u1, .int .i64 x.room, .int .i64 x.frames, .int .i64 x.n, u2, u3]
/-- An act's data. -/
def AM (w : World) (F : Nat → Prop) (x : Ac) (u1 u2 u3 : Value) : Prop := By w F u1 x.c.l ∧ ML fcells 2 w F u2 x.fa ∧ ML icells 1 w F u3 x.fu
section
variable {w w' : World} {F G S : Nat → Prop} {x : Ac} {u1 u2 u3 : Value}
theorem AM.keep (h : AM w F x u1 u2 u3) (hk : Keep S w w') (hs : ∀ b, b < w.heap.size → F b → ¬ S b) : AM w' F x u1 u2 u3 := ⟨h.1.keep hk hs, h.2.1.keep hk hs, h.2.2.keep hk hs⟩
theorem AM.same (h : AM w F x u1 u2 u3) (hk : Keep (fun _ => False) w w') : AM w' F x u1 u2 u3 := h.keep hk (fun _ _ _ h => h)
theorem AM.mono (h : AM w F x u1 u2 u3) (hf : ∀ b, b < w.heap.size → F b → G b) : AM w G x u1 u2 u3 := ⟨h.1.mono hf, h.2.1.mono hf, h.2.2.mono hf⟩
end

set_option maxHeartbeats 4000000 in
theorem rrightA (x : Ac) (u1 u2 u3 : Value) (F : Nat → Prop) (w : World) (h : AM w F x u1 u2 u3) :
    Calls Try.prog 31 #[actV x u1 u2 u3] w fun e w' => e = .returned (.bool (rightA x)) ∧ Below w.heap.size w w' := by
  have CK := Lib.hid (fun W (hk : Keep (fun _ => False) w W) => rcheck_any x.c u1 F W (h.1.keep hk (fun _ _ _ h => h)))
  obtain ⟨⟨A1, c1, rfl, -⟩, h2, h3⟩ := h
  obtain ⟨A2, c2, rfl⟩ := h2.form
  obtain ⟨A3, c3, rfl⟩ := h3.form
  clear h2 h3
  obtain ⟨r, hr⟩ : ∃ r, r = rightA x := ⟨_, rfl⟩
  rw [← hr]
  obtain ⟨m1, hm1⟩ : ∃ m, m = x.c.l.length := ⟨_, rfl⟩
  obtain ⟨m2, hm2⟩ : ∃ m, m = x.fa.length := ⟨_, rfl⟩
  obtain ⟨m3, hm3⟩ : ∃ m, m = x.fu.length := ⟨_, rfl⟩
  unfold actV
  unfold cmdV at CK
  unfold checkC at CK
  unfold rightA at hr
  rw [← hm1] at CK hr ⊢
  rw [← hm2] at hr ⊢
  rw [← hm3] at hr ⊢
  clear hm1 hm2 hm3
  obtain ⟨d, cm, room, frames, nn, fa, fu⟩ := x
  simp only at CK hr ⊢
  by_cases t0 : d < 0
  · obtain rfl : r = false := by rw [hr, decide_eq_false (by omega)]; rfl
    clear CK hr
    go_enter Try.func31, Try.ntmps31
    go_upto_region 1 with fail
    refine wp_world (S := fun X => X.heap[w.heap.size]? = some (.cells #[.int .i64 d, .int .i64 cm.do_, .bool cm.loc, .int .i64 cm.idx, .int .i64 cm.gen, .int .i64 cm.comp, .slice A1 m1 c1, .int .i64 room, .int .i64 frames, .int .i64 nn, .slice A2 m2 c2, .slice A3 m3 c3] 45 (0, 0)) ∧ Below w.heap.size w X) ⟨heap_alloc_new w _, by exact (by repeat first | exact Below.refl _ _ | refine Below.setCell ?_ (by first | omega | (simp; done) | (simp; omega)) _ | refine Below.alloc ?_ (by first | omega | (simp; done) | (simp; omega)) _ | refine Below.drew ?_ | refine below_drewN ?_ _ | assumption)⟩ ?_
    intro X hX
    have HX := Lib.hid hX
    clear hX
    obtain ⟨x0, x1, x2, x3, x4, x5, x6, x7, x8, x9, x10, x11, xf⟩ := cells12 HX.out.1
    go_wp2
    go_ret
    exact ⟨rfl, HX.out.2⟩
  by_cases t1 : 6 < d
  · obtain rfl : r = false := by rw [hr, decide_eq_false (by omega)]; rfl
    clear CK hr
    go_enter Try.func31, Try.ntmps31
    go_upto_region 1 with fail
    refine wp_world (S := fun X => X.heap[w.heap.size]? = some (.cells #[.int .i64 d, .int .i64 cm.do_, .bool cm.loc, .int .i64 cm.idx, .int .i64 cm.gen, .int .i64 cm.comp, .slice A1 m1 c1, .int .i64 room, .int .i64 frames, .int .i64 nn, .slice A2 m2 c2, .slice A3 m3 c3] 45 (0, 0)) ∧ Below w.heap.size w X) ⟨heap_alloc_new w _, by exact (by repeat first | exact Below.refl _ _ | refine Below.setCell ?_ (by first | omega | (simp; done) | (simp; omega)) _ | refine Below.alloc ?_ (by first | omega | (simp; done) | (simp; omega)) _ | refine Below.drew ?_ | refine below_drewN ?_ _ | assumption)⟩ ?_
    intro X hX
    have HX := Lib.hid hX
    clear hX
    obtain ⟨x0, x1, x2, x3, x4, x5, x6, x7, x8, x9, x10, x11, xf⟩ := cells12 HX.out.1
    go_wp2
    go_ret
    exact ⟨rfl, HX.out.2⟩
  by_cases t2 : 65535 < m2
  · obtain rfl : r = false := by rw [hr, decide_eq_false (by omega)]; rfl
    clear CK hr
    go_enter Try.func31, Try.ntmps31
    go_upto_region 1 with fail
    refine wp_world (S := fun X => X.heap[w.heap.size]? = some (.cells #[.int .i64 d, .int .i64 cm.do_, .bool cm.loc, .int .i64 cm.idx, .int .i64 cm.gen, .int .i64 cm.comp, .slice A1 m1 c1, .int .i64 room, .int .i64 frames, .int .i64 nn, .slice A2 m2 c2, .slice A3 m3 c3] 45 (0, 0)) ∧ Below w.heap.size w X) ⟨heap_alloc_new w _, by exact (by repeat first | exact Below.refl _ _ | refine Below.setCell ?_ (by first | omega | (simp; done) | (simp; omega)) _ | refine Below.alloc ?_ (by first | omega | (simp; done) | (simp; omega)) _ | refine Below.drew ?_ | refine below_drewN ?_ _ | assumption)⟩ ?_
    intro X hX
    have HX := Lib.hid hX
    clear hX
    obtain ⟨x0, x1, x2, x3, x4, x5, x6, x7, x8, x9, x10, x11, xf⟩ := cells12 HX.out.1
    go_wp2
    go_ret
    exact ⟨rfl, HX.out.2⟩
  by_cases t3 : 65535 < m3
  · obtain rfl : r = false := by rw [hr, decide_eq_false (by omega)]; rfl
    clear CK hr
    go_enter Try.func31, Try.ntmps31
    go_upto_region 1 with fail
    refine wp_world (S := fun X => X.heap[w.heap.size]? = some (.cells #[.int .i64 d, .int .i64 cm.do_, .bool cm.loc, .int .i64 cm.idx, .int .i64 cm.gen, .int .i64 cm.comp, .slice A1 m1 c1, .int .i64 room, .int .i64 frames, .int .i64 nn, .slice A2 m2 c2, .slice A3 m3 c3] 45 (0, 0)) ∧ Below w.heap.size w X) ⟨heap_alloc_new w _, by exact (by repeat first | exact Below.refl _ _ | refine Below.setCell ?_ (by first | omega | (simp; done) | (simp; omega)) _ | refine Below.alloc ?_ (by first | omega | (simp; done) | (simp; omega)) _ | refine Below.drew ?_ | refine below_drewN ?_ _ | assumption)⟩ ?_
    intro X hX
    have HX := Lib.hid hX
    clear hX
    obtain ⟨x0, x1, x2, x3, x4, x5, x6, x7, x8, x9, x10, x11, xf⟩ := cells12 HX.out.1
    go_wp2
    go_ret
    exact ⟨rfl, HX.out.2⟩
  have g0 : 0 ≤ d := by omega
  have g6 : d ≤ 6 := by omega
  have g2 : (m2 : Int) ≤ 65535 := by omega
  have g3 : (m3 : Int) ≤ 65535 := by omega
  rw [decide_eq_true (by omega), Bool.true_and] at hr
  by_cases z : d = 0
  · subst z
    obtain ⟨q, hq⟩ : ∃ q : Int, q = (if knownC cm.do_ = false then (1 : Int) else if 64 < m1 then 13 else 0) := ⟨_, rfl⟩
    have hrq : r = (q == 0) := by
      rw [hr, hq]
      cases knownC cm.do_
      · rfl
      · by_cases h64 : 64 < m1
        · rw [show decide (m1 ≤ 64) = false from decide_eq_false (by omega), if_neg (by decide), if_pos h64]; rfl
        · rw [show decide (m1 ≤ 64) = true from decide_eq_true (by omega), if_neg (by decide), if_neg h64]; rfl
    rw [← hq] at CK
    clear hr hq
    by_cases hq0 : q = 0
    · subst hq0
      obtain rfl : r = true := by rw [hrq]; first | rfl | exact e1
      clear hrq
      go_enter Try.func31, Try.ntmps31
      go_upto_region 1 with fail
      refine wp_world (S := fun X => X.heap[w.heap.size]? = some (.cells #[.int .i64 0, .int .i64 cm.do_, .bool cm.loc, .int .i64 cm.idx, .int .i64 cm.gen, .int .i64 cm.comp, .slice A1 m1 c1, .int .i64 room, .int .i64 frames, .int .i64 nn, .slice A2 m2 c2, .slice A3 m3 c3] 45 (0, 0)) ∧ Below w.heap.size w X) ⟨heap_alloc_new w _, by exact (by repeat first | exact Below.refl _ _ | refine Below.setCell ?_ (by first | omega | (simp; done) | (simp; omega)) _ | refine Below.alloc ?_ (by first | omega | (simp; done) | (simp; omega)) _ | refine Below.drew ?_ | refine below_drewN ?_ _ | assumption)⟩ ?_
      intro X hX
      have HX := Lib.hid hX
      clear hX
      obtain ⟨x0, x1, x2, x3, x4, x5, x6, x7, x8, x9, x10, x11, xf⟩ := cells12 HX.out.1
      go_wp2_with fail
      with_reducible refine (CK.out _ (by exact Keep.of_below' HX.out.2)).mono ?_
      rintro e w1 ⟨rfl, hb⟩
      have HB := Lib.hid (HX.out.2.trans (hb.mono HX.out.2.size))
      have y := cells12 ((hb.block _ (Array.getElem?_eq_some_iff.1 HX.out.1).1).trans HX.out.1)
      clear hb x0 x1 x2 x3 x4 x5 x6 x7 x8 x9 x10 x11 xf
      obtain ⟨x0, x1, x2, x3, x4, x5, x6, x7, x8, x9, x10, x11, xf⟩ := y
      go_wp2
      go_ret
      exact ⟨rfl, HB.out⟩
    · have e1 : (q == 0) = false := by simp [hq0]
      obtain rfl : r = false := by rw [hrq]; first | rfl | exact e1
      clear hrq
      go_enter Try.func31, Try.ntmps31
      go_upto_region 1 with fail
      refine wp_world (S := fun X => X.heap[w.heap.size]? = some (.cells #[.int .i64 0, .int .i64 cm.do_, .bool cm.loc, .int .i64 cm.idx, .int .i64 cm.gen, .int .i64 cm.comp, .slice A1 m1 c1, .int .i64 room, .int .i64 frames, .int .i64 nn, .slice A2 m2 c2, .slice A3 m3 c3] 45 (0, 0)) ∧ Below w.heap.size w X) ⟨heap_alloc_new w _, by exact (by repeat first | exact Below.refl _ _ | refine Below.setCell ?_ (by first | omega | (simp; done) | (simp; omega)) _ | refine Below.alloc ?_ (by first | omega | (simp; done) | (simp; omega)) _ | refine Below.drew ?_ | refine below_drewN ?_ _ | assumption)⟩ ?_
      intro X hX
      have HX := Lib.hid hX
      clear hX
      obtain ⟨x0, x1, x2, x3, x4, x5, x6, x7, x8, x9, x10, x11, xf⟩ := cells12 HX.out.1
      go_wp2_with fail
      with_reducible refine (CK.out _ (by exact Keep.of_below' HX.out.2)).mono ?_
      rintro e w1 ⟨rfl, hb⟩
      have HB := Lib.hid (HX.out.2.trans (hb.mono HX.out.2.size))
      have y := cells12 ((hb.block _ (Array.getElem?_eq_some_iff.1 HX.out.1).1).trans HX.out.1)
      clear hb x0 x1 x2 x3 x4 x5 x6 x7 x8 x9 x10 x11 xf
      obtain ⟨x0, x1, x2, x3, x4, x5, x6, x7, x8, x9, x10, x11, xf⟩ := y
      go_wp2
      go_ret
      exact ⟨rfl, HB.out⟩
  · obtain rfl : r = true := by rw [hr, decide_eq_true z]; rfl
    have z1 : (d != 0) = true := by simp [z]
    clear CK hr
    go_enter Try.func31, Try.ntmps31
    go_upto_region 1 with fail
    refine wp_world (S := fun X => X.heap[w.heap.size]? = some (.cells #[.int .i64 d, .int .i64 cm.do_, .bool cm.loc, .int .i64 cm.idx, .int .i64 cm.gen, .int .i64 cm.comp, .slice A1 m1 c1, .int .i64 room, .int .i64 frames, .int .i64 nn, .slice A2 m2 c2, .slice A3 m3 c3] 45 (0, 0)) ∧ Below w.heap.size w X) ⟨heap_alloc_new w _, by exact (by repeat first | exact Below.refl _ _ | refine Below.setCell ?_ (by first | omega | (simp; done) | (simp; omega)) _ | refine Below.alloc ?_ (by first | omega | (simp; done) | (simp; omega)) _ | refine Below.drew ?_ | refine below_drewN ?_ _ | assumption)⟩ ?_
    intro X hX
    have HX := Lib.hid hX
    clear hX
    obtain ⟨x0, x1, x2, x3, x4, x5, x6, x7, x8, x9, x10, x11, xf⟩ := cells12 HX.out.1
    go_wp2
    go_ret
    exact ⟨rfl, HX.out.2⟩
set_option maxHeartbeats 4000000 in
theorem srightA (x : Ac) (u1 u2 u3 : Value) (F : Nat → Prop) (w : World) (h : AM w F x u1 u2 u3) :
    Calls Try.prog 30 #[actV x u1 u2 u3] w fun e w' => e = .returned (.bool (rightA x)) ∧ Below w.heap.size w w' := by
  have CK := Lib.hid (fun W (hk : Keep (fun _ => False) w W) => ccheck_any x.c u1 F W (h.1.keep hk (fun _ _ _ h => h)))
  obtain ⟨⟨A1, c1, rfl, -⟩, h2, h3⟩ := h
  obtain ⟨A2, c2, rfl⟩ := h2.form
  obtain ⟨A3, c3, rfl⟩ := h3.form
  clear h2 h3
  obtain ⟨r, hr⟩ : ∃ r, r = rightA x := ⟨_, rfl⟩
  rw [← hr]
  obtain ⟨m1, hm1⟩ : ∃ m, m = x.c.l.length := ⟨_, rfl⟩
  obtain ⟨m2, hm2⟩ : ∃ m, m = x.fa.length := ⟨_, rfl⟩
  obtain ⟨m3, hm3⟩ : ∃ m, m = x.fu.length := ⟨_, rfl⟩
  unfold actV
  unfold cmdV at CK
  unfold checkC at CK
  unfold rightA at hr
  rw [← hm1] at CK hr ⊢
  rw [← hm2] at hr ⊢
  rw [← hm3] at hr ⊢
  clear hm1 hm2 hm3
  obtain ⟨d, cm, room, frames, nn, fa, fu⟩ := x
  simp only at CK hr ⊢
  by_cases t0 : d < 0
  · obtain rfl : r = false := by rw [hr, decide_eq_false (by omega)]; rfl
    clear CK hr
    go_enter Try.func30, Try.ntmps30
    go_upto_region 1 with fail
    refine wp_world (S := fun X => X.heap[w.heap.size]? = some (.cells #[.int .i64 d, .int .i64 cm.do_, .bool cm.loc, .int .i64 cm.idx, .int .i64 cm.gen, .int .i64 cm.comp, .slice A1 m1 c1, .int .i64 room, .int .i64 frames, .int .i64 nn, .slice A2 m2 c2, .slice A3 m3 c3] 45 (0, 0)) ∧ Below w.heap.size w X) ⟨heap_alloc_new w _, by exact (by repeat first | exact Below.refl _ _ | refine Below.setCell ?_ (by first | omega | (simp; done) | (simp; omega)) _ | refine Below.alloc ?_ (by first | omega | (simp; done) | (simp; omega)) _ | refine Below.drew ?_ | refine below_drewN ?_ _ | assumption)⟩ ?_
    intro X hX
    have HX := Lib.hid hX
    clear hX
    obtain ⟨x0, x1, x2, x3, x4, x5, x6, x7, x8, x9, x10, x11, xf⟩ := cells12 HX.out.1
    go_wp2
    go_ret
    exact ⟨rfl, HX.out.2⟩
  by_cases t1 : 6 < d
  · obtain rfl : r = false := by rw [hr, decide_eq_false (by omega)]; rfl
    clear CK hr
    go_enter Try.func30, Try.ntmps30
    go_upto_region 1 with fail
    refine wp_world (S := fun X => X.heap[w.heap.size]? = some (.cells #[.int .i64 d, .int .i64 cm.do_, .bool cm.loc, .int .i64 cm.idx, .int .i64 cm.gen, .int .i64 cm.comp, .slice A1 m1 c1, .int .i64 room, .int .i64 frames, .int .i64 nn, .slice A2 m2 c2, .slice A3 m3 c3] 45 (0, 0)) ∧ Below w.heap.size w X) ⟨heap_alloc_new w _, by exact (by repeat first | exact Below.refl _ _ | refine Below.setCell ?_ (by first | omega | (simp; done) | (simp; omega)) _ | refine Below.alloc ?_ (by first | omega | (simp; done) | (simp; omega)) _ | refine Below.drew ?_ | refine below_drewN ?_ _ | assumption)⟩ ?_
    intro X hX
    have HX := Lib.hid hX
    clear hX
    obtain ⟨x0, x1, x2, x3, x4, x5, x6, x7, x8, x9, x10, x11, xf⟩ := cells12 HX.out.1
    go_wp2
    go_ret
    exact ⟨rfl, HX.out.2⟩
  by_cases t2 : 65535 < m2
  · obtain rfl : r = false := by rw [hr, decide_eq_false (by omega)]; rfl
    by_cases z : d = 0
    · subst z
      obtain ⟨q, hq⟩ : ∃ q : Int, q = (if knownC cm.do_ = false then (1 : Int) else if 64 < m1 then 13 else 0) := ⟨_, rfl⟩
      rw [← hq] at CK
      clear hr hq
      by_cases hq0 : q = 0
      · subst hq0
        go_enter Try.func30, Try.ntmps30
        go_upto_region 1 with fail
        refine wp_world (S := fun X => X.heap[w.heap.size]? = some (.cells #[.int .i64 0, .int .i64 cm.do_, .bool cm.loc, .int .i64 cm.idx, .int .i64 cm.gen, .int .i64 cm.comp, .slice A1 m1 c1, .int .i64 room, .int .i64 frames, .int .i64 nn, .slice A2 m2 c2, .slice A3 m3 c3] 45 (0, 0)) ∧ Below w.heap.size w X) ⟨heap_alloc_new w _, by exact (by repeat first | exact Below.refl _ _ | refine Below.setCell ?_ (by first | omega | (simp; done) | (simp; omega)) _ | refine Below.alloc ?_ (by first | omega | (simp; done) | (simp; omega)) _ | refine Below.drew ?_ | refine below_drewN ?_ _ | assumption)⟩ ?_
        intro X hX
        have HX := Lib.hid hX
        clear hX
        obtain ⟨x0, x1, x2, x3, x4, x5, x6, x7, x8, x9, x10, x11, xf⟩ := cells12 HX.out.1
        go_wp2_with fail
        with_reducible refine (CK.out _ (by exact Keep.of_below' HX.out.2)).mono ?_
        rintro e w1 ⟨rfl, hb⟩
        have HB := Lib.hid (HX.out.2.trans (hb.mono HX.out.2.size))
        have y := cells12 ((hb.block _ (Array.getElem?_eq_some_iff.1 HX.out.1).1).trans HX.out.1)
        clear hb x0 x1 x2 x3 x4 x5 x6 x7 x8 x9 x10 x11 xf
        obtain ⟨x0, x1, x2, x3, x4, x5, x6, x7, x8, x9, x10, x11, xf⟩ := y
        go_wp2
        go_ret
        first | exact ⟨rfl, HB.out⟩ | exact ⟨ret_bool (decide_eq_false (by omega)), HB.out⟩
      · have e1 : (q == 0) = false := by simp [hq0]
        go_enter Try.func30, Try.ntmps30
        go_upto_region 1 with fail
        refine wp_world (S := fun X => X.heap[w.heap.size]? = some (.cells #[.int .i64 0, .int .i64 cm.do_, .bool cm.loc, .int .i64 cm.idx, .int .i64 cm.gen, .int .i64 cm.comp, .slice A1 m1 c1, .int .i64 room, .int .i64 frames, .int .i64 nn, .slice A2 m2 c2, .slice A3 m3 c3] 45 (0, 0)) ∧ Below w.heap.size w X) ⟨heap_alloc_new w _, by exact (by repeat first | exact Below.refl _ _ | refine Below.setCell ?_ (by first | omega | (simp; done) | (simp; omega)) _ | refine Below.alloc ?_ (by first | omega | (simp; done) | (simp; omega)) _ | refine Below.drew ?_ | refine below_drewN ?_ _ | assumption)⟩ ?_
        intro X hX
        have HX := Lib.hid hX
        clear hX
        obtain ⟨x0, x1, x2, x3, x4, x5, x6, x7, x8, x9, x10, x11, xf⟩ := cells12 HX.out.1
        go_wp2_with fail
        with_reducible refine (CK.out _ (by exact Keep.of_below' HX.out.2)).mono ?_
        rintro e w1 ⟨rfl, hb⟩
        have HB := Lib.hid (HX.out.2.trans (hb.mono HX.out.2.size))
        have y := cells12 ((hb.block _ (Array.getElem?_eq_some_iff.1 HX.out.1).1).trans HX.out.1)
        clear hb x0 x1 x2 x3 x4 x5 x6 x7 x8 x9 x10 x11 xf
        obtain ⟨x0, x1, x2, x3, x4, x5, x6, x7, x8, x9, x10, x11, xf⟩ := y
        go_wp2
        go_ret
        first | exact ⟨rfl, HB.out⟩ | exact ⟨ret_bool (decide_eq_false (by omega)), HB.out⟩
    · have z1 : (d != 0) = true := by simp [z]
      clear CK hr
      go_enter Try.func30, Try.ntmps30
      go_upto_region 1 with fail
      refine wp_world (S := fun X => X.heap[w.heap.size]? = some (.cells #[.int .i64 d, .int .i64 cm.do_, .bool cm.loc, .int .i64 cm.idx, .int .i64 cm.gen, .int .i64 cm.comp, .slice A1 m1 c1, .int .i64 room, .int .i64 frames, .int .i64 nn, .slice A2 m2 c2, .slice A3 m3 c3] 45 (0, 0)) ∧ Below w.heap.size w X) ⟨heap_alloc_new w _, by exact (by repeat first | exact Below.refl _ _ | refine Below.setCell ?_ (by first | omega | (simp; done) | (simp; omega)) _ | refine Below.alloc ?_ (by first | omega | (simp; done) | (simp; omega)) _ | refine Below.drew ?_ | refine below_drewN ?_ _ | assumption)⟩ ?_
      intro X hX
      have HX := Lib.hid hX
      clear hX
      obtain ⟨x0, x1, x2, x3, x4, x5, x6, x7, x8, x9, x10, x11, xf⟩ := cells12 HX.out.1
      go_wp2
      go_ret
      first | exact ⟨rfl, HX.out.2⟩ | exact ⟨ret_bool (decide_eq_false (by omega)), HX.out.2⟩
  by_cases t3 : 65535 < m3
  · obtain rfl : r = false := by rw [hr, decide_eq_false (by omega)]; rfl
    by_cases z : d = 0
    · subst z
      obtain ⟨q, hq⟩ : ∃ q : Int, q = (if knownC cm.do_ = false then (1 : Int) else if 64 < m1 then 13 else 0) := ⟨_, rfl⟩
      rw [← hq] at CK
      clear hr hq
      by_cases hq0 : q = 0
      · subst hq0
        go_enter Try.func30, Try.ntmps30
        go_upto_region 1 with fail
        refine wp_world (S := fun X => X.heap[w.heap.size]? = some (.cells #[.int .i64 0, .int .i64 cm.do_, .bool cm.loc, .int .i64 cm.idx, .int .i64 cm.gen, .int .i64 cm.comp, .slice A1 m1 c1, .int .i64 room, .int .i64 frames, .int .i64 nn, .slice A2 m2 c2, .slice A3 m3 c3] 45 (0, 0)) ∧ Below w.heap.size w X) ⟨heap_alloc_new w _, by exact (by repeat first | exact Below.refl _ _ | refine Below.setCell ?_ (by first | omega | (simp; done) | (simp; omega)) _ | refine Below.alloc ?_ (by first | omega | (simp; done) | (simp; omega)) _ | refine Below.drew ?_ | refine below_drewN ?_ _ | assumption)⟩ ?_
        intro X hX
        have HX := Lib.hid hX
        clear hX
        obtain ⟨x0, x1, x2, x3, x4, x5, x6, x7, x8, x9, x10, x11, xf⟩ := cells12 HX.out.1
        go_wp2_with fail
        with_reducible refine (CK.out _ (by exact Keep.of_below' HX.out.2)).mono ?_
        rintro e w1 ⟨rfl, hb⟩
        have HB := Lib.hid (HX.out.2.trans (hb.mono HX.out.2.size))
        have y := cells12 ((hb.block _ (Array.getElem?_eq_some_iff.1 HX.out.1).1).trans HX.out.1)
        clear hb x0 x1 x2 x3 x4 x5 x6 x7 x8 x9 x10 x11 xf
        obtain ⟨x0, x1, x2, x3, x4, x5, x6, x7, x8, x9, x10, x11, xf⟩ := y
        go_wp2
        go_ret
        first | exact ⟨rfl, HB.out⟩ | exact ⟨ret_bool (decide_eq_false (by omega)), HB.out⟩
      · have e1 : (q == 0) = false := by simp [hq0]
        go_enter Try.func30, Try.ntmps30
        go_upto_region 1 with fail
        refine wp_world (S := fun X => X.heap[w.heap.size]? = some (.cells #[.int .i64 0, .int .i64 cm.do_, .bool cm.loc, .int .i64 cm.idx, .int .i64 cm.gen, .int .i64 cm.comp, .slice A1 m1 c1, .int .i64 room, .int .i64 frames, .int .i64 nn, .slice A2 m2 c2, .slice A3 m3 c3] 45 (0, 0)) ∧ Below w.heap.size w X) ⟨heap_alloc_new w _, by exact (by repeat first | exact Below.refl _ _ | refine Below.setCell ?_ (by first | omega | (simp; done) | (simp; omega)) _ | refine Below.alloc ?_ (by first | omega | (simp; done) | (simp; omega)) _ | refine Below.drew ?_ | refine below_drewN ?_ _ | assumption)⟩ ?_
        intro X hX
        have HX := Lib.hid hX
        clear hX
        obtain ⟨x0, x1, x2, x3, x4, x5, x6, x7, x8, x9, x10, x11, xf⟩ := cells12 HX.out.1
        go_wp2_with fail
        with_reducible refine (CK.out _ (by exact Keep.of_below' HX.out.2)).mono ?_
        rintro e w1 ⟨rfl, hb⟩
        have HB := Lib.hid (HX.out.2.trans (hb.mono HX.out.2.size))
        have y := cells12 ((hb.block _ (Array.getElem?_eq_some_iff.1 HX.out.1).1).trans HX.out.1)
        clear hb x0 x1 x2 x3 x4 x5 x6 x7 x8 x9 x10 x11 xf
        obtain ⟨x0, x1, x2, x3, x4, x5, x6, x7, x8, x9, x10, x11, xf⟩ := y
        go_wp2
        go_ret
        first | exact ⟨rfl, HB.out⟩ | exact ⟨ret_bool (decide_eq_false (by omega)), HB.out⟩
    · have z1 : (d != 0) = true := by simp [z]
      clear CK hr
      go_enter Try.func30, Try.ntmps30
      go_upto_region 1 with fail
      refine wp_world (S := fun X => X.heap[w.heap.size]? = some (.cells #[.int .i64 d, .int .i64 cm.do_, .bool cm.loc, .int .i64 cm.idx, .int .i64 cm.gen, .int .i64 cm.comp, .slice A1 m1 c1, .int .i64 room, .int .i64 frames, .int .i64 nn, .slice A2 m2 c2, .slice A3 m3 c3] 45 (0, 0)) ∧ Below w.heap.size w X) ⟨heap_alloc_new w _, by exact (by repeat first | exact Below.refl _ _ | refine Below.setCell ?_ (by first | omega | (simp; done) | (simp; omega)) _ | refine Below.alloc ?_ (by first | omega | (simp; done) | (simp; omega)) _ | refine Below.drew ?_ | refine below_drewN ?_ _ | assumption)⟩ ?_
      intro X hX
      have HX := Lib.hid hX
      clear hX
      obtain ⟨x0, x1, x2, x3, x4, x5, x6, x7, x8, x9, x10, x11, xf⟩ := cells12 HX.out.1
      go_wp2
      go_ret
      first | exact ⟨rfl, HX.out.2⟩ | exact ⟨ret_bool (decide_eq_false (by omega)), HX.out.2⟩
  have g0 : 0 ≤ d := by omega
  have g6 : d ≤ 6 := by omega
  have g2 : (m2 : Int) ≤ 65535 := by omega
  have g3 : (m3 : Int) ≤ 65535 := by omega
  rw [decide_eq_true (by omega), Bool.true_and] at hr
  by_cases z : d = 0
  · subst z
    obtain ⟨q, hq⟩ : ∃ q : Int, q = (if knownC cm.do_ = false then (1 : Int) else if 64 < m1 then 13 else 0) := ⟨_, rfl⟩
    have hrq : r = (q == 0) := by
      rw [hr, hq]
      cases knownC cm.do_
      · rfl
      · by_cases h64 : 64 < m1
        · rw [show decide (m1 ≤ 64) = false from decide_eq_false (by omega), if_neg (by decide), if_pos h64]; rfl
        · rw [show decide (m1 ≤ 64) = true from decide_eq_true (by omega), if_neg (by decide), if_neg h64]; rfl
    rw [← hq] at CK
    clear hr hq
    by_cases hq0 : q = 0
    · subst hq0
      obtain rfl : r = true := by rw [hrq]; first | rfl | exact e1
      clear hrq
      go_enter Try.func30, Try.ntmps30
      go_upto_region 1 with fail
      refine wp_world (S := fun X => X.heap[w.heap.size]? = some (.cells #[.int .i64 0, .int .i64 cm.do_, .bool cm.loc, .int .i64 cm.idx, .int .i64 cm.gen, .int .i64 cm.comp, .slice A1 m1 c1, .int .i64 room, .int .i64 frames, .int .i64 nn, .slice A2 m2 c2, .slice A3 m3 c3] 45 (0, 0)) ∧ Below w.heap.size w X) ⟨heap_alloc_new w _, by exact (by repeat first | exact Below.refl _ _ | refine Below.setCell ?_ (by first | omega | (simp; done) | (simp; omega)) _ | refine Below.alloc ?_ (by first | omega | (simp; done) | (simp; omega)) _ | refine Below.drew ?_ | refine below_drewN ?_ _ | assumption)⟩ ?_
      intro X hX
      have HX := Lib.hid hX
      clear hX
      obtain ⟨x0, x1, x2, x3, x4, x5, x6, x7, x8, x9, x10, x11, xf⟩ := cells12 HX.out.1
      go_wp2_with fail
      with_reducible refine (CK.out _ (by exact Keep.of_below' HX.out.2)).mono ?_
      rintro e w1 ⟨rfl, hb⟩
      have HB := Lib.hid (HX.out.2.trans (hb.mono HX.out.2.size))
      have y := cells12 ((hb.block _ (Array.getElem?_eq_some_iff.1 HX.out.1).1).trans HX.out.1)
      clear hb x0 x1 x2 x3 x4 x5 x6 x7 x8 x9 x10 x11 xf
      obtain ⟨x0, x1, x2, x3, x4, x5, x6, x7, x8, x9, x10, x11, xf⟩ := y
      go_wp2
      go_ret
      exact ⟨rfl, HB.out⟩
    · have e1 : (q == 0) = false := by simp [hq0]
      obtain rfl : r = false := by rw [hrq]; first | rfl | exact e1
      clear hrq
      go_enter Try.func30, Try.ntmps30
      go_upto_region 1 with fail
      refine wp_world (S := fun X => X.heap[w.heap.size]? = some (.cells #[.int .i64 0, .int .i64 cm.do_, .bool cm.loc, .int .i64 cm.idx, .int .i64 cm.gen, .int .i64 cm.comp, .slice A1 m1 c1, .int .i64 room, .int .i64 frames, .int .i64 nn, .slice A2 m2 c2, .slice A3 m3 c3] 45 (0, 0)) ∧ Below w.heap.size w X) ⟨heap_alloc_new w _, by exact (by repeat first | exact Below.refl _ _ | refine Below.setCell ?_ (by first | omega | (simp; done) | (simp; omega)) _ | refine Below.alloc ?_ (by first | omega | (simp; done) | (simp; omega)) _ | refine Below.drew ?_ | refine below_drewN ?_ _ | assumption)⟩ ?_
      intro X hX
      have HX := Lib.hid hX
      clear hX
      obtain ⟨x0, x1, x2, x3, x4, x5, x6, x7, x8, x9, x10, x11, xf⟩ := cells12 HX.out.1
      go_wp2_with fail
      with_reducible refine (CK.out _ (by exact Keep.of_below' HX.out.2)).mono ?_
      rintro e w1 ⟨rfl, hb⟩
      have HB := Lib.hid (HX.out.2.trans (hb.mono HX.out.2.size))
      have y := cells12 ((hb.block _ (Array.getElem?_eq_some_iff.1 HX.out.1).1).trans HX.out.1)
      clear hb x0 x1 x2 x3 x4 x5 x6 x7 x8 x9 x10 x11 xf
      obtain ⟨x0, x1, x2, x3, x4, x5, x6, x7, x8, x9, x10, x11, xf⟩ := y
      go_wp2
      go_ret
      exact ⟨rfl, HB.out⟩
  · obtain rfl : r = true := by rw [hr, decide_eq_true z]; rfl
    have z1 : (d != 0) = true := by simp [z]
    clear CK hr
    go_enter Try.func30, Try.ntmps30
    go_upto_region 1 with fail
    refine wp_world (S := fun X => X.heap[w.heap.size]? = some (.cells #[.int .i64 d, .int .i64 cm.do_, .bool cm.loc, .int .i64 cm.idx, .int .i64 cm.gen, .int .i64 cm.comp, .slice A1 m1 c1, .int .i64 room, .int .i64 frames, .int .i64 nn, .slice A2 m2 c2, .slice A3 m3 c3] 45 (0, 0)) ∧ Below w.heap.size w X) ⟨heap_alloc_new w _, by exact (by repeat first | exact Below.refl _ _ | refine Below.setCell ?_ (by first | omega | (simp; done) | (simp; omega)) _ | refine Below.alloc ?_ (by first | omega | (simp; done) | (simp; omega)) _ | refine Below.drew ?_ | refine below_drewN ?_ _ | assumption)⟩ ?_
    intro X hX
    have HX := Lib.hid hX
    clear hX
    obtain ⟨x0, x1, x2, x3, x4, x5, x6, x7, x8, x9, x10, x11, xf⟩ := cells12 HX.out.1
    go_wp2
    go_ret
    exact ⟨rfl, HX.out.2⟩
end Go.Proofs.Ythkgchlndfcmpaa

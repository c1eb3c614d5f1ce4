/- Contract of vivariumref31.Exact. Printed by genscr8.py. -/
import Derived.Test.YthkgchlndfcmpaaScr2
import Derived.Test.YthkgchlndfcmpaaSame
import Derived.Test.YthkgchlndfcmpaaCmd1
namespace Go.Proofs.Ythkgchlndfcmpaa
open Go.RowKit
set_option maxRecDepth 100000
set_option linter.unusedVariables false
set_option linter.unusedSimpArgs false

/-- An act in block p. -/
def Ax (W : World) (p : Nat) (x : Ac) (u1 u2 u3 : Value) : Prop := W.heap[p]? = some (.cells #[.int .i64 x.do_, .int .i64 x.c.do_, .bool x.c.loc, .int .i64 x.c.idx, .int .i64 x.c.gen, .int .i64 x.c.comp, u1, .int .i64 x.room, .int .i64 x.frames, .int .i64 x.n, u2, u3] 45 (0, 0))
theorem Ax.keep {W W' : World} {p : Nat} {x : Ac} {u1 u2 u3 : Value} {S : Nat → Prop} (h : Ax W p x u1 u2 u3) (hk : Keep S W W') (hs : ¬ S p) : Ax W' p x u1 u2 u3 := (hk.block _ (Array.getElem?_eq_some_iff.1 h).1 hs).trans h
theorem Ax.lt {W : World} {p : Nat} {x : Ac} {u1 u2 u3 : Value} (h : Ax W p x u1 u2 u3) : p < W.heap.size := (Array.getElem?_eq_some_iff.1 h).1
/-- Two acts that were handed in, in boxes. -/
def InA (w X : World) (a b : Ac) (u1 u2 u3 v1 v2 v3 : Value) : Prop := Ax X w.heap.size a u1 u2 u3 ∧ Ax X (w.heap.size + 1) b v1 v2 v3 ∧ Keep (fun _ => False) w X
theorem InA.same {w W W' : World} {a b : Ac} {u1 u2 u3 v1 v2 v3 : Value} (h : InA w W a b u1 u2 u3 v1 v2 v3) (hk : Keep (fun _ => False) W W') : InA w W' a b u1 u2 u3 v1 v2 v3 :=
  ⟨h.1.keep hk (fun h => h), h.2.1.keep hk (fun h => h), h.2.2.trans hk (fun _ _ h => h)⟩
theorem sameList_ml (xs ys : List Int) (u v : Value) (F G : Nat → Prop) (w : World) (ha : ML icells 1 w F u xs) (hb : ML icells 1 w G v ys) (hn : xs.length ≤ 1000000 ∧ ys.length ≤ 1000000) :
    Calls Try.prog 47 #[u, v] w fun e w' => e = .returned (.bool (decide (xs = ys))) ∧ ∃ k, w' = w.drewN k := by
  obtain ⟨A, c, rfl, h1, h2, h3, -⟩ := ha
  obtain ⟨B, d, rfl, k1, k2, k3, -⟩ := hb
  rw [icells_iv, Nat.mul_one] at h3 k3
  unfold maxLen at h2 k2
  exact sameList_any xs ys A B _ _ c d F G w h3 k3 (by omega) (by omega)

set_option maxHeartbeats 8000000 in
theorem exactA_any (a b : Ac) (u1 u2 u3 v1 v2 v3 : Value) (F G : Nat → Prop) (w : World) (ha : AM w F a u1 u2 u3) (hb : AM w G b v1 v2 v3) (hn : a.fu.length ≤ 1000000 ∧ b.fu.length ≤ 1000000) :
    Calls Try.prog 27 #[actV a u1 u2 u3, actV b v1 v2 v3] w fun e w' => e = .returned (.bool (exactA a b)) ∧ Below w.heap.size w w' := by
  have EX := Lib.hid (fun W (hk : Keep (fun _ => False) w W) => exact_any a.c b.c u1 v1 F G W (ha.1.keep hk (fun _ _ _ h => h)) (hb.1.keep hk (fun _ _ _ h => h)))
  have SL := Lib.hid (fun W (hk : Keep (fun _ => False) w W) => sameList_ml a.fu b.fu u3 v3 F G W (ha.2.2.keep hk (fun _ _ _ h => h)) (hb.2.2.keep hk (fun _ _ _ h => h)) hn)
  have HA := Lib.hid ha.2.1
  have HB := Lib.hid hb.2.1
  obtain ⟨A1, c1, rfl, -⟩ := ha.1
  obtain ⟨A2, c2, rfl, -, hm2, -, -⟩ := ha.2.1
  obtain ⟨A3, c3, rfl⟩ := ha.2.2.form
  obtain ⟨B1, d1, rfl, -⟩ := hb.1
  obtain ⟨B2, d2, rfl, -, hm4, -, -⟩ := hb.2.1
  obtain ⟨B3, d3, rfl⟩ := hb.2.2.form
  clear ha hb hn
  obtain ⟨z, hz⟩ : ∃ z, z = exactA a b := ⟨_, rfl⟩
  rw [← hz]
  unfold cmdV at EX
  unfold actV
  unfold exactA at hz
  generalize exactC a.c b.c = r1 at *
  generalize decide (a.fu = b.fu) = r5 at *
  obtain ⟨n1, hn1⟩ : ∃ n1, n1 = a.c.l.length := ⟨_, rfl⟩
  obtain ⟨n3, hn3⟩ : ∃ n3, n3 = a.fu.length := ⟨_, rfl⟩
  obtain ⟨m1, hm1⟩ : ∃ m1, m1 = b.c.l.length := ⟨_, rfl⟩
  obtain ⟨m3, hm3⟩ : ∃ m3, m3 = b.fu.length := ⟨_, rfl⟩
  rw [← hn1, ← hm1] at EX
  rw [← hn3, ← hm3] at SL
  rw [← hn1, ← hm1, ← hn3, ← hm3]
  clear hn1 hn3 hm1 hm3
  obtain ⟨da, ca, ra, fra, na, faa, fua⟩ := a
  obtain ⟨db, cb, rb, frb, nb, fab, fub⟩ := b
  simp only at EX SL HA HB hz hm2 hm4 ⊢
  by_cases h1 : ¬ da = db
  · have Z := Lib.hid (show z = false by rw [hz]; simp [h1])
    have e1 : (da != db) = true := by simp [h1]
    clear hz
    go_enter Try.func27, Try.ntmps27
    go_upto_region 1 with fail
    refine wp_world (S := fun X => InA w X ⟨da, ca, ra, fra, na, faa, fua⟩ ⟨db, cb, rb, frb, nb, fab, fub⟩ (.slice A1 n1 c1) (.slice A2 faa.length c2) (.slice A3 n3 c3) (.slice B1 m1 d1) (.slice B2 fab.length d2) (.slice B3 m3 d3)) ⟨(heap_alloc_old _ _ (by simp)).trans (heap_alloc_new w _), heap_alloc_at _ _ _ (by simp), (by repeat first | exact Keep.refl _ _ | refine Keep.alloc ?_ _ | refine Keep.drew ?_ | refine Keep.drewN ?_ _)⟩ ?_
    intro X hX
    have HX := Lib.hid hX
    clear hX
    obtain ⟨x0, x1, x2, x3, x4, x5, x6, x7, x8, x9, x10, x11, xf⟩ := cells12 HX.out.1
    obtain ⟨y0, y1, y2, y3, y4, y5, y6, y7, y8, y9, y10, y11, yf⟩ := cells12 HX.out.2.1
    go_wp2
    go_ret
    exact ⟨ret_bool Z.out.symm, HX.out.2.2.to_below'⟩
  have h1 := Decidable.not_not.1 h1
  subst h1
  have e1 : (da != da) = false := by simp
  by_cases h2 : r1 = false
  · have Z := Lib.hid (show z = false by rw [hz]; simp [h2])
    subst h2
    clear hz
    go_enter Try.func27, Try.ntmps27
    go_upto_region 1 with fail
    refine wp_world (S := fun X => InA w X ⟨da, ca, ra, fra, na, faa, fua⟩ ⟨da, cb, rb, frb, nb, fab, fub⟩ (.slice A1 n1 c1) (.slice A2 faa.length c2) (.slice A3 n3 c3) (.slice B1 m1 d1) (.slice B2 fab.length d2) (.slice B3 m3 d3)) ⟨(heap_alloc_old _ _ (by simp)).trans (heap_alloc_new w _), heap_alloc_at _ _ _ (by simp), (by repeat first | exact Keep.refl _ _ | refine Keep.alloc ?_ _ | refine Keep.drew ?_ | refine Keep.drewN ?_ _)⟩ ?_
    intro X hX
    have HX := Lib.hid hX
    clear hX
    obtain ⟨x0, x1, x2, x3, x4, x5, x6, x7, x8, x9, x10, x11, xf⟩ := cells12 HX.out.1
    obtain ⟨y0, y1, y2, y3, y4, y5, y6, y7, y8, y9, y10, y11, yf⟩ := cells12 HX.out.2.1
    go_wp2_with fail
    have K1 := EX.out X HX.out.2.2
    with_reducible refine K1.mono ?_
    clear K1
    rintro e w1 ⟨rfl, hb⟩
    have H1 := Lib.hid (HX.out.same (Keep.of_below' hb))
    clear hb
    clear x0 x1 x2 x3 x4 x5 x6 x7 x8 x9 x10 x11 xf y0 y1 y2 y3 y4 y5 y6 y7 y8 y9 y10 y11 yf
    obtain ⟨x0, x1, x2, x3, x4, x5, x6, x7, x8, x9, x10, x11, xf⟩ := cells12 H1.out.1
    obtain ⟨y0, y1, y2, y3, y4, y5, y6, y7, y8, y9, y10, y11, yf⟩ := cells12 H1.out.2.1
    go_wp2
    go_ret
    exact ⟨ret_bool Z.out.symm, H1.out.2.2.to_below'⟩
  have h2 : r1 = true := by simpa using h2
  subst h2
  by_cases h3 : ¬ ra = rb
  · have Z := Lib.hid (show z = false by rw [hz]; simp [h3])
    have e3 : (ra == rb) = false := by simp [h3]
    clear hz
    go_enter Try.func27, Try.ntmps27
    go_upto_region 1 with fail
    refine wp_world (S := fun X => InA w X ⟨da, ca, ra, fra, na, faa, fua⟩ ⟨da, cb, rb, frb, nb, fab, fub⟩ (.slice A1 n1 c1) (.slice A2 faa.length c2) (.slice A3 n3 c3) (.slice B1 m1 d1) (.slice B2 fab.length d2) (.slice B3 m3 d3)) ⟨(heap_alloc_old _ _ (by simp)).trans (heap_alloc_new w _), heap_alloc_at _ _ _ (by simp), (by repeat first | exact Keep.refl _ _ | refine Keep.alloc ?_ _ | refine Keep.drew ?_ | refine Keep.drewN ?_ _)⟩ ?_
    intro X hX
    have HX := Lib.hid hX
    clear hX
    obtain ⟨x0, x1, x2, x3, x4, x5, x6, x7, x8, x9, x10, x11, xf⟩ := cells12 HX.out.1
    obtain ⟨y0, y1, y2, y3, y4, y5, y6, y7, y8, y9, y10, y11, yf⟩ := cells12 HX.out.2.1
    go_wp2_with fail
    have K1 := EX.out X HX.out.2.2
    with_reducible refine K1.mono ?_
    clear K1
    rintro e w1 ⟨rfl, hb⟩
    have H1 := Lib.hid (HX.out.same (Keep.of_below' hb))
    clear hb
    clear x0 x1 x2 x3 x4 x5 x6 x7 x8 x9 x10 x11 xf y0 y1 y2 y3 y4 y5 y6 y7 y8 y9 y10 y11 yf
    obtain ⟨x0, x1, x2, x3, x4, x5, x6, x7, x8, x9, x10, x11, xf⟩ := cells12 H1.out.1
    obtain ⟨y0, y1, y2, y3, y4, y5, y6, y7, y8, y9, y10, y11, yf⟩ := cells12 H1.out.2.1
    go_wp2
    go_ret
    exact ⟨ret_bool Z.out.symm, H1.out.2.2.to_below'⟩
  have h3 := Decidable.not_not.1 h3
  subst h3
  have e3 : (ra == ra) = true := by simp
  by_cases h4 : ¬ fra = frb
  · have Z := Lib.hid (show z = false by rw [hz]; simp [h4])
    have e4 : (fra == frb) = false := by simp [h4]
    clear hz
    go_enter Try.func27, Try.ntmps27
    go_upto_region 1 with fail
    refine wp_world (S := fun X => InA w X ⟨da, ca, ra, fra, na, faa, fua⟩ ⟨da, cb, ra, frb, nb, fab, fub⟩ (.slice A1 n1 c1) (.slice A2 faa.length c2) (.slice A3 n3 c3) (.slice B1 m1 d1) (.slice B2 fab.length d2) (.slice B3 m3 d3)) ⟨(heap_alloc_old _ _ (by simp)).trans (heap_alloc_new w _), heap_alloc_at _ _ _ (by simp), (by repeat first | exact Keep.refl _ _ | refine Keep.alloc ?_ _ | refine Keep.drew ?_ | refine Keep.drewN ?_ _)⟩ ?_
    intro X hX
    have HX := Lib.hid hX
    clear hX
    obtain ⟨x0, x1, x2, x3, x4, x5, x6, x7, x8, x9, x10, x11, xf⟩ := cells12 HX.out.1
    obtain ⟨y0, y1, y2, y3, y4, y5, y6, y7, y8, y9, y10, y11, yf⟩ := cells12 HX.out.2.1
    go_wp2_with fail
    have K1 := EX.out X HX.out.2.2
    with_reducible refine K1.mono ?_
    clear K1
    rintro e w1 ⟨rfl, hb⟩
    have H1 := Lib.hid (HX.out.same (Keep.of_below' hb))
    clear hb
    clear x0 x1 x2 x3 x4 x5 x6 x7 x8 x9 x10 x11 xf y0 y1 y2 y3 y4 y5 y6 y7 y8 y9 y10 y11 yf
    obtain ⟨x0, x1, x2, x3, x4, x5, x6, x7, x8, x9, x10, x11, xf⟩ := cells12 H1.out.1
    obtain ⟨y0, y1, y2, y3, y4, y5, y6, y7, y8, y9, y10, y11, yf⟩ := cells12 H1.out.2.1
    go_wp2
    go_ret
    exact ⟨ret_bool Z.out.symm, H1.out.2.2.to_below'⟩
  have h4 := Decidable.not_not.1 h4
  subst h4
  have e4 : (fra == fra) = true := by simp
  by_cases h5 : ¬ na = nb
  · have Z := Lib.hid (show z = false by rw [hz]; simp [h5])
    have e5 : (na != nb) = true := by simp [h5]
    clear hz
    go_enter Try.func27, Try.ntmps27
    go_upto_region 1 with fail
    refine wp_world (S := fun X => InA w X ⟨da, ca, ra, fra, na, faa, fua⟩ ⟨da, cb, ra, fra, nb, fab, fub⟩ (.slice A1 n1 c1) (.slice A2 faa.length c2) (.slice A3 n3 c3) (.slice B1 m1 d1) (.slice B2 fab.length d2) (.slice B3 m3 d3)) ⟨(heap_alloc_old _ _ (by simp)).trans (heap_alloc_new w _), heap_alloc_at _ _ _ (by simp), (by repeat first | exact Keep.refl _ _ | refine Keep.alloc ?_ _ | refine Keep.drew ?_ | refine Keep.drewN ?_ _)⟩ ?_
    intro X hX
    have HX := Lib.hid hX
    clear hX
    obtain ⟨x0, x1, x2, x3, x4, x5, x6, x7, x8, x9, x10, x11, xf⟩ := cells12 HX.out.1
    obtain ⟨y0, y1, y2, y3, y4, y5, y6, y7, y8, y9, y10, y11, yf⟩ := cells12 HX.out.2.1
    go_wp2_with fail
    have K1 := EX.out X HX.out.2.2
    with_reducible refine K1.mono ?_
    clear K1
    rintro e w1 ⟨rfl, hb⟩
    have H1 := Lib.hid (HX.out.same (Keep.of_below' hb))
    clear hb
    clear x0 x1 x2 x3 x4 x5 x6 x7 x8 x9 x10 x11 xf y0 y1 y2 y3 y4 y5 y6 y7 y8 y9 y10 y11 yf
    obtain ⟨x0, x1, x2, x3, x4, x5, x6, x7, x8, x9, x10, x11, xf⟩ := cells12 H1.out.1
    obtain ⟨y0, y1, y2, y3, y4, y5, y6, y7, y8, y9, y10, y11, yf⟩ := cells12 H1.out.2.1
    go_wp2
    go_ret
    exact ⟨ret_bool Z.out.symm, H1.out.2.2.to_below'⟩
  have h5 := Decidable.not_not.1 h5
  subst h5
  have e5 : (na != na) = false := by simp
  by_cases h6 : r5 = false
  · have Z := Lib.hid (show z = false by rw [hz]; simp [h6])
    subst h6
    clear hz
    go_enter Try.func27, Try.ntmps27
    go_upto_region 1 with fail
    refine wp_world (S := fun X => InA w X ⟨da, ca, ra, fra, na, faa, fua⟩ ⟨da, cb, ra, fra, na, fab, fub⟩ (.slice A1 n1 c1) (.slice A2 faa.length c2) (.slice A3 n3 c3) (.slice B1 m1 d1) (.slice B2 fab.length d2) (.slice B3 m3 d3)) ⟨(heap_alloc_old _ _ (by simp)).trans (heap_alloc_new w _), heap_alloc_at _ _ _ (by simp), (by repeat first | exact Keep.refl _ _ | refine Keep.alloc ?_ _ | refine Keep.drew ?_ | refine Keep.drewN ?_ _)⟩ ?_
    intro X hX
    have HX := Lib.hid hX
    clear hX
    obtain ⟨x0, x1, x2, x3, x4, x5, x6, x7, x8, x9, x10, x11, xf⟩ := cells12 HX.out.1
    obtain ⟨y0, y1, y2, y3, y4, y5, y6, y7, y8, y9, y10, y11, yf⟩ := cells12 HX.out.2.1
    go_wp2_with fail
    have K1 := EX.out X HX.out.2.2
    with_reducible refine K1.mono ?_
    clear K1
    rintro e w1 ⟨rfl, hb⟩
    have H1 := Lib.hid (HX.out.same (Keep.of_below' hb))
    clear hb
    clear x0 x1 x2 x3 x4 x5 x6 x7 x8 x9 x10 x11 xf y0 y1 y2 y3 y4 y5 y6 y7 y8 y9 y10 y11 yf
    obtain ⟨x0, x1, x2, x3, x4, x5, x6, x7, x8, x9, x10, x11, xf⟩ := cells12 H1.out.1
    obtain ⟨y0, y1, y2, y3, y4, y5, y6, y7, y8, y9, y10, y11, yf⟩ := cells12 H1.out.2.1
    go_wp2_with fail
    have K1 := SL.out w1 H1.out.2.2
    with_reducible refine K1.mono ?_
    clear K1
    rintro e w2 ⟨rfl, q2, hb⟩
    have H2 := Lib.hid (show InA w w2 _ _ _ _ _ _ _ _ from H1.out.same (by rw [hb]; exact (Keep.refl _ w1).drewN _))
    clear hb
    clear x0 x1 x2 x3 x4 x5 x6 x7 x8 x9 x10 x11 xf y0 y1 y2 y3 y4 y5 y6 y7 y8 y9 y10 y11 yf
    obtain ⟨x0, x1, x2, x3, x4, x5, x6, x7, x8, x9, x10, x11, xf⟩ := cells12 H2.out.1
    obtain ⟨y0, y1, y2, y3, y4, y5, y6, y7, y8, y9, y10, y11, yf⟩ := cells12 H2.out.2.1
    go_wp2
    go_ret
    exact ⟨ret_bool Z.out.symm, H2.out.2.2.to_below'⟩
  have h6 : r5 = true := by simpa using h6
  subst h6
  replace hz : z = decide (faa = fab) := by rw [hz]; simp
  by_cases h7 : ¬ faa.length = fab.length
  · have Z := Lib.hid (show z = false by rw [hz]; simp [show faa ≠ fab from fun h => h7 (by rw [h])])
    have e7 : ((faa.length : Int) != (fab.length : Int)) = true := by rw [bne_iff_ne]; omega
    clear hz
    go_enter Try.func27, Try.ntmps27
    go_upto_region 1 with fail
    refine wp_world (S := fun X => InA w X ⟨da, ca, ra, fra, na, faa, fua⟩ ⟨da, cb, ra, fra, na, fab, fub⟩ (.slice A1 n1 c1) (.slice A2 faa.length c2) (.slice A3 n3 c3) (.slice B1 m1 d1) (.slice B2 fab.length d2) (.slice B3 m3 d3)) ⟨(heap_alloc_old _ _ (by simp)).trans (heap_alloc_new w _), heap_alloc_at _ _ _ (by simp), (by repeat first | exact Keep.refl _ _ | refine Keep.alloc ?_ _ | refine Keep.drew ?_ | refine Keep.drewN ?_ _)⟩ ?_
    intro X hX
    have HX := Lib.hid hX
    clear hX
    obtain ⟨x0, x1, x2, x3, x4, x5, x6, x7, x8, x9, x10, x11, xf⟩ := cells12 HX.out.1
    obtain ⟨y0, y1, y2, y3, y4, y5, y6, y7, y8, y9, y10, y11, yf⟩ := cells12 HX.out.2.1
    go_wp2_with fail
    have K1 := EX.out X HX.out.2.2
    with_reducible refine K1.mono ?_
    clear K1
    rintro e w1 ⟨rfl, hb⟩
    have H1 := Lib.hid (HX.out.same (Keep.of_below' hb))
    clear hb
    clear x0 x1 x2 x3 x4 x5 x6 x7 x8 x9 x10 x11 xf y0 y1 y2 y3 y4 y5 y6 y7 y8 y9 y10 y11 yf
    obtain ⟨x0, x1, x2, x3, x4, x5, x6, x7, x8, x9, x10, x11, xf⟩ := cells12 H1.out.1
    obtain ⟨y0, y1, y2, y3, y4, y5, y6, y7, y8, y9, y10, y11, yf⟩ := cells12 H1.out.2.1
    go_wp2_with fail
    have K1 := SL.out w1 H1.out.2.2
    with_reducible refine K1.mono ?_
    clear K1
    rintro e w2 ⟨rfl, q2, hb⟩
    have H2 := Lib.hid (show InA w w2 _ _ _ _ _ _ _ _ from H1.out.same (by rw [hb]; exact (Keep.refl _ w1).drewN _))
    clear hb
    clear x0 x1 x2 x3 x4 x5 x6 x7 x8 x9 x10 x11 xf y0 y1 y2 y3 y4 y5 y6 y7 y8 y9 y10 y11 yf
    obtain ⟨x0, x1, x2, x3, x4, x5, x6, x7, x8, x9, x10, x11, xf⟩ := cells12 H2.out.1
    obtain ⟨y0, y1, y2, y3, y4, y5, y6, y7, y8, y9, y10, y11, yf⟩ := cells12 H2.out.2.1
    go_wp2
    go_ret
    exact ⟨ret_bool Z.out.symm, H2.out.2.2.to_below'⟩
  have h7 := Decidable.not_not.1 h7
  have HE := Lib.hid (show faa.take faa.length = fab.take faa.length → z = true from fun h => by
    rw [hz, decide_eq_true_iff]
    rw [List.take_length, h7, List.take_length] at h
    exact h)
  have HN := Lib.hid (show ∀ (k : Nat) x y, faa[k]? = some x → fab[k]? = some y → x ≠ y → z = false from fun k x y h1 h2 h => by
    rw [hz, decide_eq_false_iff_not]
    rintro rfl
    rw [h1] at h2
    injection h2 with h2
    exact h h2)
  have HR := Lib.hid (show ∀ (k : Nat) x, faa[k]? = some x → fab[k]? = some x → faa.take k = fab.take k → faa.take (k + 1) = fab.take (k + 1) from fun k x h1 h2 h => by
    rw [List.take_add_one, List.take_add_one, h, h1, h2])
  have e7 : ((faa.length : Int) != (fab.length : Int)) = false := by rw [h7]; simp
  clear hz
  have hm2' : faa.length ≤ 9223372036854775807 := by unfold maxLen at hm2; obtain ⟨_, _, _, h, _⟩ := HA.out; unfold maxLen at *; omega
  clear hm2 hm4
  obtain ⟨n, hn⟩ : ∃ n, n = faa.length := ⟨_, rfl⟩
  have NX := Lib.hid (And.intro hn h7)
  rw [← h7, ← hn] at e7 HB
  rw [← hn] at HE HA hm2'
  clear hn
  rw [← NX.out.2, ← NX.out.1]
  go_enter Try.func27, Try.ntmps27
  go_upto_region 1 with fail
  refine wp_world (S := fun X => InA w X ⟨da, ca, ra, fra, na, faa, fua⟩ ⟨da, cb, ra, fra, na, fab, fub⟩ (.slice A1 n1 c1) (.slice A2 n c2) (.slice A3 n3 c3) (.slice B1 m1 d1) (.slice B2 n d2) (.slice B3 m3 d3)) ⟨(heap_alloc_old _ _ (by simp)).trans (heap_alloc_new w _), heap_alloc_at _ _ _ (by simp), (by repeat first | exact Keep.refl _ _ | refine Keep.alloc ?_ _ | refine Keep.drew ?_ | refine Keep.drewN ?_ _)⟩ ?_
  intro X hX
  have HX := Lib.hid hX
  clear hX
  obtain ⟨x0, x1, x2, x3, x4, x5, x6, x7, x8, x9, x10, x11, xf⟩ := cells12 HX.out.1
  obtain ⟨y0, y1, y2, y3, y4, y5, y6, y7, y8, y9, y10, y11, yf⟩ := cells12 HX.out.2.1
  go_wp2_with fail
  have K1 := EX.out X HX.out.2.2
  with_reducible refine K1.mono ?_
  clear K1
  rintro e w1 ⟨rfl, hb⟩
  have H1 := Lib.hid (HX.out.same (Keep.of_below' hb))
  clear hb
  clear x0 x1 x2 x3 x4 x5 x6 x7 x8 x9 x10 x11 xf y0 y1 y2 y3 y4 y5 y6 y7 y8 y9 y10 y11 yf
  obtain ⟨x0, x1, x2, x3, x4, x5, x6, x7, x8, x9, x10, x11, xf⟩ := cells12 H1.out.1
  obtain ⟨y0, y1, y2, y3, y4, y5, y6, y7, y8, y9, y10, y11, yf⟩ := cells12 H1.out.2.1
  go_wp2_with fail
  have K1 := SL.out w1 H1.out.2.2
  with_reducible refine K1.mono ?_
  clear K1
  rintro e w2 ⟨rfl, q2, hb⟩
  have H2 := Lib.hid (show InA w w2 _ _ _ _ _ _ _ _ from H1.out.same (by rw [hb]; exact (Keep.refl _ w1).drewN _))
  clear hb
  clear x0 x1 x2 x3 x4 x5 x6 x7 x8 x9 x10 x11 xf y0 y1 y2 y3 y4 y5 y6 y7 y8 y9 y10 y11 yf
  obtain ⟨x0, x1, x2, x3, x4, x5, x6, x7, x8, x9, x10, x11, xf⟩ := cells12 H2.out.1
  obtain ⟨y0, y1, y2, y3, y4, y5, y6, y7, y8, y9, y10, y11, yf⟩ := cells12 H2.out.2.1
  go_wp2
  go_loopw [5] (fun i wr => ∃ (k q : Nat), k ≤ n ∧ i = .int .i64 k ∧ wr = w2.drewN q ∧ Hid (faa.take k = fab.take k)) (fun i _ => n - (intOf i).toNat)
  case atStart => exact ⟨0, 0, by omega, rfl, rfl, Lib.hid rfl⟩
  case round =>
    obtain ⟨k, q, hk, rfl, rfl, ht⟩ := hrel
    by_cases hlt : k < n
    · obtain ⟨b1, o1, x, rfl, -, hx, q1⟩ := ML.at_ fcells_len (by decide) (HA.out.same H2.out.2.2) hlt
      obtain ⟨b2, o2, y, rfl, -, hy, q2⟩ := ML.at_ fcells_len (by decide) (HB.out.same H2.out.2.2) hlt
      have hi : (k : Int) < (n : Int) := by omega
      have h00 : (0 : Int) ≤ (k : Int) := by omega
      have NE := HN.out k x y hx hy
      have YE := HR.out k
      have c1 : w2.cell? ⟨b1, o1 + k * 2, none⟩ = some (.int .i64 x.kept) := q1 0 _ rfl
      have c2 : w2.cell? ⟨b1, o1 + k * 2 + 1, none⟩ = some (.int .i64 x.torn) := q1 1 _ rfl
      have d1 : w2.cell? ⟨b2, o2 + k * 2, none⟩ = some (.int .i64 y.kept) := q2 0 _ rfl
      have d2 : w2.cell? ⟨b2, o2 + k * 2 + 1, none⟩ = some (.int .i64 y.torn) := q2 1 _ rfl
      clear q1 q2
      by_cases hxy : x = y
      · subst hxy
        have NX2 := Lib.hid (YE x hx hy ht.out)
        clear NE YE hx hy
        obtain ⟨xk, xt⟩ := x
        have e8 : (xk == xk) = true := by simp
        have e9 : (xt == xt) = true := by simp
        go_wp2
        go_quiet (fail)
        go_wp2
        go_roundw
        case rel => exact ⟨k + 1, _, by omega, by go_num, by first | rfl | exact World.drewN_drewN _ _ _, NX2⟩
        case measure => simp [intOf]; omega
      · have hf := Lib.hid (NE hxy)
        clear NE YE hx hy
        obtain ⟨xk, xt⟩ := x
        obtain ⟨yk, yt⟩ := y
        by_cases hk1 : xk = yk
        · have hk2 : xt ≠ yt := fun h => hxy (by rw [hk1, h])
          subst hk1
          have e8 : (xk == xk) = true := by simp
          have e9 : (xt == yt) = false := by simpa using hk2
          clear hk2 hxy
          go_wp2
          go_quiet (fail)
          go_wp2
          go_ret
          exact ⟨ret_bool hf.out.symm, by first | exact ((H2.out.2.2.drewN _).drewN _).to_below' | exact (H2.out.2.2.drewN _).to_below'⟩
        · have e8 : (xk == yk) = false := by simpa using hk1
          clear hxy hk1
          go_wp2
          go_quiet (fail)
          go_wp2
          go_ret
          exact ⟨ret_bool hf.out.symm, by first | exact ((H2.out.2.2.drewN _).drewN _).to_below' | exact (H2.out.2.2.drewN _).to_below'⟩
    · have hi : ¬ (k : Int) < (n : Int) := by omega
      have hf := Lib.hid (HE.out (by rw [show n = k by omega]; exact ht.out))
      go_wp2
      go_ret
      exact ⟨ret_bool hf.out.symm, by first | exact ((H2.out.2.2.drewN _).drewN _).to_below' | exact (H2.out.2.2.drewN _).to_below'⟩
end Go.Proofs.Ythkgchlndfcmpaa
namespace Go.Proofs.Ythkgchlndfcmpaa
open Go.RowKit
set_option maxRecDepth 100000
set_option linter.unusedVariables false
set_option linter.unusedSimpArgs false

/-- An act's cells, with its three slices. -/
def acL (p : Ac × (Value × Value × Value)) : List Value := [.int .i64 p.1.do_, .int .i64 p.1.c.do_, .bool p.1.c.loc, .int .i64 p.1.c.idx, .int .i64 p.1.c.gen, .int .i64 p.1.c.comp, p.2.1, .int .i64 p.1.room, .int .i64 p.1.frames, .int .i64 p.1.n, p.2.2.1, p.2.2.2]
theorem acL_len (p : Ac × (Value × Value × Value)) : (acL p).length = 12 := rfl
/-- v holds the acts l, all in blocks of F. -/
def AS (w : World) (F : Nat → Prop) (v : Value) (l : List Ac) : Prop :=
  ∃ us : List (Value × Value × Value), us.length = l.length ∧ ML acL 12 w F v (l.zip us) ∧ ∀ (i : Nat) x u, l[i]? = some x → us[i]? = some u → AM w F x u.1 u.2.1 u.2.2
section
variable {w w' : World} {F G S : Nat → Prop} {v : Value} {l : List Ac}
theorem AS.keep (h : AS w F v l) (hk : Keep S w w') (hs : ∀ b, b < w.heap.size → F b → ¬ S b) : AS w' F v l := by
  obtain ⟨us, h1, h2, h3⟩ := h
  exact ⟨us, h1, h2.keep hk hs, fun i x u hx hu => (h3 i x u hx hu).keep hk hs⟩
theorem AS.same (h : AS w F v l) (hk : Keep (fun _ => False) w w') : AS w' F v l := h.keep hk (fun _ _ _ h => h)
theorem AS.mono (h : AS w F v l) (hf : ∀ b, b < w.heap.size → F b → G b) : AS w G v l := by
  obtain ⟨us, h1, h2, h3⟩ := h
  exact ⟨us, h1, h2.mono hf, fun i x u hx hu => (h3 i x u hx hu).mono hf⟩
theorem AS.nil (w : World) (F : Nat → Prop) : AS w F (.slice none 0 0) [] := ⟨[], rfl, ML.nil _ _ _ _, fun i x u hx => by simp at hx⟩
theorem AS.form (h : AS w F v l) : ∃ A c, v = .slice A l.length c ∧ c ≤ maxLen := by
  obtain ⟨us, h1, ⟨A, c, e, h3, h4, h5⟩, _⟩ := h
  refine ⟨A, c, ?_, h4⟩
  rw [e, List.length_zip, h1, Nat.min_self]
theorem AS.len (h : AS w F v l) : l.length ≤ 9223372036854775807 := by
  obtain ⟨us, h1, ⟨A, c, e, h3, h4, h5⟩, _⟩ := h
  rw [List.length_zip, h1, Nat.min_self] at h3
  unfold maxLen at h4
  omega
theorem AS.at_ {A : Option Addr} {n c : Nat} (h : AS w F (.slice A n c) l) {k : Nat} (hk : k < n) :
    ∃ b off x u1 u2 u3, A = some ⟨b, off, none⟩ ∧ F b ∧ l[k]? = some x ∧ AM w F x u1 u2 u3 ∧ ∀ j u, (acL (x, u1, u2, u3))[j]? = some u → w.cell? ⟨b, off + k * 12 + j, none⟩ = some u := by
  obtain ⟨us, h1, h2, h3⟩ := h
  obtain ⟨b, off, ⟨x, u1, u2, u3⟩, e, hF, hx, hc⟩ := ML.at_ acL_len (by decide) h2 hk
  have hk2 := (List.getElem?_zip_eq_some.1 hx)
  exact ⟨b, off, x, u1, u2, u3, e, hF, hk2.1, h3 k x (u1, u2, u3) hk2.1 hk2.2, hc⟩
end
/-- More than is asked? -/
def muchA (l : List Ac) : Bool := (l.take 100).any bigA || decide (80 < l.length)
theorem cells_at12 {w : World} {b o : Nat} {x : Ac} {u1 u2 u3 : Value} (h : ∀ j u, (acL (x, u1, u2, u3))[j]? = some u → w.cell? ⟨b, o + j, none⟩ = some u) :
    w.cell? ⟨b, o, none⟩ = some (.int .i64 x.do_) ∧ w.cell? ⟨b, o + 1, none⟩ = some (.int .i64 x.c.do_) ∧ w.cell? ⟨b, o + 2, none⟩ = some (.bool x.c.loc) ∧ w.cell? ⟨b, o + 3, none⟩ = some (.int .i64 x.c.idx) ∧ w.cell? ⟨b, o + 4, none⟩ = some (.int .i64 x.c.gen) ∧ w.cell? ⟨b, o + 5, none⟩ = some (.int .i64 x.c.comp) ∧ w.cell? ⟨b, o + 6, none⟩ = some u1 ∧
    w.cell? ⟨b, o + 7, none⟩ = some (.int .i64 x.room) ∧ w.cell? ⟨b, o + 8, none⟩ = some (.int .i64 x.frames) ∧ w.cell? ⟨b, o + 9, none⟩ = some (.int .i64 x.n) ∧ w.cell? ⟨b, o + 10, none⟩ = some u2 ∧ w.cell? ⟨b, o + 11, none⟩ = some u3 :=
  ⟨h 0 _ rfl, h 1 _ rfl, h 2 _ rfl, h 3 _ rfl, h 4 _ rfl, h 5 _ rfl, h 6 _ rfl, h 7 _ rfl, h 8 _ rfl, h 9 _ rfl, h 10 _ rfl, h 11 _ rfl⟩
set_option maxHeartbeats 4000000 in
theorem much31 (l : List Ac) (v : Value) (F : Nat → Prop) (w : World) (h : AS w F v l) :
    Calls Try.prog 25 #[v] w fun e w' => e = .returned (.bool (muchA l)) ∧ w' = w := by
  have HA := Lib.hid h
  obtain ⟨A, c, rfl, hc⟩ := h.form
  clear h
  obtain ⟨z, hz⟩ : ∃ z, z = muchA l := ⟨_, rfl⟩
  rw [← hz]
  obtain ⟨n, hn⟩ : ∃ n, n = l.length := ⟨_, rfl⟩
  rw [← hn] at HA ⊢
  have HB := Lib.hid (show ∀ k x, k < n → k < 100 → l[k]? = some x → bigA x = true → z = true from fun k x h1 h2 h3 h4 => by
    rw [hz, muchA, Bool.or_eq_true]
    exact .inl (List.any_eq_true.2 ⟨x, List.mem_of_getElem? (by rw [List.getElem?_take, if_pos h2]; exact h3), h4⟩))
  have HE := Lib.hid (show ∀ k, (n ≤ k ∨ 100 ≤ k) → (l.take k).any bigA = false → z = decide (80 < n) from fun k h1 h2 => by
    rw [hz, muchA, ← hn]
    have : (l.take 100).any bigA = false := by
      rw [List.any_eq_false] at h2 ⊢
      intro x hx
      apply h2
      rcases h1 with h1 | h1
      · rw [List.take_of_length_le (by omega)]
        exact List.mem_of_mem_take hx
      · have : (l.take k).take 100 = l.take 100 := by rw [List.take_take, Nat.min_eq_left h1]
        rw [← this] at hx
        exact List.mem_of_mem_take hx
    rw [this, Bool.false_or])
  have HR := Lib.hid (show ∀ k x, l[k]? = some x → bigA x = false → (l.take k).any bigA = false → (l.take (k + 1)).any bigA = false from fun k x h1 h2 h3 => by
    rw [List.take_add_one, List.any_append, h3, h1]
    simp [h2])
  clear hz hn
  go_enter Try.func25, Try.ntmps25
  go_wp2
  go_loopw [3] (fun i wr => ∃ k : Nat, k ≤ n ∧ i = .int .i64 k ∧ wr = w ∧ Hid ((l.take k).any bigA = false)) (fun i _ => n - (intOf i).toNat)
  case atStart => exact ⟨0, by omega, rfl, rfl, Lib.hid rfl⟩
  case round =>
    obtain ⟨k, hk, rfl, rfl, ht⟩ := hrel
    by_cases hlt : k < n
    · have hi : (k : Int) < (n : Int) := by omega
      by_cases hh : k < 100
      · have hi2 : (k : Int) < 100 := by omega
        have h00 : (0 : Int) ≤ (k : Int) := by omega
        obtain ⟨b, off, x, u1, u2, u3, rfl, -, hx, ham, hcs⟩ := HA.out.at_ hlt
        obtain ⟨⟨A1, m1, rfl, -⟩, h2, h3⟩ := ham
        obtain ⟨A2, m2, rfl⟩ := h2.form
        obtain ⟨A3, m3, rfl⟩ := h3.form
        obtain ⟨y0, y1, y2, y3, y4, y5, y6, y7, y8, y9, y10, y11⟩ := cells_at12 hcs
        have B1 := HB.out k x hlt hh hx
        have R1 := HR.out k x hx
        clear hcs h2 h3 hx
        unfold bigA at B1 R1
        generalize x.c.l.length = q1 at *
        generalize x.fa.length = q2 at *
        generalize x.fu.length = q3 at *
        by_cases c1 : 200 < q1
        · have Z := Lib.hid (B1 (decide_eq_true (by omega)))
          have t1 : (200 : Int) < (q1 : Int) := by omega
          clear B1 R1
          go_wp2
          go_ret
          exact ⟨ret_bool Z.out.symm, rfl⟩
        by_cases c2 : 40 < q2
        · have Z := Lib.hid (B1 (decide_eq_true (by omega)))
          have t1 : ¬ (200 : Int) < (q1 : Int) := by omega
          have t2 : (40 : Int) < (q2 : Int) := by omega
          clear B1 R1
          go_wp2
          go_ret
          exact ⟨ret_bool Z.out.symm, rfl⟩
        by_cases c3 : 10 < q3
        · have Z := Lib.hid (B1 (decide_eq_true (by omega)))
          have t1 : ¬ (200 : Int) < (q1 : Int) := by omega
          have t2 : ¬ (40 : Int) < (q2 : Int) := by omega
          have t3 : (10 : Int) < (q3 : Int) := by omega
          clear B1 R1
          go_wp2
          go_ret
          exact ⟨ret_bool Z.out.symm, rfl⟩
        have NT := Lib.hid (R1 (decide_eq_false (by omega)) ht.out)
        have t1 : ¬ (200 : Int) < (q1 : Int) := by omega
        have t2 : ¬ (40 : Int) < (q2 : Int) := by omega
        have t3 : ¬ (10 : Int) < (q3 : Int) := by omega
        clear B1 R1
        go_wp2
        go_roundw
        case rel => exact ⟨k + 1, by omega, by first | rfl | trivial | go_num, by first | rfl | trivial, NT⟩
        case measure => simp [intOf]; omega
      · have hi2 : ¬ (k : Int) < 100 := by omega
        have Z := Lib.hid (HE.out k (by omega) ht.out)
        have t4 : (80 : Int) < (n : Int) := by omega
        have Z2 := Lib.hid (show z = true by rw [Z.out]; exact decide_eq_true (by omega))
        go_wp2
        go_ret
        exact ⟨ret_bool Z2.out.symm, rfl⟩
    · have hi : ¬ (k : Int) < (n : Int) := by omega
      have Z := Lib.hid (HE.out k (by omega) ht.out)
      by_cases h80 : 80 < n
      · have t4 : (80 : Int) < (n : Int) := by omega
        have Z2 := Lib.hid (show z = true by rw [Z.out]; exact decide_eq_true (by omega))
        go_wp2
        go_ret
        exact ⟨ret_bool Z2.out.symm, rfl⟩
      · have t4 : ¬ (80 : Int) < (n : Int) := by omega
        have Z2 := Lib.hid (show z = false by rw [Z.out]; exact decide_eq_false (by omega))
        go_wp2
        go_ret
        exact ⟨ret_bool Z2.out.symm, rfl⟩
end Go.Proofs.Ythkgchlndfcmpaa

/- The walk of vivariumlaw31.ScriptSames: it returns true, old memory unchanged. Printed by genscriptsames.py. -/
import Derived.Test.YthkgchlndfcmpaaScr7
import Derived.Test.YthkgchlndfcmpaaScrB
namespace Go.Proofs.Ythkgchlndfcmpaa
open Go.RowKit
set_option maxRecDepth 100000
set_option linter.unusedVariables false
set_option linter.unusedSimpArgs false

theorem smallA_big {x : Ac} (h : bigA x = false) : smallA x := by
  unfold bigA at h
  have h := of_decide_eq_false h
  unfold smallA
  omega
theorem AS.two {w : World} {F : Nat → Prop} {a b : Ac} {u1 u2 u3 v1 v2 v3 : Value} (e : TypeId) (ha : AM w F a u1 u2 u3) (hb : AM w F b v1 v2 v3) (p : Nat) (hp : p = w.heap.size) : AS (w.alloc (.cells ((acL (a, u1, u2, u3)) ++ (acL (b, v1, v2, v3))).toArray e)) (fun k => k = w.heap.size ∨ F k) (.slice (some ⟨p, 0, none⟩) 2 2) [a, b] := by
  subst hp
  exact ⟨[(u1, u2, u3), (v1, v2, v3)], rfl, ⟨_, _, rfl, Nat.le_refl _, by decide, (Rd.lit w e ((acL (a, u1, u2, u3)) ++ (acL (b, v1, v2, v3)))).mono (fun _ _ h => .inl h), fun h => by cases h⟩, fun i x u hx hu => by
    match i, hx, hu with
    | 0, hx, hu => simp at hx hu; subst hx hu; exact (ha.same ((Keep.refl _ w).alloc _)).mono (fun _ _ h => .inr h)
    | 1, hx, hu => simp at hx hu; subst hx hu; exact (hb.same ((Keep.refl _ w).alloc _)).mono (fun _ _ h => .inr h)
    | n + 2, hx, hu => simp at hx⟩
theorem much_two (a b : Ac) : muchA [a, b] = (bigA a || bigA b) := by
  unfold muchA
  simp
set_option maxHeartbeats 8000000 in
theorem scriptSames_walk (a b : Ac) (u1 u2 u3 v1 v2 v3 : Value) (w : World) (ha : AM w (fun _ => True) a u1 u2 u3) (hb : AM w (fun _ => True) b v1 v2 v3) :
    Calls Try.prog 4 #[actV a u1 u2 u3, actV b v1 v2 v3] w fun e w' => e = .returned (.bool true) ∧ Below w.heap.size w w' := by
  obtain ⟨A1, c1, rfl, -⟩ := ha.1
  obtain ⟨A2, c2, rfl⟩ := ha.2.1.form
  obtain ⟨A3, c3, rfl⟩ := ha.2.2.form
  obtain ⟨B1, d1, rfl, -⟩ := hb.1
  obtain ⟨B2, d2, rfl⟩ := hb.2.1.form
  obtain ⟨B3, d3, rfl⟩ := hb.2.2.form
  have MU := Lib.hid (fun W (hk : Keep (fun _ => False) w W) p (hp : p = W.heap.size) => much31 [a, b] _ _ _ (AS.two 45 (ha.same hk) (hb.same hk) p hp))
  rw [much_two] at MU
  have LV := Lib.hid (fun W => live31 W)
  by_cases hbig : (bigA a || bigA b) = true
  · rw [hbig] at MU
    clear ha hb hbig
    unfold actV
    go_enter Try.func4, Try.ntmps4
    go_wp2_with fail
    have K1 := MU.out _ (show Keep (fun _ => False) w ((w.alloc (.cells (acL (a, (.slice A1 a.c.l.length c1), (.slice A2 a.fa.length c2), (.slice A3 a.fu.length c3))).toArray 45)).alloc (.cells (acL (b, (.slice B1 b.c.l.length d1), (.slice B2 b.fa.length d2), (.slice B3 b.fu.length d3))).toArray 45)) from ((Keep.refl _ w).alloc _).alloc _) (w.heap.size + 1 + 1) (by simp)
    simp only [acL, List.cons_append, List.nil_append] at K1
    with_reducible refine K1.mono ?_
    rintro e w1 ⟨rfl, rfl⟩
    have KB := Lib.hid (show Keep (fun _ => False) w _ from ((((Keep.refl _ w).alloc (.cells (acL (a, (.slice A1 a.c.l.length c1), (.slice A2 a.fa.length c2), (.slice A3 a.fu.length c3))).toArray 45)).alloc (.cells (acL (b, (.slice B1 b.c.l.length d1), (.slice B2 b.fa.length d2), (.slice B3 b.fu.length d3))).toArray 45)).alloc (.cells ((acL (a, (.slice A1 a.c.l.length c1), (.slice A2 a.fa.length c2), (.slice A3 a.fu.length c3))) ++ (acL (b, (.slice B1 b.c.l.length d1), (.slice B2 b.fa.length d2), (.slice B3 b.fu.length d3)))).toArray 45)))
    clear K1 MU
    go_wp2_with fail
    refine (LV.out _).mono ?_
    rintro e w2 ⟨rfl, hb2⟩
    have KF := Lib.hid (KB.out.trans (Keep.of_below' hb2) (fun _ _ h => h))
    clear hb2
    go_wp2
    go_ret
    exact ⟨rfl, KF.out.to_below'⟩
  rw [Bool.not_eq_true] at hbig
  rw [hbig] at MU
  rw [Bool.or_eq_false_iff] at hbig
  have hsa := smallA_big hbig.1
  have hsb := smallA_big hbig.2
  have PA := Lib.hid (fun W (hk : Keep (fun _ => False) w W) => splainA_any a (.slice A1 a.c.l.length c1) (.slice A2 a.fa.length c2) (.slice A3 a.fu.length c3) _ W (ha.same hk) hsa)
  have RA := Lib.hid (fun W (hk : Keep (fun _ => False) w W) => rplainA_any a (.slice A1 a.c.l.length c1) (.slice A2 a.fa.length c2) (.slice A3 a.fu.length c3) _ W (ha.same hk))
  have RB := Lib.hid (fun W (hk : Keep (fun _ => False) w W) => rplainA_any b (.slice B1 b.c.l.length d1) (.slice B2 b.fa.length d2) (.slice B3 b.fu.length d3) _ W (hb.same hk))
  have RS := Lib.hid (fun W (hk : Keep (fun _ => False) w W) => srightA a (.slice A1 a.c.l.length c1) (.slice A2 a.fa.length c2) (.slice A3 a.fu.length c3) _ W (ha.same hk))
  have RR := Lib.hid (fun W (hk : Keep (fun _ => False) w W) => rrightA a (.slice A1 a.c.l.length c1) (.slice A2 a.fa.length c2) (.slice A3 a.fu.length c3) _ W (ha.same hk))
  have SS := Lib.hid (fun W (hk : Keep (fun _ => False) w W) => ssame_any a b (.slice A1 a.c.l.length c1) (.slice A2 a.fa.length c2) (.slice A3 a.fu.length c3) (.slice B1 b.c.l.length d1) (.slice B2 b.fa.length d2) (.slice B3 b.fu.length d3) _ _ W (ha.same hk) (hb.same hk) hsa hsb)
  have SP := Lib.hid (fun W (hk : Keep (fun _ => False) w W) G w1 w2 w3 (h : AM W G (plainA a) w1 w2 w3) => ssame_any a (plainA a) (.slice A1 a.c.l.length c1) (.slice A2 a.fa.length c2) (.slice A3 a.fu.length c3) w1 w2 w3 _ G W (ha.same hk) h hsa (smallA_plain hsa))
  have EA := Lib.hid (fun W F G w1 w2 w3 w4 w5 w6 (h1 : AM W F (plainA a) w1 w2 w3) (h2 : AM W G (plainA a) w4 w5 w6) => exactA_any (plainA a) (plainA a) w1 w2 w3 w4 w5 w6 F G W h1 h2 ⟨(smallA_plain hsa).2.2, (smallA_plain hsa).2.2⟩)
  have EB := Lib.hid (fun W F G w1 w2 w3 w4 w5 w6 (h1 : AM W F (plainA a) w1 w2 w3) (h2 : AM W G (plainA b) w4 w5 w6) => exactA_any (plainA a) (plainA b) w1 w2 w3 w4 w5 w6 F G W h1 h2 ⟨(smallA_plain hsa).2.2, (smallA_plain hsb).2.2⟩)
  rw [exactA_self] at EA
  rw [sameA_eq, plainA_idem, exactA_self] at SP
  rw [sameA_eq] at SS
  generalize exactA (plainA a) (plainA b) = s at *
  generalize rightA a = r at *
  generalize plainA a = pa at *
  generalize plainA b = pb at *
  have s1 : (s == s) = true := by simp
  have r1 : (r == r) = true := by simp
  clear ha hb hbig hsa hsb
  unfold actV at *
  go_enter Try.func4, Try.ntmps4
  go_wp2_with fail
  have K1 := MU.out _ (show Keep (fun _ => False) w ((w.alloc (.cells (acL (a, (.slice A1 a.c.l.length c1), (.slice A2 a.fa.length c2), (.slice A3 a.fu.length c3))).toArray 45)).alloc (.cells (acL (b, (.slice B1 b.c.l.length d1), (.slice B2 b.fa.length d2), (.slice B3 b.fu.length d3))).toArray 45)) from ((Keep.refl _ w).alloc _).alloc _) (w.heap.size + 1 + 1) (by simp)
  simp only [acL, List.cons_append, List.nil_append] at K1
  with_reducible refine K1.mono ?_
  rintro e w1 ⟨rfl, rfl⟩
  clear K1 MU
  go_upto_region 3 with fail
  refine wp_world (S := fun X => Ax X w.heap.size a (.slice A1 a.c.l.length c1) (.slice A2 a.fa.length c2) (.slice A3 a.fu.length c3) ∧ Ax X (w.heap.size + 1) b (.slice B1 b.c.l.length d1) (.slice B2 b.fa.length d2) (.slice B3 b.fu.length d3) ∧ Keep (fun _ => False) w X) ⟨(heap_alloc_old _ _ (by simp; omega)).trans ((heap_alloc_old _ _ (by simp)).trans (heap_alloc_new w _)), (heap_alloc_old _ _ (by simp)).trans (heap_alloc_at _ _ _ (by simp)), ((Keep.refl _ w).alloc _).alloc _ |>.alloc _⟩ ?_
  intro X hX
  have HX := Lib.hid hX
  clear hX
  have KX := Lib.hid (fun W' (hk : Keep (fun _ => False) X W') => HX.out.2.2.trans hk (fun _ _ h => h))
  have CE := Lib.hid (show ∀ W', Keep (fun _ => False) X W' → W'.cell? ⟨w.heap.size, 0, none⟩ = some (.int .i64 a.do_) ∧ W'.cell? ⟨w.heap.size, 1, none⟩ = some (.int .i64 a.c.do_) ∧ W'.cell? ⟨w.heap.size, 2, none⟩ = some (.bool a.c.loc) ∧ W'.cell? ⟨w.heap.size, 3, none⟩ = some (.int .i64 a.c.idx) ∧ W'.cell? ⟨w.heap.size, 4, none⟩ = some (.int .i64 a.c.gen) ∧ W'.cell? ⟨w.heap.size, 5, none⟩ = some (.int .i64 a.c.comp) ∧ W'.cell? ⟨w.heap.size, 6, none⟩ = some (.slice A1 a.c.l.length c1) ∧ W'.cell? ⟨w.heap.size, 7, none⟩ = some (.int .i64 a.room) ∧ W'.cell? ⟨w.heap.size, 8, none⟩ = some (.int .i64 a.frames) ∧ W'.cell? ⟨w.heap.size, 9, none⟩ = some (.int .i64 a.n) ∧ W'.cell? ⟨w.heap.size, 10, none⟩ = some (.slice A2 a.fa.length c2) ∧ W'.cell? ⟨w.heap.size, 11, none⟩ = some (.slice A3 a.fu.length c3) ∧ W'.cell? ⟨w.heap.size + 1, 0, none⟩ = some (.int .i64 b.do_) ∧ W'.cell? ⟨w.heap.size + 1, 1, none⟩ = some (.int .i64 b.c.do_) ∧ W'.cell? ⟨w.heap.size + 1, 2, none⟩ = some (.bool b.c.loc) ∧ W'.cell? ⟨w.heap.size + 1, 3, none⟩ = some (.int .i64 b.c.idx) ∧ W'.cell? ⟨w.heap.size + 1, 4, none⟩ = some (.int .i64 b.c.gen) ∧ W'.cell? ⟨w.heap.size + 1, 5, none⟩ = some (.int .i64 b.c.comp) ∧ W'.cell? ⟨w.heap.size + 1, 6, none⟩ = some (.slice B1 b.c.l.length d1) ∧ W'.cell? ⟨w.heap.size + 1, 7, none⟩ = some (.int .i64 b.room) ∧ W'.cell? ⟨w.heap.size + 1, 8, none⟩ = some (.int .i64 b.frames) ∧ W'.cell? ⟨w.heap.size + 1, 9, none⟩ = some (.int .i64 b.n) ∧ W'.cell? ⟨w.heap.size + 1, 10, none⟩ = some (.slice B2 b.fa.length d2) ∧ W'.cell? ⟨w.heap.size + 1, 11, none⟩ = some (.slice B3 b.fu.length d3) ∧ Keep (fun _ => False) X W' from fun W' hk => by
    obtain ⟨x0, x1, x2, x3, x4, x5, x6, x7, x8, x9, x10, x11, xf⟩ := cells12 (HX.out.1.keep hk (fun h => h))
    obtain ⟨y0, y1, y2, y3, y4, y5, y6, y7, y8, y9, y10, y11, yf⟩ := cells12 (HX.out.2.1.keep hk (fun h => h))
    exact ⟨x0, x1, x2, x3, x4, x5, x6, x7, x8, x9, x10, x11, y0, y1, y2, y3, y4, y5, y6, y7, y8, y9, y10, y11, hk⟩)
  go_region_held3 (fun W' => W'.cell? ⟨w.heap.size, 0, none⟩ = some (.int .i64 a.do_) ∧ W'.cell? ⟨w.heap.size, 1, none⟩ = some (.int .i64 a.c.do_) ∧ W'.cell? ⟨w.heap.size, 2, none⟩ = some (.bool a.c.loc) ∧ W'.cell? ⟨w.heap.size, 3, none⟩ = some (.int .i64 a.c.idx) ∧ W'.cell? ⟨w.heap.size, 4, none⟩ = some (.int .i64 a.c.gen) ∧ W'.cell? ⟨w.heap.size, 5, none⟩ = some (.int .i64 a.c.comp) ∧ W'.cell? ⟨w.heap.size, 6, none⟩ = some (.slice A1 a.c.l.length c1) ∧ W'.cell? ⟨w.heap.size, 7, none⟩ = some (.int .i64 a.room) ∧ W'.cell? ⟨w.heap.size, 8, none⟩ = some (.int .i64 a.frames) ∧ W'.cell? ⟨w.heap.size, 9, none⟩ = some (.int .i64 a.n) ∧ W'.cell? ⟨w.heap.size, 10, none⟩ = some (.slice A2 a.fa.length c2) ∧ W'.cell? ⟨w.heap.size, 11, none⟩ = some (.slice A3 a.fu.length c3) ∧ W'.cell? ⟨w.heap.size + 1, 0, none⟩ = some (.int .i64 b.do_) ∧ W'.cell? ⟨w.heap.size + 1, 1, none⟩ = some (.int .i64 b.c.do_) ∧ W'.cell? ⟨w.heap.size + 1, 2, none⟩ = some (.bool b.c.loc) ∧ W'.cell? ⟨w.heap.size + 1, 3, none⟩ = some (.int .i64 b.c.idx) ∧ W'.cell? ⟨w.heap.size + 1, 4, none⟩ = some (.int .i64 b.c.gen) ∧ W'.cell? ⟨w.heap.size + 1, 5, none⟩ = some (.int .i64 b.c.comp) ∧ W'.cell? ⟨w.heap.size + 1, 6, none⟩ = some (.slice B1 b.c.l.length d1) ∧ W'.cell? ⟨w.heap.size + 1, 7, none⟩ = some (.int .i64 b.room) ∧ W'.cell? ⟨w.heap.size + 1, 8, none⟩ = some (.int .i64 b.frames) ∧ W'.cell? ⟨w.heap.size + 1, 9, none⟩ = some (.int .i64 b.n) ∧ W'.cell? ⟨w.heap.size + 1, 10, none⟩ = some (.slice B2 b.fa.length d2) ∧ W'.cell? ⟨w.heap.size + 1, 11, none⟩ = some (.slice B3 b.fu.length d3) ∧ Keep (fun _ => False) X W') (with_reducible first | exact CE.out _ (Keep.drew (Keep.refl _ X)) | exact CE.out _ B12.out.1 | exact CE.out _ B11.out.1 | exact CE.out _ B10.out.1 | exact CE.out _ B9.out.1 | exact CE.out _ B8.out.1 | exact CE.out _ B7.out.1 | exact CE.out _ B6.out.1 | exact CE.out _ B5.out.1 | exact CE.out _ B4.out.1 | exact CE.out _ B3.out.1 | exact CE.out _ B2.out.1 | exact CE.out _ B1.out.1)
    (first
      | (go_at_call 26; (with_reducible refine (LV.out _).mono ?_); rintro e w12 ⟨rfl, hb⟩; have B12 := Lib.hid (show Keep (fun _ => False) X w12 ∧ True from And.intro ((B11.out.1).trans (Keep.of_below' hb) (fun _ _ h => h)) True.intro); clear hb)
      | (go_at_call 32; (with_reducible refine (SP.out _ (KX.out _ B10.out.1) _ _ _ _ B10.out.2).mono ?_); rintro e w11 ⟨rfl, hb⟩; have B11 := Lib.hid (show Keep (fun _ => False) X w11 ∧ True from And.intro ((B10.out.1).trans (Keep.of_below' hb) (fun _ _ h => h)) True.intro); clear hb)
      | (go_at_call 28; (with_reducible refine (PA.out _ (KX.out _ B9.out.1)).mono ?_); rintro e w10 ⟨A101, c101, A102, c102, A103, c103, rfl, hm, hb⟩; unfold actV; have B10 := Lib.hid (show Keep (fun _ => False) X w10 ∧ AM w10 (fun _ => True) pa (.slice A101 pa.c.l.length c101) (.slice A102 pa.fa.length c102) (.slice A103 pa.fu.length c103) from ⟨(B9.out.1).trans (Keep.of_below' hb) (fun _ _ h => h), hm.mono (fun _ _ _ => trivial)⟩); clear hb hm)
      | (go_at_call 27; (with_reducible refine (EB.out _ _ _ _ _ _ _ _ _ B8.out.2.2 B8.out.2.1).mono ?_); rintro e w9 ⟨rfl, hb⟩; have B9 := Lib.hid (show Keep (fun _ => False) X w9 ∧ True from And.intro ((B8.out.1).trans (Keep.of_below' hb) (fun _ _ h => h)) True.intro); clear hb)
      | (go_at_call 29; (with_reducible refine (RB.out _ (KX.out _ B7.out.1)).mono ?_); rintro e w8 ⟨A81, c81, A82, c82, A83, c83, rfl, hm, hb⟩; unfold actV; have B8 := Lib.hid (show Keep (fun _ => False) X w8 ∧ AM w8 (fun _ => True) pb (.slice A81 pb.c.l.length c81) (.slice A82 pb.fa.length c82) (.slice A83 pb.fu.length c83) ∧ AM w8 (fun _ => True) pa (.slice A71 pa.c.l.length c71) (.slice A72 pa.fa.length c72) (.slice A73 pa.fu.length c73) from ⟨(B7.out.1).trans (Keep.of_below' hb) (fun _ _ h => h), hm.mono (fun _ _ _ => trivial), (B7.out.2).same (Keep.of_below' hb)⟩); clear hb hm)
      | (go_at_call 29; (with_reducible refine (RA.out _ (KX.out _ B6.out.1)).mono ?_); rintro e w7 ⟨A71, c71, A72, c72, A73, c73, rfl, hm, hb⟩; unfold actV; have B7 := Lib.hid (show Keep (fun _ => False) X w7 ∧ AM w7 (fun _ => True) pa (.slice A71 pa.c.l.length c71) (.slice A72 pa.fa.length c72) (.slice A73 pa.fu.length c73) from ⟨(B6.out.1).trans (Keep.of_below' hb) (fun _ _ h => h), hm.mono (fun _ _ _ => trivial)⟩); clear hb hm)
      | (go_at_call 32; (with_reducible refine (SS.out _ (KX.out _ B5.out.1)).mono ?_); rintro e w6 ⟨rfl, hb⟩; have B6 := Lib.hid (show Keep (fun _ => False) X w6 ∧ True from And.intro ((B5.out.1).trans (Keep.of_below' hb) (fun _ _ h => h)) True.intro); clear hb)
      | (go_at_call 31; (with_reducible refine (RR.out _ (KX.out _ B4.out.1)).mono ?_); rintro e w5 ⟨rfl, hb⟩; have B5 := Lib.hid (show Keep (fun _ => False) X w5 ∧ True from And.intro ((B4.out.1).trans (Keep.of_below' hb) (fun _ _ h => h)) True.intro); clear hb)
      | (go_at_call 30; (with_reducible refine (RS.out _ (KX.out _ B3.out.1)).mono ?_); rintro e w4 ⟨rfl, hb⟩; have B4 := Lib.hid (show Keep (fun _ => False) X w4 ∧ True from And.intro ((B3.out.1).trans (Keep.of_below' hb) (fun _ _ h => h)) True.intro); clear hb)
      | (go_at_call 27; (with_reducible refine (EA.out _ _ _ _ _ _ _ _ _ B2.out.2.2 B2.out.2.1).mono ?_); rintro e w3 ⟨rfl, hb⟩; have B3 := Lib.hid (show Keep (fun _ => False) X w3 ∧ True from And.intro ((B2.out.1).trans (Keep.of_below' hb) (fun _ _ h => h)) True.intro); clear hb)
      | (go_at_call 29; (with_reducible refine (RA.out _ (KX.out _ B1.out.1)).mono ?_); rintro e w2 ⟨A21, c21, A22, c22, A23, c23, rfl, hm, hb⟩; unfold actV; have B2 := Lib.hid (show Keep (fun _ => False) X w2 ∧ AM w2 (fun _ => True) pa (.slice A21 pa.c.l.length c21) (.slice A22 pa.fa.length c22) (.slice A23 pa.fu.length c23) ∧ AM w2 (fun _ => True) pa (.slice A11 pa.c.l.length c11) (.slice A12 pa.fa.length c12) (.slice A13 pa.fu.length c13) from ⟨(B1.out.1).trans (Keep.of_below' hb) (fun _ _ h => h), hm.mono (fun _ _ _ => trivial), (B1.out.2).same (Keep.of_below' hb)⟩); clear hb hm)
      | (go_at_call 28; (with_reducible refine (PA.out _ (KX.out _ (by exact Keep.drew (Keep.refl _ X)))).mono ?_); rintro e w1 ⟨A11, c11, A12, c12, A13, c13, rfl, hm, hb⟩; unfold actV; have B1 := Lib.hid (show Keep (fun _ => False) X w1 ∧ AM w1 (fun _ => True) pa (.slice A11 pa.c.l.length c11) (.slice A12 pa.fa.length c12) (.slice A13 pa.fu.length c13) from ⟨((Keep.refl (fun _ => False) X).drew).trans (Keep.of_below' hb) (fun _ _ h => h), hm.mono (fun _ _ _ => trivial)⟩); clear hb hm)
      | fail)
  go_wp2
  go_ret
  exact ⟨rfl, (KX.out _ B12.out.1).to_below'⟩
end Go.Proofs.Ythkgchlndfcmpaa

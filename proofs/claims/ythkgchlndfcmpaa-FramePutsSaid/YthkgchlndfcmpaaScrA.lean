/- Contract of script.put. -/
import Derived.Test.YthkgchlndfcmpaaScr4
import Derived.Test.YthkgchlndfcmpaaScr8
import Derived.Test.YthkgchlndfcmpaaCmdX
import Derived.Test.YthkgchlndfcmpaaCmdP
import Derived.Deep.RegionHeld3
namespace Go.Proofs.Ythkgchlndfcmpaa
open Go.RowKit
set_option maxRecDepth 100000
set_option linter.unusedVariables false
set_option linter.unusedSimpArgs false

/-- An act's box, and bytes that were made. -/
def SPt (w W : World) (x : Ac) (u1 u2 u3 v : Value) (L : List UInt8) : Prop := Ax W w.heap.size x u1 u2 u3 ∧ By W (fun b => w.heap.size ≤ b) v L ∧ Keep (fun _ => False) w W
section
variable {w W W' : World} {x : Ac} {u1 u2 u3 v v' : Value} {L L' : List UInt8}
theorem SPt.put (h : SPt w W x u1 u2 u3 v L) (hy : By W' (fun b => W.heap.size ≤ b) v' L') (hb : Below W.heap.size W W') : SPt w W' x u1 u2 u3 v' L' :=
  ⟨h.1.keep (Keep.of_below' hb) (fun h => h), hy.mono (fun b _ hx => Nat.le_trans h.2.2.size hx), h.2.2.trans (Keep.of_below' hb) (fun _ _ h => h)⟩
theorem SPt.same (h : SPt w W x u1 u2 u3 v L) (hk : Keep (fun _ => False) W W') : SPt w W' x u1 u2 u3 v L :=
  ⟨h.1.keep hk (fun h => h), h.2.1.keep hk (fun _ _ _ h => h), h.2.2.trans hk (fun _ _ h => h)⟩
theorem SPt.post {A : Option Addr} {n c : Nat} (h : SPt w W x u1 u2 u3 (.slice A n c) L) (e : L = L') : BytesPost w L' (.returned (.slice A n c)) W := by
  subst e
  exact ⟨A, n, c, rfl, h.2.1, h.2.2.to_below'⟩
end

set_option maxHeartbeats 8000000 in
theorem sput_any (x : Ac) (u1 u2 u3 v : Value) (l : List UInt8) (F G : Nat → Prop) (w : World) (hv : By w G v l) (hl : l.length ≤ 1000000000) (h : AM w F x u1 u2 u3) (hs : smallA x) :
    Calls Try.prog 109 #[v, actV x u1 u2 u3] w (BytesPost w (l ++ oneB x)) := by
  have P1 := Lib.hid (fun W (hk : Keep (fun _ => False) w W) => putP l v G 1 x.do_ W (hv.keep hk (fun _ _ _ h => h)) (by omega))
  have HA := Lib.hid h
  have HS := Lib.hid hs
  have HL := Lib.hid hl
  have LA := Lib.hid (show (l ++ leB (word x.do_) (wideN 1)).length ≤ 1000000001 by rw [List.length_append, leB_len]; have : wideN 1 = 1 := rfl; omega)
  obtain ⟨A1, c1, rfl, -⟩ := h.1
  obtain ⟨A2, c2, rfl, -, hc2, -, -⟩ := h.2.1
  obtain ⟨A3, c3, rfl, -, hc3, -, -⟩ := h.2.2
  obtain ⟨A0, c0, rfl, -⟩ := hv
  clear h hs hl
  have ON := Lib.hid (show oneB x = leB (word x.do_) (wideN 1) ++ tailA x from rfl)
  have TA := Lib.hid (tailA_eq x)
  rw [ON.out, ← List.append_assoc]
  generalize l ++ leB (word x.do_) (wideN 1) = L at *
  obtain ⟨d, cm, room, frames, nn, fa, fu⟩ := x
  simp only at P1 HA HS TA hc2 hc3 ⊢
  generalize tailA _ = T at *
  unfold actV
  generalize l.length = nl at *
  go_enter Try.func109, Try.ntmps109
  go_upto_region 1 with fail
  refine wp_world (S := fun X => Ax X w.heap.size ⟨d, cm, room, frames, nn, fa, fu⟩ (.slice A1 cm.l.length c1) (.slice A2 fa.length c2) (.slice A3 fu.length c3) ∧ Keep (fun _ => False) w X) ⟨heap_alloc_at _ _ _ rfl, (by repeat first | exact Keep.refl _ _ | refine Keep.alloc ?_ _ | refine Keep.drew ?_ | refine Keep.drewN ?_ _)⟩ ?_
  intro X hX
  have HX := Lib.hid hX
  clear hX
  obtain ⟨x0, x1, x2, x3, x4, x5, x6, x7, x8, x9, x10, x11, xf⟩ := cells12 HX.out.1
  go_wp2_with fail
  have K1 := P1.out X HX.out.2
  with_reducible refine K1.mono ?_
  rintro e w1 ⟨A4, n4, c4, rfl, hy, hb⟩
  have H1 := Lib.hid (show SPt w w1 ⟨d, cm, room, frames, nn, fa, fu⟩ (.slice A1 cm.l.length c1) (.slice A2 fa.length c2) (.slice A3 fu.length c3) (.slice A4 n4 c4) L from
    ⟨HX.out.1.keep (Keep.of_below' hb) (fun h => h), hy.mono (fun b _ hx => Nat.le_trans HX.out.2.size hx), HX.out.2.trans (Keep.of_below' hb) (fun _ _ h => h)⟩)
  clear hy hb K1 P1 HX x0 x1 x2 x3 x4 x5 x6 x7 x8 x9 x10 x11 xf
  obtain ⟨x0, x1, x2, x3, x4, x5, x6, x7, x8, x9, x10, x11, xf⟩ := cells12 H1.out.1
  by_cases h0 : d = 0
  · have e0 : (d == 0) = true := by simp [h0]
    have TB := Lib.hid (show T = bytesC cm by rw [TA.out, if_pos h0])
    have K1 := cput_any cm _ _ L _ _ w1 H1.out.2.1 (by have := LA.out; omega) (HA.out.1.keep H1.out.2.2 (fun _ _ _ h => h)) (by have := HS.out.1; simp only at this; omega)
    unfold cmdV at K1
    clear h0
    go_wp2_with fail
    with_reducible refine K1.mono ?_
    rintro e w2 ⟨A5, n5, c5, rfl, hy, hb⟩
    have H2 := Lib.hid (H1.out.put hy hb)
    clear hy hb K1 x0 x1 x2 x3 x4 x5 x6 x7 x8 x9 x10 x11 xf
    go_wp2
    go_ret
    exact H2.out.post (by rw [TB.out])
  have e0 : (d == 0) = false := by simp [h0]
  by_cases h4 : d = 4
  · have e4 : (d == 4) = true := by simp [h4]
    have TB := Lib.hid (show T = leB (word room) (wideN 8) ++ leB (word frames) (wideN 8) by rw [TA.out, if_neg h0, if_pos h4]; rfl)
    have LB := Lib.hid (show L.length ≤ 1000000001 from LA.out)
    clear h0 h4
    go_wp2
    have CE := Lib.hid (show ∀ W', Keep (fun _ => False) w1 W' → W'.cell? ⟨w.heap.size, 7, none⟩ = some (.int .i64 room) ∧ W'.cell? ⟨w.heap.size, 8, none⟩ = some (.int .i64 frames) ∧ Keep (fun _ => False) w1 W' from fun W' hk => ⟨hk.cell (fun h => h) x7, hk.cell (fun h => h) x8, hk⟩)
    have PT1 := Lib.hid (fun W' (hk : Keep (fun _ => False) w1 W') => putP L _ _ 8 room W' (H1.out.2.1.keep hk (fun _ _ _ h => h)) (by have := LB.out; omega))
    have LB2 := Lib.hid (show (L ++ leB (word room) (wideN 8)).length ≤ 35184372088832 by rw [List.length_append, leB_len]; have := LB.out; have : wideN 8 = 8 := rfl; omega)
    go_region_held3 (fun W' => W'.cell? ⟨w.heap.size, 7, none⟩ = some (.int .i64 room) ∧ W'.cell? ⟨w.heap.size, 8, none⟩ = some (.int .i64 frames) ∧ Keep (fun _ => False) w1 W') (exact CE.out _ (by exact (by repeat first | assumption | exact Keep.refl _ _ | refine Keep.alloc ?_ _ | refine Keep.drew ?_ | refine Keep.drewN ?_ _ | refine Keep.setCell ?_ (.inl (by first | omega | (simp; done) | (simp; omega))) _)))
      (first
        | (go_at_call 95; (with_reducible refine (PT1.out _ (by exact (by repeat first | assumption | exact Keep.refl _ _ | refine Keep.alloc ?_ _ | refine Keep.drew ?_ | refine Keep.drewN ?_ _ | refine Keep.setCell ?_ (.inl (by first | omega | (simp; done) | (simp; omega))) _))).mono ?_); rintro e w3 ⟨A8, n8, c8, rfl, hy3, hb3⟩; have hk3 : Keep (fun _ => False) w1 w3 := Keep.trans (T := fun _ => False) (by exact (by repeat first | assumption | exact Keep.refl _ _ | refine Keep.alloc ?_ _ | refine Keep.drew ?_ | refine Keep.drewN ?_ _ | refine Keep.setCell ?_ (.inl (by first | omega | (simp; done) | (simp; omega))) _)) (Keep.of_below' hb3) (fun _ _ h => h); have PT2 := Lib.hid (fun W' (hk : Keep (fun _ => False) w3 W') => putP _ _ _ 8 frames W' (hy3.keep hk (fun _ _ _ h => h)) LB2.out); clear hy3 hb3)
        | (go_at_call 95; (with_reducible refine (PT2.out _ (by exact (by repeat first | assumption | exact Keep.refl _ _ | refine Keep.alloc ?_ _ | refine Keep.drew ?_ | refine Keep.drewN ?_ _ | refine Keep.setCell ?_ (.inl (by first | omega | (simp; done) | (simp; omega))) _))).mono ?_); rintro e w4 ⟨A9, n9, c9, rfl, hy4, hb4⟩; have hk4 : Keep (fun _ => False) w1 w4 := Keep.trans (T := fun _ => False) (by exact (by repeat first | assumption | exact Keep.refl _ _ | refine Keep.alloc ?_ _ | refine Keep.drew ?_ | refine Keep.drewN ?_ _ | refine Keep.setCell ?_ (.inl (by first | omega | (simp; done) | (simp; omega))) _)) (Keep.of_below' hb4) (fun _ _ h => h); have HY4 := Lib.hid (hy4.mono (G := fun b => w1.heap.size ≤ b) (fun b _ h => Nat.le_trans (Keep.size (show Keep (fun _ => False) w1 _ from (by exact (by repeat first | assumption | exact Keep.refl _ _ | refine Keep.alloc ?_ _ | refine Keep.drew ?_ | refine Keep.drewN ?_ _ | refine Keep.setCell ?_ (.inl (by first | omega | (simp; done) | (simp; omega))) _)))) h)); clear hy4 hb4)
        | fail)
    have H9 := Lib.hid (H1.out.put HY4.out (hk4.to_below'))
    clear HY4 hk4 hk3 PT1 PT2 CE
    go_wp2
    go_ret
    exact H9.out.post (by rw [TB.out, List.append_assoc])
  have e4 : (d == 4) = false := by simp [h4]
  by_cases h5 : d = 5
  · have e5 : (d == 5) = true := by simp [h5]
    have TB := Lib.hid (show T = leB (word nn) (wideN 8) by rw [TA.out, if_neg h0, if_neg h4, if_pos h5]; rfl)
    have K1 := putP L _ _ 8 nn w1 H1.out.2.1 (by have := LA.out; omega)
    clear h0 h4 h5
    go_wp2_with fail
    with_reducible refine K1.mono ?_
    rintro e w2 ⟨A5, n5, c5, rfl, hy, hb⟩
    have H2 := Lib.hid (H1.out.put hy hb)
    clear hy hb K1 x0 x1 x2 x3 x4 x5 x6 x7 x8 x9 x10 x11 xf
    go_wp2
    go_ret
    exact H2.out.post (by rw [TB.out])
  have e5 : (d == 5) = false := by simp [h5]
  by_cases h6 : d = 6
  · have TB := Lib.hid (show L ++ T = (((L ++ leB (word (fa.length : Nat)) (wideN 2)) ++ fatesB fa fa.length) ++ leB (word (fu.length : Nat)) (wideN 2)) ++ fusesB fu fu.length by
      rw [TA.out, if_neg h0, if_neg h4, if_neg h5, if_pos h6, show wideN 2 = 2 from rfl]; simp only [List.append_assoc])
    subst h6
    clear e0 e4 e5 h0 h4 h5 TA
    have K1 := putP L _ _ 2 (fa.length : Nat) w1 H1.out.2.1 (by have := LA.out; omega)
    go_wp2_with fail
    with_reducible refine K1.mono ?_
    rintro e w2 ⟨A5, n5, c5, rfl, hy, hb⟩
    have H2 := Lib.hid (H1.out.put hy hb)
    clear hy hb K1 H1 x0 x1 x2 x3 x4 x5 x6 x7 x8 x9 x10 x11 xf
    obtain ⟨x0, x1, x2, x3, x4, x5, x6, x7, x8, x9, x10, x11, xf⟩ := cells12 H2.out.1
    have LC := Lib.hid (show (L ++ leB (word (fa.length : Nat)) (wideN 2)).length ≤ 1000000003 by rw [List.length_append, leB_len]; have := LA.out; have : wideN 2 = 2 := rfl; omega)
    generalize L ++ leB (word (fa.length : Nat)) (wideN 2) = L2 at *
    have hn6 : fa.length ≤ 1000000 := HS.out.2.1
    have hm6 : fu.length ≤ 1000000 := HS.out.2.2
    clear HS
    generalize hn : fa.length = n at *
    generalize hm : fu.length = m at *
    have HN := Lib.hid (And.intro hn hm)
    clear hn hm
    have LM := Lib.hid (show ((L2 ++ fatesB fa n) ++ leB (word (m : Nat)) (wideN 2)).length ≤ 1100000003 by rw [List.length_append, List.length_append, leB_len]; have := LC.out; have := fatesB_len fa n; have : wideN 2 = 2 := rfl; omega)
    go_wp2
    go_loopw [0, 48] (fun t i wr => ∃ k : Nat, k ≤ n ∧ i = .int .i64 k ∧ (∃ A n' c, t = .slice A n' c ∧ Hid (SPt w wr ⟨6, cm, room, frames, nn, fa, fu⟩ (.slice A1 cm.l.length c1) (.slice A2 n c2) (.slice A3 m c3) (.slice A n' c) (L2 ++ fatesB fa k)))) (fun _ i _ => n - (intOf i).toNat)
    case atStart => exact ⟨0, by omega, rfl, A5, n5, c5, rfl, Lib.hid (by rw [show L2 ++ fatesB fa 0 = L2 from List.append_nil _]; exact H2.out)⟩
    case round =>
      obtain ⟨k, hk, rfl, A6, n6, c6, rfl, ht⟩ := hrel
      clear x0 x1 x2 x3 x4 x5 x6 x7 x8 x9 x10 x11 xf
      by_cases hlt : k < n
      · have hi : (k : Int) < (n : Int) := by omega
        obtain ⟨b, off, f, rfl, -, hf, q1⟩ := ML.at_ fcells_len (by decide) (HA.out.2.1.keep ht.out.2.2 (fun _ _ _ h => h)) hlt
        have d1 : wr.cell? ⟨b, off + k * 2, none⟩ = some (.int .i64 f.kept) := q1 0 _ rfl
        have d2 : wr.cell? ⟨b, off + k * 2 + 1, none⟩ = some (.int .i64 f.torn) := q1 1 _ rfl
        have FN := Lib.hid (fatesB_next hf)
        clear q1 hf
        obtain ⟨fk, ft⟩ := f
        simp only at d1 d2 FN
        have LB := Lib.hid (show (L2 ++ fatesB fa k).length ≤ 1100000003 by rw [List.length_append]; have := LC.out; have := fatesB_len fa k; omega)
        go_upto_region 14 with fail
        refine wp_world (S := fun Z => Z.heap[wr.heap.size]? = some (.cells #[.int .i64 fk, .int .i64 ft] 100 (0, 0)) ∧ SPt w Z ⟨6, cm, room, frames, nn, fa, fu⟩ (.slice A1 cm.l.length c1) (.slice (some ⟨b, off, none⟩) n c2) (.slice A3 m c3) (.slice A6 n6 c6) (L2 ++ fatesB fa k)) ⟨heap_alloc_new wr _, ht.out.same ((Keep.refl (fun _ => False) wr).alloc _)⟩ ?_
        intro Z hZ
        have HZ := Lib.hid hZ
        clear hZ d1 d2 ht
        generalize wr.heap.size = P at *
        obtain ⟨z0, z1, zf⟩ := cells2 HZ.out.1
        have CE := Lib.hid (show ∀ W', Keep (fun _ => False) Z W' → W'.cell? ⟨P, 0, none⟩ = some (.int .i64 fk) ∧ W'.cell? ⟨P, 1, none⟩ = some (.int .i64 ft) ∧ Keep (fun _ => False) Z W' from fun W' hk => ⟨hk.cell (fun h => h) z0, hk.cell (fun h => h) z1, hk⟩)
        have PT1 := Lib.hid (fun W' (hk : Keep (fun _ => False) Z W') => putP (L2 ++ fatesB fa k) _ _ 8 fk W' (HZ.out.2.2.1.keep hk (fun _ _ _ h => h)) (by have := LB.out; omega))
        have LB2 := Lib.hid (show ((L2 ++ fatesB fa k) ++ leB (word fk) (wideN 8)).length ≤ 35184372088832 by rw [List.length_append, leB_len]; have := LB.out; have : wideN 8 = 8 := rfl; omega)
        go_region_held3 (fun W' => W'.cell? ⟨P, 0, none⟩ = some (.int .i64 fk) ∧ W'.cell? ⟨P, 1, none⟩ = some (.int .i64 ft) ∧ Keep (fun _ => False) Z W') (exact CE.out _ (by exact (by repeat first | assumption | exact Keep.refl _ _ | refine Keep.alloc ?_ _ | refine Keep.drew ?_ | refine Keep.drewN ?_ _ | refine Keep.setCell ?_ (.inl (by first | omega | (simp; done) | (simp; omega))) _)))
          (first
            | (go_at_call 95; (with_reducible refine (PT1.out _ (by exact (by repeat first | assumption | exact Keep.refl _ _ | refine Keep.alloc ?_ _ | refine Keep.drew ?_ | refine Keep.drewN ?_ _ | refine Keep.setCell ?_ (.inl (by first | omega | (simp; done) | (simp; omega))) _))).mono ?_); rintro e w3 ⟨A8, n8, c8, rfl, hy3, hb3⟩; have hk3 : Keep (fun _ => False) Z w3 := Keep.trans (T := fun _ => False) (by exact (by repeat first | assumption | exact Keep.refl _ _ | refine Keep.alloc ?_ _ | refine Keep.drew ?_ | refine Keep.drewN ?_ _ | refine Keep.setCell ?_ (.inl (by first | omega | (simp; done) | (simp; omega))) _)) (Keep.of_below' hb3) (fun _ _ h => h); have PT2 := Lib.hid (fun W' (hk : Keep (fun _ => False) w3 W') => putP _ _ _ 8 ft W' (hy3.keep hk (fun _ _ _ h => h)) LB2.out); clear hy3 hb3)
            | (go_at_call 95; (with_reducible refine (PT2.out _ (by exact (by repeat first | assumption | exact Keep.refl _ _ | refine Keep.alloc ?_ _ | refine Keep.drew ?_ | refine Keep.drewN ?_ _ | refine Keep.setCell ?_ (.inl (by first | omega | (simp; done) | (simp; omega))) _))).mono ?_); rintro e w4 ⟨A9, n9, c9, rfl, hy4, hb4⟩; have hk4 : Keep (fun _ => False) Z w4 := Keep.trans (T := fun _ => False) (by exact (by repeat first | assumption | exact Keep.refl _ _ | refine Keep.alloc ?_ _ | refine Keep.drew ?_ | refine Keep.drewN ?_ _ | refine Keep.setCell ?_ (.inl (by first | omega | (simp; done) | (simp; omega))) _)) (Keep.of_below' hb4) (fun _ _ h => h); have HY4 := Lib.hid (hy4.mono (G := fun b => Z.heap.size ≤ b) (fun b _ h => Nat.le_trans (Keep.size (show Keep (fun _ => False) Z _ from (by exact (by repeat first | assumption | exact Keep.refl _ _ | refine Keep.alloc ?_ _ | refine Keep.drew ?_ | refine Keep.drewN ?_ _ | refine Keep.setCell ?_ (.inl (by first | omega | (simp; done) | (simp; omega))) _)))) h)); clear hy4 hb4)
            | fail)
        have H9 := Lib.hid (HZ.out.2.put HY4.out (hk4.to_below'))
        clear HY4 hk4 hk3 PT1 PT2 CE
        have EQ : (((L2 ++ fatesB fa k) ++ leB (word fk) (wideN 8)) ++ leB (word ft) (wideN 8)) = L2 ++ fatesB fa (k + 1) := by rw [FN.out]; simp only [List.append_assoc]; rfl
        rw [EQ] at H9
        clear EQ z0 z1 zf
        go_wp2
        go_roundw
        case rel => exact ⟨k + 1, by omega, by go_num, A9, n9, c9, rfl, H9⟩
        case measure => simp [intOf]; omega
      · have hi : ¬ (k : Int) < (n : Int) := by omega
        obtain rfl : k = n := by omega
        obtain ⟨x0, x1, x2, x3, x4, x5, x6, x7, x8, x9, x10, x11, xf⟩ := cells12 ht.out.1
        have K1 := putP (L2 ++ fatesB fa k) _ _ 2 (m : Nat) wr ht.out.2.1 (by have := LM.out; rw [List.length_append] at this; omega)
        go_wp2_with fail
        with_reducible refine K1.mono ?_
        rintro e w3 ⟨A7, n7, c7, rfl, hy, hb⟩
        have H3 := Lib.hid (ht.out.put hy hb)
        clear hy hb K1 ht x0 x1 x2 x3 x4 x5 x6 x7 x8 x9 x10 x11 xf
        obtain ⟨x0, x1, x2, x3, x4, x5, x6, x7, x8, x9, x10, x11, xf⟩ := cells12 H3.out.1
        generalize ((L2 ++ fatesB fa k) ++ leB (word (m : Nat)) (wideN 2)) = L3 at *
        go_wp2
        go_loopw [0, 68] (fun t i wr => ∃ j : Nat, j ≤ m ∧ i = .int .i64 j ∧ (∃ A n' c, t = .slice A n' c ∧ Hid (SPt w wr ⟨6, cm, room, frames, nn, fa, fu⟩ (.slice A1 cm.l.length c1) (.slice A2 k c2) (.slice A3 m c3) (.slice A n' c) (L3 ++ fusesB fu j)))) (fun _ i _ => m - (intOf i).toNat)
        case atStart => exact ⟨0, by omega, rfl, A7, n7, c7, rfl, Lib.hid (by rw [show L3 ++ fusesB fu 0 = L3 from List.append_nil _]; exact H3.out)⟩
        case round =>
          obtain ⟨j, hj, rfl, A6, n6, c6, rfl, ht⟩ := hrel
          clear x0 x1 x2 x3 x4 x5 x6 x7 x8 x9 x10 x11 xf
          by_cases hlt2 : j < m
          · have hi2 : (j : Int) < (m : Int) := by omega
            obtain ⟨b, off, z, rfl, -, hf, q1⟩ := ML.at_ icells_len (by decide) (HA.out.2.2.keep ht.out.2.2 (fun _ _ _ h => h)) hlt2
            have d1 : wr.cell? ⟨b, off + j, none⟩ = some (.int .i64 z) := by have := q1 0 _ rfl; rw [Nat.mul_one, Nat.add_zero] at this; exact this
            have FN := Lib.hid (fusesB_next hf)
            clear q1 hf
            have K1 := putP (L3 ++ fusesB fu j) _ _ 8 z wr ht.out.2.1 (by have := LM.out; rw [List.length_append]; have := fusesB_len fu j; omega)
            go_wp2_with fail
            with_reducible refine K1.mono ?_
            rintro e w4 ⟨A8, n8, c8, rfl, hy, hb⟩
            have H4 := Lib.hid (ht.out.put hy hb)
            have EQ : ((L3 ++ fusesB fu j) ++ leB (word z) (wideN 8)) = L3 ++ fusesB fu (j + 1) := by rw [FN.out]; simp only [List.append_assoc]; rfl
            rw [EQ] at H4
            clear hy hb K1 ht d1 EQ
            go_wp2
            go_roundw
            case rel => exact ⟨j + 1, by omega, by go_num, A8, n8, c8, rfl, H4⟩
            case measure => simp [intOf]; omega
          · have hi2 : ¬ (j : Int) < (m : Int) := by omega
            obtain rfl : j = m := by omega
            go_wp2
            go_ret
            exact ht.out.post (by rw [TB.out])
  have e6 : (d == 6) = false := by simp [h6]
  have TB := Lib.hid (show T = [] by rw [TA.out, if_neg h0, if_neg h4, if_neg h5, if_neg h6])
  go_wp2
  go_ret
  exact H1.out.post (by rw [TB.out, List.append_nil])
end Go.Proofs.Ythkgchlndfcmpaa
namespace Go.Proofs.Ythkgchlndfcmpaa
open Go.RowKit
set_option maxRecDepth 100000
set_option linter.unusedVariables false
set_option linter.unusedSimpArgs false

set_option maxHeartbeats 8000000 in
theorem sputs_any (l : List Ac) (v : Value) (F : Nat → Prop) (w : World) (h : AS w F v l) (hs : ∀ x ∈ l, smallA x) (hb : ∀ k, (putsB l k).length ≤ 1000000000) :
    Calls Try.prog 64 #[v] w (BytesPost w (putsB l l.length)) := by
  have HA := Lib.hid h
  have HS := Lib.hid (show ∀ k x, l[k]? = some x → smallA x from fun k x hx => hs x (List.mem_of_getElem? hx))
  have HB := Lib.hid hb
  obtain ⟨A, c, rfl, hc⟩ := h.form
  have hl := h.len
  clear h hs hb hc
  generalize hn : l.length = n at *
  clear hn
  go_enter Try.func64, Try.ntmps64
  go_wp2
  go_loopw [3, 8] (fun t i wr => ∃ k : Nat, k ≤ n ∧ i = .int .i64 k ∧ (∃ A n' c, t = .slice A n' c ∧ Hid (By wr (fun b => w.heap.size ≤ b) (.slice A n' c) (putsB l k) ∧ Keep (fun _ => False) w wr))) (fun _ i _ => n - (intOf i).toNat)
  case atStart => exact ⟨0, by omega, rfl, none, 0, 0, rfl, Lib.hid ⟨By.nil _ _, Keep.refl _ _⟩⟩
  case round =>
    obtain ⟨k, hk, rfl, A6, n6, c6, rfl, ht⟩ := hrel
    by_cases hlt : k < n
    · have hi : (k : Int) < (n : Int) := by omega
      obtain ⟨b, off, x, u1, u2, u3, rfl, -, hx, ham, hcs⟩ := (HA.out.same ht.out.2).at_ hlt
      obtain ⟨y0, y1, y2, y3, y4, y5, y6, y7, y8, y9, y10, y11⟩ := cells_at12 hcs
      have PN := Lib.hid (putsB_next hx)
      obtain ⟨A1, m1, rfl, -⟩ := ham.1
      obtain ⟨A2, m2, rfl⟩ := ham.2.1.form
      obtain ⟨A3, m3, rfl⟩ := ham.2.2.form
      have SM := Lib.hid (HS.out k x hx)
      have AMH := Lib.hid ham
      clear hcs hx ham
      go_upto_region 5 with fail
      refine wp_world (S := fun Z => Ax Z wr.heap.size x (.slice A1 x.c.l.length m1) (.slice A2 x.fa.length m2) (.slice A3 x.fu.length m3) ∧ By Z (fun b => w.heap.size ≤ b) (.slice A6 n6 c6) (putsB l k) ∧ AM Z (fun b => b < wr.heap.size) x (.slice A1 x.c.l.length m1) (.slice A2 x.fa.length m2) (.slice A3 x.fu.length m3) ∧ Keep (fun _ => False) w Z) ⟨heap_alloc_new wr _, ht.out.1.keep ((Keep.refl (fun _ => False) wr).alloc _) (fun _ _ _ h => h), (AMH.out.mono (fun b hb _ => hb)).keep ((Keep.refl (fun _ => False) wr).alloc _) (fun _ _ _ h => h), ht.out.2.trans ((Keep.refl (fun _ => False) wr).alloc _) (fun _ _ h => h)⟩ ?_
      intro Z hZ
      have HZ := Lib.hid hZ
      clear hZ y0 y1 y2 y3 y4 y5 y6 y7 y8 y9 y10 y11 ht AMH
      generalize wr.heap.size = P at *
      obtain ⟨x0, x1, x2, x3, x4, x5, x6, x7, x8, x9, x10, x11, xf⟩ := cells12 HZ.out.1
      have K1 := srightA x (.slice A1 x.c.l.length m1) (.slice A2 x.fa.length m2) (.slice A3 x.fu.length m3) _ Z HZ.out.2.2.1
      unfold actV at K1
      go_wp2_with fail
      with_reducible refine K1.mono ?_
      rintro e w2 ⟨rfl, hb⟩
      have H2 := Lib.hid (show Ax w2 P x (.slice A1 x.c.l.length m1) (.slice A2 x.fa.length m2) (.slice A3 x.fu.length m3) ∧ By w2 (fun b => w.heap.size ≤ b) (.slice A6 n6 c6) (putsB l k) ∧ AM w2 (fun b => b < P) x (.slice A1 x.c.l.length m1) (.slice A2 x.fa.length m2) (.slice A3 x.fu.length m3) ∧ Keep (fun _ => False) w w2 from
        have kk := Keep.of_below' hb
        ⟨HZ.out.1.keep kk (fun h => h), HZ.out.2.1.keep kk (fun _ _ _ h => h), HZ.out.2.2.1.same kk, HZ.out.2.2.2.trans kk (fun _ _ h => h)⟩)
      clear hb K1 HZ x0 x1 x2 x3 x4 x5 x6 x7 x8 x9 x10 x11 xf
      obtain ⟨x0, x1, x2, x3, x4, x5, x6, x7, x8, x9, x10, x11, xf⟩ := cells12 H2.out.1
      by_cases hr : rightA x = true
      · have K1 := sput_any x (.slice A1 x.c.l.length m1) (.slice A2 x.fa.length m2) (.slice A3 x.fu.length m3) _ (putsB l k) _ _ w2 H2.out.2.1 (HB.out k) H2.out.2.2.1 SM.out
        unfold actV at K1
        have PN2 := Lib.hid (show putsB l (k + 1) = putsB l k ++ oneB x by rw [PN.out, if_pos hr])
        rw [← PN2.out] at K1
        go_wp2_with fail
        with_reducible refine K1.mono ?_
        rintro e w3 ⟨A7, n7, c7, rfl, hy, hb⟩
        have NT := Lib.hid (And.intro (hy.mono (G := fun b => w.heap.size ≤ b) (fun b _ h => Nat.le_trans H2.out.2.2.2.size h)) (H2.out.2.2.2.trans (Keep.of_below' hb) (fun _ _ h => h)))
        clear hy hb K1
        go_wp2
        go_roundw
        case rel => exact ⟨k + 1, by omega, by go_num, A7, n7, c7, rfl, NT⟩
        case measure => simp [intOf]; omega
      · have hr : rightA x = false := by simpa using hr
        have PN2 := Lib.hid (show putsB l (k + 1) = putsB l k by rw [PN.out, if_neg (by simp [hr]), List.append_nil])
        have NT := Lib.hid (And.intro H2.out.2.1 H2.out.2.2.2)
        rw [← PN2.out] at NT
        go_wp2
        go_roundw
        case rel => exact ⟨k + 1, by omega, by go_num, A6, n6, c6, rfl, NT⟩
        case measure => simp [intOf]; omega
    · have hi : ¬ (k : Int) < (n : Int) := by omega
      obtain rfl : k = n := by omega
      go_wp2
      go_ret
      exact ⟨A6, n6, c6, rfl, ht.out.1, ht.out.2.to_below'⟩
def liveL : List Ac := [⟨2, zeroCm, 0, 0, 0, [], []⟩, ⟨5, zeroCm, 0, 0, 1, [], []⟩]
def liveC : List Value := [.int .i64 2, .int .i64 0, .bool false, .int .i64 0, .int .i64 0, .int .i64 0, .slice none 0 0, .int .i64 0, .int .i64 0, .int .i64 0, .slice none 0 0, .slice none 0 0, .int .i64 5, .int .i64 0, .bool false, .int .i64 0, .int .i64 0, .int .i64 0, .slice none 0 0, .int .i64 0, .int .i64 0, .int .i64 1, .slice none 0 0, .slice none 0 0]
theorem AM.zero (w : World) (F : Nat → Prop) (d r f n : Int) : AM w F ⟨d, zeroCm, r, f, n, [], []⟩ (.slice none 0 0) (.slice none 0 0) (.slice none 0 0) := ⟨By.nil _ _, ML.nil _ _ _ _, ML.nil _ _ _ _⟩
theorem AS.live (w : World) (e : TypeId) : AS (w.alloc (.cells liveC.toArray e)) (fun k => k = w.heap.size) (.slice (some ⟨w.heap.size, 0, none⟩) 2 2) liveL :=
  ⟨[(.slice none 0 0, .slice none 0 0, .slice none 0 0), (.slice none 0 0, .slice none 0 0, .slice none 0 0)], rfl, ⟨_, _, rfl, Nat.le_refl _, by decide, Rd.lit w e liveC, fun h => by cases h⟩, fun i x u hx hu => by
    match i, hx, hu with
    | 0, hx, hu => simp [liveL] at hx; simp at hu; subst hx hu; exact AM.zero _ _ _ _ _ _
    | 1, hx, hu => simp [liveL] at hx; simp at hu; subst hx hu; exact AM.zero _ _ _ _ _ _
    | n + 2, hx, hu => simp [liveL] at hx⟩
theorem live31 (w : World) :
    Calls Try.prog 26 #[] w fun e w' => e = .returned (.bool true) ∧ Below w.heap.size w w' := by
  have PT := Lib.hid (sputs_any liveL _ _ _ (AS.live w 45) (by intro x hx; simp [liveL] at hx; rcases hx with rfl | rfl <;> exact ⟨by decide, by decide, by decide⟩) (fun k => by
    have h : (putsB liveL k).length ≤ (putsB liveL 2).length := by
      match k with
      | 0 => decide
      | 1 => decide
      | k + 2 => unfold putsB; rw [List.take_of_length_le (by simp [liveL])]; exact Nat.le_refl _
    exact Nat.le_trans h (by decide)))
  rw [show putsB liveL liveL.length = [2, 5, 1, 0, 0, 0, 0, 0, 0, 0] by decide] at PT
  have S0 := Lib.hid (fun (W : World) u (F : Nat → Prop) (h : By W F u [2, 5, 1, 0, 0, 0, 0, 0, 0, 0]) => same_any [2, 5, 1, 0, 0, 0, 0, 0, 0, 0] [2, 5, 1, 0, 0, 0, 0, 0, 0, 0] u _ F _ (W.alloc (.cells (bv [2, 5, 1, 0, 0, 0, 0, 0, 0, 0]).toArray 5)) (h.keep ((Keep.refl (fun _ => False) W).alloc _) (fun _ _ _ h => h)) (By.lit W 5 [2, 5, 1, 0, 0, 0, 0, 0, 0, 0] (by decide)))
  rw [decide_eq_true rfl] at S0
  go_enter Try.func26, Try.ntmps26
  go_wp2_with fail
  refine PT.out.mono ?_
  rintro e w1 ⟨A1, n1, c1, rfl, hby1, hb1⟩
  have H1 := Lib.hid (And.intro hby1 hb1)
  clear hby1 hb1
  go_wp2_with fail
  refine (S0.out _ _ _ H1.out.1).mono ?_
  rintro e w2 ⟨rfl, rfl⟩
  go_wp2
  go_ret
  have h0 : Below w.heap.size w (w.alloc (.cells liveC.toArray 45)) := (by repeat first | exact Below.refl _ _ | refine Below.setCell ?_ (by first | omega | (simp; done) | (simp; omega)) _ | refine Below.alloc ?_ (by first | omega | (simp; done) | (simp; omega)) _ | refine Below.drew ?_ | refine below_drewN ?_ _ | assumption)
  have h1 : Below w.heap.size w w1 := h0.trans (H1.out.2.mono h0.size)
  exact ⟨rfl, h1.alloc h1.size _⟩
end Go.Proofs.Ythkgchlndfcmpaa

/- Contracts of ecs.Count, Conf, Get, Remove. -/
import Derived.Test.YtglliendhbkkhaaGreatDoorEcs7
namespace Go.Proofs.YtglliendhbkkhaaGreatDoor
open Go.RowKit
set_option maxRecDepth 100000
set_option linter.unusedVariables false
set_option linter.unusedSimpArgs false

section
variable {w : World} {c : Cf} {xp q : Nat} {B : CoB} {a : Co}
theorem e_count (h : CoM w c xp B q a) : Calls Tryz.prog 25 #[.pointer (some ⟨xp, 0, none⟩)] w fun e w' => e = .returned (.int .i64 (countI a.na : Int)) ∧ Keep (fun _ => False) w w' := by
  have CN := Lib.hid (fun X (hk : Keep (fun _ => False) w X) => id_count (h.names.same hk))
  have c5 : w.cell? ⟨xp, 5, none⟩ = some (.pointer (some ⟨B.ip, 0, none⟩)) := (cells_of_row' h.box).1 5 _ rfl
  clear h
  go_enter Tryz.func25, Tryz.ntmps25
  go_wp2_with fail
  with_reducible refine (CN.out _ (by exact (by repeat first | (with_reducible assumption) | (with_reducible exact Keep.refl _ _) | (with_reducible refine Keep.alloc ?_ _) | (with_reducible refine Keep.drew ?_) | (with_reducible refine Keep.drewN ?_ _) | (with_reducible refine Keep.setCell ?_ (.inl (by first | omega | (simp; done) | (simp; omega) | fail)) _)))).mono ?_
  rintro e w1 ⟨rfl, hk1⟩
  have K1 := Lib.hid (show Keep (fun _ => False) w w1 from Keep.trans (T := fun _ => False) (by exact (by repeat first | (with_reducible assumption) | (with_reducible exact Keep.refl _ _) | (with_reducible refine Keep.alloc ?_ _) | (with_reducible refine Keep.drew ?_) | (with_reducible refine Keep.drewN ?_ _) | (with_reducible refine Keep.setCell ?_ (.inl (by first | omega | (simp; done) | (simp; omega) | fail)) _))) hk1 (fun _ _ h => h))
  clear hk1
  go_wp2
  go_ret
  exact ⟨rfl, K1.out⟩
theorem heap_5K {w : World} {p : Nat} {t : TypeId} {a b c d e : Value} (h : w.heap[p]? = some (.cells #[a, b, c, d, e] t (0, 0))) (x y z u v : Value) : (((((w.setCell ⟨p, 0, none⟩ x).setCell ⟨p, 1, none⟩ y).setCell ⟨p, 2, none⟩ z).setCell ⟨p, 3, none⟩ u).setCell ⟨p, 4, none⟩ v).heap[p]? = some (.cells #[x, y, z, u, v] t (0, 0)) := by
  rw [heap_setCell_same _ p 4 _ _ v (heap_setCell_same _ p 3 _ _ u (heap_setCell_same _ p 2 _ _ z (heap_setCell_same _ p 1 _ _ y (heap_setCell_same w p 0 _ _ x h))))]; rfl
theorem e_conf (h : CoM w c xp B q a) (hl : c.l.length ≤ 1000) : Calls Tryz.prog 21 #[.pointer (some ⟨xp, 0, none⟩)] w fun e w' => ∃ u', e = .returned (confV c u') ∧ CL w' (fun k => w.heap.size ≤ k) u' c.l ∧ Keep (fun _ => False) w w' := by
  have OW := Lib.hid (fun X (hk : Keep (fun _ => False) w X) => e_own X c B.uC B.CF (h.comps.same hk) (by omega))
  have K0 := Lib.hid ((Keep.refl (fun _ => False) w).alloc (.cells #[.int .i64 0, .int .i64 0, .int .i64 0, .int .i64 0, .slice none 0 0] 24 (0, 0)))
  obtain ⟨tt, -⟩ := cells_of_row' h.box
  have c0 : (w.alloc (.cells #[.int .i64 0, .int .i64 0, .int .i64 0, .int .i64 0, .slice none 0 0] 24 (0, 0))).cell? ⟨xp, 0, none⟩ = some (.int .i64 c.log) := K0.out.cell (fun h => h) (tt 0 _ rfl)
  have c1 : (w.alloc (.cells #[.int .i64 0, .int .i64 0, .int .i64 0, .int .i64 0, .slice none 0 0] 24 (0, 0))).cell? ⟨xp, 1, none⟩ = some (.int .i64 c.pages) := K0.out.cell (fun h => h) (tt 1 _ rfl)
  have c2 : (w.alloc (.cells #[.int .i64 0, .int .i64 0, .int .i64 0, .int .i64 0, .slice none 0 0] 24 (0, 0))).cell? ⟨xp, 2, none⟩ = some (.int .i64 c.ents) := K0.out.cell (fun h => h) (tt 2 _ rfl)
  have c3 : (w.alloc (.cells #[.int .i64 0, .int .i64 0, .int .i64 0, .int .i64 0, .slice none 0 0] 24 (0, 0))).cell? ⟨xp, 3, none⟩ = some (.int .i64 c.gens) := K0.out.cell (fun h => h) (tt 3 _ rfl)
  have c4 : (w.alloc (.cells #[.int .i64 0, .int .i64 0, .int .i64 0, .int .i64 0, .slice none 0 0] 24 (0, 0))).cell? ⟨xp, 4, none⟩ = some B.uC := K0.out.cell (fun h => h) (tt 4 _ rfl)
  have HB := Lib.hid (heap_alloc_new w (.cells #[.int .i64 0, .int .i64 0, .int .i64 0, .int .i64 0, .slice none 0 0] 24 (0, 0)))
  clear h tt
  unfold confV at *
  generalize B.uC = u at *
  go_enter Tryz.func21, Tryz.ntmps21
  go_wp2_with fail
  with_reducible refine (OW.out _ (by exact (by repeat first | (with_reducible assumption) | (with_reducible exact Keep.refl _ _) | (with_reducible refine Keep.alloc ?_ _) | (with_reducible refine Keep.drew ?_) | (with_reducible refine Keep.drewN ?_ _) | (with_reducible refine Keep.setCell ?_ (.inl (by first | omega | (simp; done) | (simp; omega) | fail)) _)))).mono ?_
  rintro e w1 ⟨u', rfl, hu, hb⟩
  have K1 := Lib.hid (show Keep (fun _ => False) w w1 ∧ w1.heap[w.heap.size]? = some (.cells #[.int .i64 0, .int .i64 0, .int .i64 0, .int .i64 0, .slice none 0 0] 24 (0, 0)) from ⟨K0.out.trans (Keep.of_below' hb) (fun _ _ h => h), (hb.block w.heap.size (by simp)).trans HB.out⟩)
  have HU := Lib.hid (show CL w1 (fun k => w.heap.size < k) u' c.l from CL.of_sl ((CL.sl hu).mono (G := fun k => w.heap.size < k) (fun b hb h => by have := h.1; simp at this; omega)))
  clear hu hb
  obtain ⟨Au, cu, rfl, -⟩ := HU.out
  obtain ⟨y0, y1, y2, y3, y4, yf⟩ := cells5 K1.out.2
  go_wp2
  have kX : Keep (fun b => b = w.heap.size) w1 (((((w1.setCell ⟨w.heap.size, 0, none⟩ (.int .i64 c.log)).setCell ⟨w.heap.size, 1, none⟩ (.int .i64 c.pages)).setCell ⟨w.heap.size, 2, none⟩ (.int .i64 c.ents)).setCell ⟨w.heap.size, 3, none⟩ (.int .i64 c.gens)).setCell ⟨w.heap.size, 4, none⟩ (.slice Au c.l.length cu)) :=
    (((((Keep.refl (fun b => b = w.heap.size) w1).setCell (p := ⟨w.heap.size, 0, none⟩) (.inr rfl) _).setCell (p := ⟨w.heap.size, 1, none⟩) (.inr rfl) _).setCell (p := ⟨w.heap.size, 2, none⟩) (.inr rfl) _).setCell (p := ⟨w.heap.size, 3, none⟩) (.inr rfl) _).setCell (p := ⟨w.heap.size, 4, none⟩) (.inr rfl) _
  refine bodyPost_ret (results_confE Tryz.results21 _ _ w.heap.size (.int .i64 c.log) (.int .i64 c.pages) (.int .i64 c.ents) (.int .i64 c.gens) (.slice Au c.l.length cu) ?_ ?_) ?_ ⟨.slice Au c.l.length cu, ?_, ?_, ?_⟩
  · rfl
  · exact heap_5K K1.out.2 _ _ _ _ _
  · rfl
  · rfl
  · exact CL.of_sl (((CL.sl HU.out).keep kX (fun b _ h e => by omega)).mono (G := fun k => w.heap.size ≤ k) (fun b _ h => by omega))
  · exact K1.out.1.trans kX (fun b hb h => by omega)
theorem e_get_err (h : CoM w c xp B q a) (x : IdZ) (k : Int) (hk : -9223372036854775808 ≤ k ∧ k ≤ 9223372036854775807) (hst : aliveI a.na x = true → Stands a x.ix.toNat)
    (er : Int) (her : (if (namedC c.l a x k).2.2 ≠ 0 then (namedC c.l a x k).2.2 else if (namedC c.l a x k).2.1 = true then 0 else 8) = er) (h0 : er ≠ 0) :
    Calls Tryz.prog 58 #[.pointer (some ⟨xp, 0, none⟩), .agg #[.int .i64 x.ix, .int .i64 x.gen], .int .i64 k] w fun e w' => e = .returned (.tuple #[.slice none 0 0, .int .i64 er]) ∧ Keep (fun _ => False) w w' := by
  have NM := Lib.hid (fun X (hk2 : Keep (fun _ => False) w X) => e_named (h.same hk2) x k hk hst)
  have K0 := Lib.hid ((Keep.refl (fun _ => False) w).alloc (.cells #[.int .i64 x.ix, .int .i64 x.gen] 40 (0, 0)))
  obtain ⟨⟨sz, hb, en⟩, hn⟩ : ∃ r, namedC c.l a x k = r := ⟨_, rfl⟩
  rw [hn] at NM her
  dsimp only at NM her
  obtain ⟨ix, gen⟩ := x
  dsimp only at *
  clear h hst hn
  by_cases h1 : en = 0
  · subst h1
    rw [if_neg (by decide)] at her
    cases hb with
    | true => exact absurd her.symm h0
    | false =>
      obtain rfl : er = 8 := her.symm
      clear her h0
      go_enter Tryz.func58, Tryz.ntmps58
      go_wp2_with fail
      with_reducible refine (NM.out _ (by exact (by repeat first | (with_reducible assumption) | (with_reducible exact Keep.refl _ _) | (with_reducible refine Keep.alloc ?_ _) | (with_reducible refine Keep.drew ?_) | (with_reducible refine Keep.drewN ?_ _) | (with_reducible refine Keep.setCell ?_ (.inl (by first | omega | (simp; done) | (simp; omega) | fail)) _)))).mono ?_
      rintro e w1 ⟨rfl, hk1⟩
      have K1 := Lib.hid (K0.out.trans hk1 (fun _ _ h => h))
      clear hk1
      go_wp2
      go_ret2
      exact ⟨rfl, K1.out⟩
  · rw [if_pos h1] at her
    subst her
    have h2 : (en != 0) = true := by simpa using h1
    clear h0 h1
    go_enter Tryz.func58, Tryz.ntmps58
    go_wp2_with fail
    with_reducible refine (NM.out _ (by exact (by repeat first | (with_reducible assumption) | (with_reducible exact Keep.refl _ _) | (with_reducible refine Keep.alloc ?_ _) | (with_reducible refine Keep.drew ?_) | (with_reducible refine Keep.drewN ?_ _) | (with_reducible refine Keep.setCell ?_ (.inl (by first | omega | (simp; done) | (simp; omega) | fail)) _)))).mono ?_
    rintro e w1 ⟨rfl, hk1⟩
    have K1 := Lib.hid (K0.out.trans hk1 (fun _ _ h => h))
    clear hk1
    go_wp2
    go_ret2
    exact ⟨rfl, K1.out⟩
theorem e_remove_err (h : CoM w c xp B q a) (x : IdZ) (k : Int) (hk : -9223372036854775808 ≤ k ∧ k ≤ 9223372036854775807) (hst : aliveI a.na x = true → Stands a x.ix.toNat)
    (er : Int) (her : (if (namedC c.l a x k).2.2 ≠ 0 then (namedC c.l a x k).2.2 else if (namedC c.l a x k).2.1 = true then 0 else 8) = er) (h0 : er ≠ 0) :
    Calls Tryz.prog 57 #[.pointer (some ⟨xp, 0, none⟩), .agg #[.int .i64 x.ix, .int .i64 x.gen], .int .i64 k] w fun e w' => e = .returned (.int .i64 er) ∧ Keep (fun _ => False) w w' := by
  have NM := Lib.hid (fun X (hk2 : Keep (fun _ => False) w X) => e_named (h.same hk2) x k hk hst)
  have K0 := Lib.hid ((Keep.refl (fun _ => False) w).alloc (.cells #[.int .i64 x.ix, .int .i64 x.gen] 40 (0, 0)))
  obtain ⟨⟨sz, hb, en⟩, hn⟩ : ∃ r, namedC c.l a x k = r := ⟨_, rfl⟩
  rw [hn] at NM her
  dsimp only at NM her
  obtain ⟨ix, gen⟩ := x
  dsimp only at *
  clear h hst hn
  by_cases h1 : en = 0
  · subst h1
    rw [if_neg (by decide)] at her
    cases hb with
    | true => exact absurd her.symm h0
    | false =>
      obtain rfl : er = 8 := her.symm
      clear her h0
      go_enter Tryz.func57, Tryz.ntmps57
      go_wp2_with fail
      with_reducible refine (NM.out _ (by exact (by repeat first | (with_reducible assumption) | (with_reducible exact Keep.refl _ _) | (with_reducible refine Keep.alloc ?_ _) | (with_reducible refine Keep.drew ?_) | (with_reducible refine Keep.drewN ?_ _) | (with_reducible refine Keep.setCell ?_ (.inl (by first | omega | (simp; done) | (simp; omega) | fail)) _)))).mono ?_
      rintro e w1 ⟨rfl, hk1⟩
      have K1 := Lib.hid (K0.out.trans hk1 (fun _ _ h => h))
      clear hk1
      go_wp2
      go_ret
      exact ⟨rfl, K1.out⟩
  · rw [if_pos h1] at her
    subst her
    have h2 : (en != 0) = true := by simpa using h1
    clear h0 h1
    go_enter Tryz.func57, Tryz.ntmps57
    go_wp2_with fail
    with_reducible refine (NM.out _ (by exact (by repeat first | (with_reducible assumption) | (with_reducible exact Keep.refl _ _) | (with_reducible refine Keep.alloc ?_ _) | (with_reducible refine Keep.drew ?_) | (with_reducible refine Keep.drewN ?_ _) | (with_reducible refine Keep.setCell ?_ (.inl (by first | omega | (simp; done) | (simp; omega) | fail)) _)))).mono ?_
    rintro e w1 ⟨rfl, hk1⟩
    have K1 := Lib.hid (K0.out.trans hk1 (fun _ _ h => h))
    clear hk1
    go_wp2
    go_ret
    exact ⟨rfl, K1.out⟩
set_option maxHeartbeats 4000000 in
theorem e_get_has (h : CoM w c xp B q a) (i g : Nat) (k : Int) (hk : -9223372036854775808 ≤ k ∧ k ≤ 9223372036854775807) (ST : Stands a i) (nD : Int)
    (hnm : namedC c.l a ⟨(i : Int), (g : Int)⟩ k = (nD, true, 0)) :
    Calls Tryz.prog 58 #[.pointer (some ⟨xp, 0, none⟩), .agg #[.int .i64 (i : Int), .int .i64 (g : Int)], .int .i64 k] w fun e w' => ∃ A n cc, e = .returned (.tuple #[.slice A n cc, .int .i64 (colC (tbAt a (spAt a i).node).ids.length (sgAt a (spAt a i).node) ((spAt a i).row : Int) k)]) ∧ By w' (fun b => w.heap.size ≤ b) (.slice A n cc) (getT (tbAt a (spAt a i).node).ids.length (sgAt a (spAt a i).node) (tbAt a (spAt a i).node).col ((spAt a i).row : Int) k) ∧ Keep (fun _ => False) w w' := by
  have NM := Lib.hid (fun X (hk2 : Keep (fun _ => False) w X) => e_named (h.same hk2) ⟨(i : Int), (g : Int)⟩ k hk (fun _ => ST))
  rw [hnm] at NM
  dsimp only at NM
  have K0 := Lib.hid ((Keep.refl (fun _ => False) w).alloc (.cells #[.int .i64 (i : Int), .int .i64 (g : Int)] 40 (0, 0)))
  have HB := Lib.hid (heap_alloc_new w (.cells #[.int .i64 (i : Int), .int .i64 (g : Int)] 40 (0, 0)))
  have TD := Lib.hid (h.tab _ _ (getD_at tz0 ST.nd))
  have TS := Lib.hid (fun X (hk2 : Keep (fun _ => False) w X) => tb_get (TD.out.1.same hk2) TD.out.2 ((spAt a i).row : Int) k hk)
  obtain ⟨gT, cT, hcT1, hcT2, VT⟩ := h.viewT ST.nd
  obtain ⟨gS, cS, -, -, gSx, hgS, hcS1, hcS2, VS⟩ := h.viewS (by have := ST.sp; omega)
  have hsp := ST.sp
  have hnd := ST.nd
  have SX := Lib.hid (show ∀ W', Keep (fun _ => False) w W' → W'.cell? ⟨xp, 7, none⟩ = some (.slice (some ⟨gT, 0, none⟩) a.tabs.length cT) ∧ W'.cell? ⟨xp, 8, none⟩ = some (.slice (some ⟨gS, 0, none⟩) a.spots.length cS) ∧ W'.cell? ⟨gS, i * 3, none⟩ = some (.int .i64 ((spAt a i).node : Int)) ∧ W'.cell? ⟨gS, i * 3 + 1, none⟩ = some (.int .i64 ((spAt a i).row : Int)) ∧ W'.cell? ⟨gS, i * 3 + 2, none⟩ = some (.bool (spAt a i).there) ∧ W'.cell? ⟨gT, (spAt a i).node, none⟩ = some (.pointer (some ⟨B.tp (spAt a i).node, 0, none⟩)) from fun W' hk => ⟨(VT W' hk).1, (VS W' hk).1, ((VS W' hk).2.1 i hsp).1, ((VS W' hk).2.1 i hsp).2.1, ((VS W' hk).2.1 i hsp).2.2, (VT W' hk).2⟩)
  clear h hnm ST VT VS TD
  change Hid (∀ X, Keep (fun _ => False) w X → Calls Tryz.prog _ _ X fun e w' => ∃ A n c, e = .returned (.tuple #[.slice A n c, .int .i64 (colC (tbAt a (spAt a i).node).ids.length (sgAt a (spAt a i).node) ((spAt a i).row : Int) k)]) ∧ By w' (fun b => X.heap.size ≤ b) (.slice A n c) (getT (tbAt a (spAt a i).node).ids.length (sgAt a (spAt a i).node) (tbAt a (spAt a i).node).col ((spAt a i).row : Int) k) ∧ Below X.heap.size X w') at TS
  generalize colC (tbAt a (spAt a i).node).ids.length (sgAt a (spAt a i).node) ((spAt a i).row : Int) k = er at *
  generalize getT (tbAt a (spAt a i).node).ids.length (sgAt a (spAt a i).node) (tbAt a (spAt a i).node).col ((spAt a i).row : Int) k = dat at *
  generalize (spAt a i).node = j at *
  generalize (spAt a i).row = r at *
  generalize (spAt a i).there = th at *
  generalize a.spots.length = ns at *
  generalize a.tabs.length = nt at *
  have i0 : (i : Int) < (ns : Int) := by omega
  have j0 : (j : Int) < (nt : Int) := by omega
  go_enter Tryz.func58, Tryz.ntmps58
  go_wp2_with fail
  with_reducible refine (NM.out _ (by exact (by repeat first | (with_reducible assumption) | (with_reducible exact Keep.refl _ _) | (with_reducible refine Keep.alloc ?_ _) | (with_reducible refine Keep.drew ?_) | (with_reducible refine Keep.drewN ?_ _) | (with_reducible refine Keep.setCell ?_ (.inl (by first | omega | (simp; done) | (simp; omega) | fail)) _)))).mono ?_
  rintro e w1 ⟨rfl, hk1⟩
  have K1 := Lib.hid (show Keep (fun _ => False) w w1 ∧ w1.heap[w.heap.size]? = some (.cells #[.int .i64 (i : Int), .int .i64 (g : Int)] 40 (0, 0)) from ⟨K0.out.trans hk1 (fun _ _ h => h), (hk1.block w.heap.size (by simp) (fun h => h)).trans HB.out⟩)
  clear hk1
  have z1 : w.heap.size < w1.heap.size := (Array.getElem?_eq_some_iff.1 K1.out.2).1
  obtain ⟨b0, b1, bf⟩ := cells2 K1.out.2
  have SY := Lib.hid (show ∀ W', Keep (fun _ => False) w1 W' → ((W'.cell? ⟨xp, 8, none⟩ = some (.slice (some ⟨gS, 0, none⟩) ns cS) ∧ W'.cell? ⟨w.heap.size, 0, none⟩ = some (.int .i64 (i : Int)) ∧ W'.cell? ⟨gS, i * 3, none⟩ = some (.int .i64 (j : Int)) ∧ W'.cell? ⟨gS, i * 3 + 1, none⟩ = some (.int .i64 (r : Int)) ∧ W'.cell? ⟨gS, i * 3 + 2, none⟩ = some (.bool th)) ∧ Keep (fun _ => False) w1 W') from fun W' hk => ⟨by
    obtain ⟨a1, a2, a3, a4, a5, a6⟩ := SX.out W' (K1.out.1.trans hk (fun _ _ h => h))
    exact ⟨a2, hk.cell (fun h => h) b0, a3, a4, a5⟩, hk⟩)
  go_upto_region 6 with fail
  go_region_held3 (fun W' => (W'.cell? ⟨xp, 8, none⟩ = some (.slice (some ⟨gS, 0, none⟩) ns cS) ∧ W'.cell? ⟨w.heap.size, 0, none⟩ = some (.int .i64 (i : Int)) ∧ W'.cell? ⟨gS, i * 3, none⟩ = some (.int .i64 (j : Int)) ∧ W'.cell? ⟨gS, i * 3 + 1, none⟩ = some (.int .i64 (r : Int)) ∧ W'.cell? ⟨gS, i * 3 + 2, none⟩ = some (.bool th)) ∧ Keep (fun _ => False) w1 W') (exact SY.out _ (by exact (by repeat first | (with_reducible assumption) | (with_reducible exact Keep.refl _ _) | (with_reducible refine Keep.alloc ?_ _) | (with_reducible refine Keep.drew ?_) | (with_reducible refine Keep.drewN ?_ _) | (with_reducible refine Keep.setCell ?_ (.inl (by first | omega | (simp; done) | (simp; omega) | fail)) _)))) (fail)
  go_upto_region 7 with fail
  refine wp_world (S := fun X => Keep (fun _ => False) w1 X ∧ X.heap[w1.heap.size]? = some (.cells #[.int .i64 (j : Int), .int .i64 (r : Int), .bool th] 139 (0, 0))) ⟨by exact (by repeat first | (with_reducible assumption) | (with_reducible exact Keep.refl _ _) | (with_reducible refine Keep.alloc ?_ _) | (with_reducible refine Keep.drew ?_) | (with_reducible refine Keep.drewN ?_ _) | (with_reducible refine Keep.setCell ?_ (.inl (by first | omega | (simp; done) | (simp; omega) | fail)) _)), heap_alloc_at _ _ _ (by simp)⟩ ?_
  rintro X ⟨hk2, hs2⟩
  obtain ⟨s0, s1, s2, sf⟩ := cells3 hs2
  have KX := Lib.hid (K1.out.1.trans hk2 (fun _ _ h => h))
  have SZ := Lib.hid (show ∀ W', Keep (fun _ => False) X W' → ((W'.cell? ⟨xp, 7, none⟩ = some (.slice (some ⟨gT, 0, none⟩) nt cT) ∧ W'.cell? ⟨w1.heap.size, 0, none⟩ = some (.int .i64 (j : Int)) ∧ W'.cell? ⟨w1.heap.size, 1, none⟩ = some (.int .i64 (r : Int)) ∧ W'.cell? ⟨gT, j, none⟩ = some (.pointer (some ⟨B.tp j, 0, none⟩))) ∧ Keep (fun _ => False) X W') from fun W' hk => ⟨by
    obtain ⟨a1, a2, a3, a4, a5, a6⟩ := SX.out W' (KX.out.trans hk (fun _ _ h => h))
    exact ⟨a1, hk.cell (fun h => h) s0, hk.cell (fun h => h) s1, a6⟩, hk⟩)
  clear hk2 hs2
  obtain ⟨⟨a1, a2, a3, a4⟩, -⟩ := SZ.out X (Keep.refl _ _)
  go_region_law (first
    | (go_simp; go_at_call 109; (with_reducible refine (TS.out _ (by exact KX.out.trans (T := fun _ => False) (by exact (by repeat first | (with_reducible assumption) | (with_reducible exact Keep.refl _ _) | (with_reducible refine Keep.alloc ?_ _) | (with_reducible refine Keep.drew ?_) | (with_reducible refine Keep.drewN ?_ _) | (with_reducible refine Keep.setCell ?_ (.inl (by first | omega | (simp; done) | (simp; omega) | fail)) _))) (fun _ _ h => h))).mono ?_); rintro e w4 ⟨A4, n4, c4, rfl, hby4, hb4⟩; have FIN := Lib.hid (And.intro hby4 (KX.out.trans (T := fun _ => False) (Keep.trans (T := fun _ => False) (by exact (by repeat first | (with_reducible assumption) | (with_reducible exact Keep.refl _ _) | (with_reducible refine Keep.alloc ?_ _) | (with_reducible refine Keep.drew ?_) | (with_reducible refine Keep.drewN ?_ _) | (with_reducible refine Keep.setCell ?_ (.inl (by first | omega | (simp; done) | (simp; omega) | fail)) _))) (Keep.of_below' hb4) (fun _ _ h => h)) (fun _ _ h => h))); have FZ := KX.out.size; clear hby4 hb4)
    | fail)
  all_goals
    go_wp2
    go_ret2
    first
      | exact ⟨A4, n4, c4, rfl, By.mono FIN.out.1 (fun b _ h => by (try simp at h); omega), FIN.out.2⟩
      | exact ⟨A4, n4, c4, by simp, By.mono FIN.out.1 (fun b _ h => by (try simp at h); omega), FIN.out.2⟩
set_option maxHeartbeats 4000000 in
theorem e_remove_ok (h : CoM w c xp B q a) (hl : c.l.length ≤ 1000) (hT : Tab w) (hG : ¬ CoF xp B a 0) (i g : Nat) (hi4 : i < 1024) (k : Int) (hk : -9223372036854775808 ≤ k ∧ k ≤ 9223372036854775807) (ST : Stands a i)
    (hq : q + 1 ≤ 1000000) (hsl : a.sigs.length + 1 ≤ 1000000) (nD : Int) (hnm : namedC c.l a ⟨(i : Int), (g : Int)⟩ k = (nD, true, 0)) (sg : Nat) (hsg : stepSig (sgAt a (spAt a i).node) k false = sg) (nd : Nat) (hnd : nodeI a.sigs sg = nd) (hn' : nd < (nodeS a.sigs sg).length)
    (hs : ∀ s ∈ nodeS a.sigs sg, s < 18446744073709551616 ∧ s &&& allOf c.l = s) (hadd : addC (tbAt (leaveC (sgC a sg) i) nd).ids.length (sgAt (leaveC (sgC a sg) i) nd) (szOf c.l) (entP (sgC a sg) i) = 0) :
    Calls Tryz.prog 57 #[.pointer (some ⟨xp, 0, none⟩), .agg #[.int .i64 (i : Int), .int .i64 (g : Int)], .int .i64 k] w fun e w' => e = .returned (.int .i64 0) ∧ CoTo w c xp (CoF xp B a) (q + 1) (enterC (szOf c.l) (leaveC (sgC a sg) i) i g nd (entP (sgC a sg) i)) w' := by
  have NM := Lib.hid (fun X (hk2 : Keep (fun _ => False) w X) => e_named (h.same hk2) ⟨(i : Int), (g : Int)⟩ k hk (fun _ => ST))
  rw [hnm] at NM
  dsimp only at NM
  have K0 := Lib.hid ((Keep.refl (fun _ => False) w).alloc (.cells #[.int .i64 (i : Int), .int .i64 (g : Int)] 40 (0, 0)))
  have HB := Lib.hid (heap_alloc_new w (.cells #[.int .i64 (i : Int), .int .i64 (g : Int)] 40 (0, 0)))
  have HT := Lib.hid hT
  have HG := Lib.hid hG
  have hlt0 := Lib.hid (fun k (hk : CoF xp B a k) => h.lt k hk)
  have GW := Lib.hid (show ∀ X, Keep (fun _ => False) w X → Calls Tryz.prog 108 #[.pointer (some ⟨B.gp, 0, none⟩), .int .i64 ((spAt a i).node : Int), .int .i64 k] X fun e w' => e = .returned (.int .i64 (nd : Int)) ∧ ∃ B', CoAt X c xp (CoF xp B a) (q + 1) (sgC a sg) w' B' from fun X hk2 => by
    have hlt : (spAt a i).node < a.sigs.length := Nat.lt_of_lt_of_le ST.nd h.few
    have hg := gis_without (GrIs.keep h.graph hk2 (fun _ _ h => h)) ((spAt a i).node : Int) k (by have := h.asked; omega) (by omega) (by simpa [Lit.wf, IntKind.min, IntKind.max, IntKind.signed, IntKind.bits] using hk)
    rw [if_pos ⟨by omega, by omega⟩, if_pos ⟨by omega, by omega⟩, Int.toNat_natCast] at hg
    rw [show a.sigs.getD (spAt a i).node 0 = sgAt a (spAt a i).node from rfl, hsg, hnd] at hg
    exact hg.mono fun e w' ⟨h1, h2⟩ => ⟨h1, by
      obtain ⟨B', h3, -, h4⟩ := CoM.graphWith (h.same hk2) h2 hq hsl
      exact ⟨B', h3⟩⟩)
  have LV := Lib.hid (show ∀ X0 X Y B4, Keep (fun _ => False) w X0 → CoAt X0 c xp (CoF xp B a) (q + 1) (sgC a sg) X B4 → Keep (fun _ => False) X Y → Calls Tryz.prog 100 #[.pointer (some ⟨xp, 0, none⟩), .agg #[.int .i64 (i : Int), .int .i64 (g : Int)]] Y (fun e w' => ∃ A n cc lo hi B', e = .returned (.slice A n cc) ∧ Y.heap.size ≤ lo ∧ lo ≤ hi ∧ hi ≤ w'.heap.size ∧ NBX parN (fun b => lo ≤ b ∧ b < hi) lo 91 w' (.slice A n cc) (entP (sgC a sg) i) ∧ (∀ k, ownB (.slice A n cc) = some k → k < hi) ∧ CoAt Y c xp (CoF xp B4 (sgC a sg)) (q + 1) (leaveC (sgC a sg) i) w' B' ∧ (∀ k, CoF xp B' (leaveC (sgC a sg) i) k → k < lo ∨ hi ≤ k) ∧ w'.heap[xp]? = Y.heap[xp]?) from fun X0 X Y B4 hk0 h4 hk4 => by
    have ht := h4.tab (HT.out.same hk0) HG.out
    exact e_leave (h4.1.same hk4) (ht.1.same hk4) ht.2 i g ST.sp ST.nd ST.rw_ ST.ix)
  have PL := Lib.hid (entP_len (sgC a sg) i)
  have EN := Lib.hid (show ∀ X0 X Y B5 u G, Keep (fun _ => False) w X0 → CoAt X0 c xp (CoF xp B a) (q + 1) (leaveC (sgC a sg) i) X B5 → Keep (fun _ => False) X Y → NS parN Y G u (entP (sgC a sg) i) → (∀ b, G b → ¬ CoF xp B5 (leaveC (sgC a sg) i) b) → Calls Tryz.prog 96 #[.pointer (some ⟨xp, 0, none⟩), .agg #[.int .i64 (i : Int), .int .i64 (g : Int)], .int .i64 (nd : Int), u] Y fun e w' => e = .returned (.tuple #[]) ∧ ∃ B6, CoAt Y c xp (CoF xp B5 (leaveC (sgC a sg) i)) (q + 1) (enterC (szOf c.l) (leaveC (sgC a sg) i) i g nd (entP (sgC a sg) i)) w' B6 from fun X0 X Y B5 u G hk0 h5 hk5 hu hG => by
    have ht := h5.tab (HT.out.same hk0) HG.out
    exact (e_enter (h5.1.same hk5) hl (ht.1.same hk5) ht.2 hs i g hi4 nd hn' _ u G hu (by have := PL.out; omega) hG hadd).mono fun e w' ⟨e1, B6, h6, g6⟩ => ⟨e1, B6, h6⟩)
  have c6 : w.cell? ⟨xp, 6, none⟩ = some (.pointer (some ⟨B.gp, 0, none⟩)) := (cells_of_row' h.box).1 6 _ rfl
  obtain ⟨gS, cS, -, -, gSx, hgS, hcS1, hcS2, VS⟩ := h.viewS (by have := ST.sp; omega)
  have hsp := ST.sp
  have SX := Lib.hid (show ∀ W', Keep (fun _ => False) w W' → W'.cell? ⟨xp, 6, none⟩ = some (.pointer (some ⟨B.gp, 0, none⟩)) ∧ W'.cell? ⟨xp, 8, none⟩ = some (.slice (some ⟨gS, 0, none⟩) a.spots.length cS) ∧ W'.cell? ⟨gS, i * 3, none⟩ = some (.int .i64 ((spAt a i).node : Int)) from fun W' hk => ⟨hk.cell (fun h => h) c6, (VS W' hk).1, ((VS W' hk).2.1 i hsp).1⟩)
  clear h hnm ST VS hs hadd hsg hnd hT hG c6
  generalize entP (sgC a sg) i = PP at *
  generalize leaveC (sgC a sg) i = a2 at *
  generalize sgC a sg = a1 at *
  generalize (spAt a i).node = j at *
  generalize a.spots.length = ns at *
  have i0 : (i : Int) < (ns : Int) := by omega
  go_enter Tryz.func57, Tryz.ntmps57
  go_wp2_with fail
  with_reducible refine (NM.out _ (by exact (by repeat first | (with_reducible assumption) | (with_reducible exact Keep.refl _ _) | (with_reducible refine Keep.alloc ?_ _) | (with_reducible refine Keep.drew ?_) | (with_reducible refine Keep.drewN ?_ _) | (with_reducible refine Keep.setCell ?_ (.inl (by first | omega | (simp; done) | (simp; omega) | fail)) _)))).mono ?_
  rintro e w1 ⟨rfl, hk1⟩
  have K1 := Lib.hid (show Keep (fun _ => False) w w1 ∧ w1.heap[w.heap.size]? = some (.cells #[.int .i64 (i : Int), .int .i64 (g : Int)] 40 (0, 0)) from ⟨K0.out.trans hk1 (fun _ _ h => h), (hk1.block w.heap.size (by simp) (fun h => h)).trans HB.out⟩)
  clear hk1
  have z1 : w.heap.size < w1.heap.size := (Array.getElem?_eq_some_iff.1 K1.out.2).1
  obtain ⟨b0, b1, bf⟩ := cells2 K1.out.2
  obtain ⟨t6, t8, t3⟩ := SX.out w1 K1.out.1
  go_upto_region 6 with fail
  go_cut [10] (fun t wx => t = .int .i64 (nd : Int) ∧ Hid (∃ B4, CoAt w1 c xp (CoF xp B a) (q + 1) a1 wx B4 ∧ wx.heap[w.heap.size]? = some (.cells #[.int .i64 (i : Int), .int .i64 (g : Int)] 40 (0, 0))))
  case first =>
    go_region_law (first
      | (go_simp; go_at_call 108; (with_reducible refine (GW.out _ (by exact K1.out.1.trans (T := fun _ => False) (by exact (by repeat first | (with_reducible assumption) | (with_reducible exact Keep.refl _ _) | (with_reducible refine Keep.alloc ?_ _) | (with_reducible refine Keep.drew ?_) | (with_reducible refine Keep.drewN ?_ _) | (with_reducible refine Keep.setCell ?_ (.inl (by first | omega | (simp; done) | (simp; omega) | fail)) _))) (fun _ _ h => h))).mono ?_); rintro e w4 ⟨rfl, B4, h4⟩; (have hx4 : CoAt w1 c xp (CoF xp B a) (q + 1) a1 w4 B4 := CoAt.from_ (by exact (by repeat first | (with_reducible assumption) | (with_reducible exact Keep.refl _ _) | (with_reducible refine Keep.alloc ?_ _) | (with_reducible refine Keep.drew ?_) | (with_reducible refine Keep.drewN ?_ _) | (with_reducible refine Keep.setCell ?_ (.inl (by first | omega | (simp; done) | (simp; omega) | fail)) _))) h4); have H4 := Lib.hid hx4; clear h4 hx4)
      | fail)
    all_goals
      go_wp2_with fail
      go_meet
      exact ⟨rfl, Lib.hid ⟨B4, H4.out, (H4.out.2.1.block w.heap.size z1 (fun e => by have := hlt0.out _ e; omega)).trans K1.out.2⟩⟩
  case rest =>
    obtain ⟨rfl, hcc⟩ := hcut
    obtain ⟨B4, hx4, hb4⟩ := hcc.out
    clear b0 b1 bf t6 t8 t3 hcc
    have H4 := Lib.hid hx4
    have NB4 := Lib.hid (show ¬ CoF xp B4 a1 w.heap.size from fun e => by
      rcases hx4.2.2 _ e with e | e
      · have := hlt0.out _ e; omega
      · omega)
    clear hx4
    go_upto_region 7 with fail
    refine wp_world (S := fun X => CoAt w1 c xp (CoF xp B a) (q + 1) a1 X B4 ∧ X.heap[w.heap.size]? = some (.cells #[.int .i64 (i : Int), .int .i64 (g : Int)] 40 (0, 0))) ⟨H4.out, hb4⟩ ?_
    rintro X ⟨hX4, hXb⟩
    clear H4 hb4
    have H4 := Lib.hid hX4
    have zX : w1.heap.size ≤ X.heap.size := hX4.2.1.size
    clear hX4
    obtain ⟨b0, b1, bf⟩ := cells2 hXb
    have S4 := Lib.hid (show ∀ W', Keep (fun _ => False) X W' → W'.cell? ⟨w.heap.size, 0, none⟩ = some (.int .i64 (i : Int)) ∧ W'.cell? ⟨w.heap.size, 1, none⟩ = some (.int .i64 (g : Int)) from fun W' hk => ⟨hk.cell (fun h => h) b0, hk.cell (fun h => h) b1⟩)
    have BX := Lib.hid hXb
    clear hXb b0 b1 bf
    go_region_held3 (fun W' => W'.cell? ⟨w.heap.size, 0, none⟩ = some (.int .i64 (i : Int)) ∧ W'.cell? ⟨w.heap.size, 1, none⟩ = some (.int .i64 (g : Int))) (first | exact S7.out _ (by exact (by repeat first | (with_reducible assumption) | (with_reducible exact Keep.refl _ _) | (with_reducible refine Keep.alloc ?_ _) | (with_reducible refine Keep.drew ?_) | (with_reducible refine Keep.drewN ?_ _) | (with_reducible refine Keep.setCell ?_ (.inl (by first | omega | (simp; done) | (simp; omega) | fail)) _))) | exact S5.out _ (by exact (by repeat first | (with_reducible assumption) | (with_reducible exact Keep.refl _ _) | (with_reducible refine Keep.alloc ?_ _) | (with_reducible refine Keep.drew ?_) | (with_reducible refine Keep.drewN ?_ _) | (with_reducible refine Keep.setCell ?_ (.inl (by first | omega | (simp; done) | (simp; omega) | fail)) _))) | exact S4.out _ (by exact (by repeat first | (with_reducible assumption) | (with_reducible exact Keep.refl _ _) | (with_reducible refine Keep.alloc ?_ _) | (with_reducible refine Keep.drew ?_) | (with_reducible refine Keep.drewN ?_ _) | (with_reducible refine Keep.setCell ?_ (.inl (by first | omega | (simp; done) | (simp; omega) | fail)) _)))) (first
      | (go_at_call 100; ((with_reducible refine (LV.out w1 _ _ _ K1.out.1 H4.out (by exact (by repeat first | (with_reducible assumption) | (with_reducible exact Keep.refl _ _) | (with_reducible refine Keep.alloc ?_ _) | (with_reducible refine Keep.drew ?_) | (with_reducible refine Keep.drewN ?_ _) | (with_reducible refine Keep.setCell ?_ (.inl (by first | omega | (simp; done) | (simp; omega) | fail)) _)))).mono ?_)); rintro e w5 ⟨A5, n5, c5, lo, hi, B5, rfl, l1, l2, l3, l4, l5, h5, l6, l7⟩; (have hx5 : CoAt w1 c xp (CoF xp B a) (q + 1) a2 w5 B5 := (H4.out.same (by exact (by repeat first | (with_reducible assumption) | (with_reducible exact Keep.refl _ _) | (with_reducible refine Keep.alloc ?_ _) | (with_reducible refine Keep.drew ?_) | (with_reducible refine Keep.drewN ?_ _) | (with_reducible refine Keep.setCell ?_ (.inl (by first | omega | (simp; done) | (simp; omega) | fail)) _)))).then_ h5); (have k45 : Keep (CoF xp B4 a1) X w5 := Keep.trans (S := CoF xp B4 a1) (T := CoF xp B4 a1) ((show Keep (fun _ => False) X _ by exact (by repeat first | (with_reducible assumption) | (with_reducible exact Keep.refl _ _) | (with_reducible refine Keep.alloc ?_ _) | (with_reducible refine Keep.drew ?_) | (with_reducible refine Keep.drewN ?_ _) | (with_reducible refine Keep.setCell ?_ (.inl (by first | omega | (simp; done) | (simp; omega) | fail)) _))).mono (fun _ _ h => h.elim)) h5.2.1 (fun _ _ h => h)); (have hb5 := (k45.block w.heap.size (by omega) NB4.out).trans BX.out); (have cc := cells2 hb5); (obtain ⟨d0, d1, df⟩ := cc); have S5 := Lib.hid (show ∀ W', Keep (fun _ => False) w5 W' → W'.cell? ⟨w.heap.size, 0, none⟩ = some (.int .i64 (i : Int)) ∧ W'.cell? ⟨w.heap.size, 1, none⟩ = some (.int .i64 (g : Int)) from fun W' hk => ⟨hk.cell (fun h => h) d0, hk.cell (fun h => h) d1⟩); have H5 := Lib.hid hx5; have L5 := Lib.hid (And.intro l4 (And.intro l5 l6)); have HB5 := Lib.hid hb5; have HLO := Lib.hid (show X.heap.size ≤ lo from Nat.le_trans (show Keep (fun _ => False) X _ by exact (by repeat first | (with_reducible assumption) | (with_reducible exact Keep.refl _ _) | (with_reducible refine Keep.alloc ?_ _) | (with_reducible refine Keep.drew ?_) | (with_reducible refine Keep.drewN ?_ _) | (with_reducible refine Keep.setCell ?_ (.inl (by first | omega | (simp; done) | (simp; omega) | fail)) _))).size l1); clear d0 d1 df hb5 k45 hx5 h5 l4 l5 l6 l7)
      | (go_at_call 96; (with_reducible refine (EN.out w1 _ _ _ _ _ K1.out.1 H5.out (by exact (by repeat first | (with_reducible assumption) | (with_reducible exact Keep.refl _ _) | (with_reducible refine Keep.alloc ?_ _) | (with_reducible refine Keep.drew ?_) | (with_reducible refine Keep.drewN ?_ _) | (with_reducible refine Keep.setCell ?_ (.inl (by first | omega | (simp; done) | (simp; omega) | fail)) _))) (L5.out.1.nsO.keep (S := fun _ => False) (by exact (by repeat first | (with_reducible assumption) | (with_reducible exact Keep.refl _ _) | (with_reducible refine Keep.alloc ?_ _) | (with_reducible refine Keep.drew ?_) | (with_reducible refine Keep.drewN ?_ _) | (with_reducible refine Keep.setCell ?_ (.inl (by first | omega | (simp; done) | (simp; omega) | fail)) _))) (fun _ _ _ h => h)) (fun b hb e => hb.elim (fun hb => by have h6 := L5.out.2.2 b e; have h7 := hb.1; have h8 := hb.2; omega) (fun hb => by have h6 := L5.out.2.2 b e; have h7 := (L5.out.1.own_lt hb).1; have h8 := L5.out.2.1 b hb; omega))).mono ?_); rintro e w7 ⟨rfl, B7, h7⟩; (have hx7 := (H5.out.same (by exact (by repeat first | (with_reducible assumption) | (with_reducible exact Keep.refl _ _) | (with_reducible refine Keep.alloc ?_ _) | (with_reducible refine Keep.drew ?_) | (with_reducible refine Keep.drewN ?_ _) | (with_reducible refine Keep.setCell ?_ (.inl (by first | omega | (simp; done) | (simp; omega) | fail)) _)))).then_ h7); (have NB5 : ¬ CoF xp B5 a2 w.heap.size := fun e => (H5.out.2.2 _ e).elim (fun e => by have := hlt0.out _ e; omega) (fun e => by omega)); (have k57 : Keep (CoF xp B5 a2) w5 w7 := Keep.trans (S := CoF xp B5 a2) (T := CoF xp B5 a2) ((show Keep (fun _ => False) w5 _ by exact (by repeat first | (with_reducible assumption) | (with_reducible exact Keep.refl _ _) | (with_reducible refine Keep.alloc ?_ _) | (with_reducible refine Keep.drew ?_) | (with_reducible refine Keep.drewN ?_ _) | (with_reducible refine Keep.setCell ?_ (.inl (by first | omega | (simp; done) | (simp; omega) | fail)) _))).mono (fun _ _ h => h.elim)) h7.2.1 (fun _ _ h => h)); (have hb7 := (k57.block w.heap.size (Array.getElem?_eq_some_iff.1 HB5.out).1 NB5).trans HB5.out); (have cc := cells2 hb7); (obtain ⟨d0, d1, df⟩ := cc); have S7 := Lib.hid (show ∀ W', Keep (fun _ => False) w7 W' → W'.cell? ⟨w.heap.size, 0, none⟩ = some (.int .i64 (i : Int)) ∧ W'.cell? ⟨w.heap.size, 1, none⟩ = some (.int .i64 (g : Int)) from fun W' hk => ⟨hk.cell (fun h => h) d0, hk.cell (fun h => h) d1⟩); have H7 := Lib.hid hx7; clear h7 hx7 NB5 k57 hb7 d0 d1 df)
      | fail)
    all_goals
      go_wp2
      go_ret
      exact ⟨by simp, (CoAt.from_ K1.out.1 (H7.out.same (by exact (by repeat first | (with_reducible assumption) | (with_reducible exact Keep.refl _ _) | (with_reducible refine Keep.alloc ?_ _) | (with_reducible refine Keep.drew ?_) | (with_reducible refine Keep.drewN ?_ _) | (with_reducible refine Keep.setCell ?_ (.inl (by first | omega | (simp; done) | (simp; omega) | fail)) _))))).to⟩
end
end Go.Proofs.YtglliendhbkkhaaGreatDoor

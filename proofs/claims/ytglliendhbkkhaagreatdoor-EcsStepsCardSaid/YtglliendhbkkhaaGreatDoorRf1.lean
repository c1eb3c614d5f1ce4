/- Contracts of vivariumref06.Has, At, Alive, Take, Give, on lists in memory. -/
import Derived.Test.YtglliendhbkkhaaGreatDoorSt1
import Derived.Test.YtglliendhbkkhaaGreatDoorIds1
import Derived.Deep.DeepCutAuto
import Derived.Test.YtglliendhbkkhaaGreatDoorEcsP
import Derived.Test.YtglliendhbkkhaaGreatDoorEcs7
import Derived.Test.YtglliendhbkkhaaGreatDoorEcsT
import Derived.Test.YtglliendhbkkhaaGreatDoorComp1
namespace Go.Proofs.YtglliendhbkkhaaGreatDoor
open Go.RowKit
set_option maxRecDepth 100000
set_option linter.unusedVariables false
set_option linter.unusedSimpArgs false

theorem r6_has (l : List Int) (z : Int) (u : Value) (F : Nat → Prop) (w : World) (hu : Sl w F 1 u l.length (iv l)) :
    Calls Tryz.prog 93 #[u, .int .i64 z] w fun e w' => e = .returned (.bool (decide (z ∈ l))) ∧ Keep (fun _ => False) w w' := by
  have HU := Lib.hid hu
  obtain ⟨A, c, rfl, h1, h2, -⟩ := hu
  unfold maxLen at h2
  obtain ⟨r, hr⟩ : ∃ r, decide (z ∈ l) = r := ⟨_, rfl⟩
  rw [hr]
  obtain ⟨n, hn⟩ : ∃ n, l.length = n := ⟨_, rfl⟩
  have HN := Lib.hid hn
  have YES := Lib.hid (show ∀ k, k < n → l.getD k 0 = z → r = true from fun k hk e => by
    rw [← hr]
    apply decide_eq_true
    rw [← e, List.getD_eq_getElem?_getD, List.getElem?_eq_getElem (by omega)]
    exact List.getElem_mem _)
  have NO := Lib.hid (show (∀ k, k < n → l.getD k 0 ≠ z) → r = false from fun h => by
    rw [← hr]
    apply decide_eq_false
    intro hm
    obtain ⟨k, hk, e⟩ := List.getElem_of_mem hm
    exact h k (by omega) (by rw [List.getD_eq_getElem?_getD, List.getElem?_eq_getElem hk]; exact e))
  rw [hn] at HU h1 ⊢
  clear hn hr
  go_enter Tryz.func93, Tryz.ntmps93
  go_wp2
  go_loopw [5] (fun i wr => ∃ (k : Nat), k ≤ n ∧ i = .int .i64 k ∧ w = wr ∧ Hid (∀ j, j < k → l.getD j 0 ≠ z)) (fun i _ => n - (intOf i).toNat)
  case atStart => exact ⟨0, by omega, rfl, rfl, Lib.hid (fun j h => by omega)⟩
  case round =>
    obtain ⟨k, hk, rfl, rfl, hb⟩ := hrel
    by_cases hlt : k < n
    · have hi : (k : Int) < (n : Int) := by omega
      have h0 : (0 : Int) ≤ (k : Int) := by omega
      obtain ⟨b, off, rfl, -, f1⟩ := nums_at HU.out HN.out hlt
      by_cases he : l.getD k 0 = z
      · have ex : (z == z) = true := by simp
        have Y := Lib.hid (YES.out k hlt he)
        rw [he] at f1
        go_wp2
        go_ret
        exact ⟨ret_bool Y.out.symm, Keep.refl _ _⟩
      · have ex : (l.getD k 0 == z) = false := by simpa using he
        have B1 := Lib.hid (show ∀ j, j < k + 1 → l.getD j 0 ≠ z from fun j hj => by
          rcases Nat.lt_or_ge j k with h | h
          · exact hb.out j h
          · obtain rfl : j = k := by omega
            exact he)
        clear he
        generalize l.getD k 0 = x at *
        go_wp2
        go_roundw
        case rel => exact ⟨k + 1, by omega, by go_num, by first | rfl | trivial, B1⟩
        case measure => simp [intOf]; omega
    · obtain rfl : k = n := by omega
      have hi : ¬ (k : Int) < (k : Int) := by omega
      have Y := Lib.hid (NO.out hb.out)
      go_wp2
      go_ret
      exact ⟨ret_bool Y.out.symm, Keep.refl _ _⟩
def inV (ents lim : Int) (g f : Value) : Value := .agg #[.int .i64 ents, .int .i64 lim, g, f]
/-- At, of one that is alive. -/
theorem r6_at_ok (ents lim : Int) (gens free : List Int) (g f : Value) (F : Nat → Prop) (i : Nat) (w : World) (hg : Sl w F 1 g gens.length (iv gens)) (hf : Sl w F 1 f free.length (iv free)) (hi : i < gens.length) (hn : ¬ (i : Int) ∈ free) (hl : gens.getD i 0 < lim) :
    Calls Tryz.prog 39 #[inV ents lim g f, .int .i64 (i : Int)] w fun e w' => e = .returned (.tuple #[.agg #[.int .i64 (i : Int), .int .i64 (gens.getD i 0)], .bool true]) ∧ Keep (fun _ => False) w w' := by
  have HS := Lib.hid (show ∀ X, Keep (fun _ => False) w X → Calls Tryz.prog 93 #[f, .int .i64 (i : Int)] X fun e w' => e = .returned (.bool false) ∧ Keep (fun _ => False) X w' from fun X hk => by
    have := r6_has free (i : Int) f F X (hf.keep hk (fun _ _ _ h => h))
    rw [decide_eq_false hn] at this
    exact this)
  obtain ⟨Ag, cg, rfl, g1, g2, -⟩ := id hg
  obtain ⟨Af, cf, rfl, f1, f2, -⟩ := id hf
  obtain ⟨b, off, rfl, -, e1⟩ := nums_at hg rfl hi
  unfold inV
  clear hf hn
  generalize gens.getD i 0 = x at *
  generalize gens.length = ng at *
  generalize free.length = nf at *
  have t1 : ¬ ((i : Int) < 0) := by omega
  have t2 : ¬ ((ng : Int) ≤ (i : Int)) := by omega
  have t3 : ¬ (lim ≤ x) := by omega
  have t4 : (i : Int) < (ng : Int) := by omega
  have t5 : (0 : Int) ≤ (i : Int) := by omega
  obtain ⟨WA, hWA⟩ : ∃ WA, WA = ((w.alloc (.cells #[.int .i64 ents, .int .i64 lim, .slice (some ⟨b, off, none⟩) ng cg, .slice Af nf cf] 93 (0, 0))).alloc (.cells #[.int .i64 0, .int .i64 0] 40 (0, 0))) := ⟨_, rfl⟩
  have B0 := Lib.hid (show WA.heap[w.heap.size]? = some (.cells #[.int .i64 ents, .int .i64 lim, .slice (some ⟨b, off, none⟩) ng cg, .slice Af nf cf] 93 (0, 0)) ∧ WA.heap[w.heap.size + 1]? = some (.cells #[.int .i64 0, .int .i64 0] 40 (0, 0)) ∧ Keep (fun _ => False) w WA from by
    rw [hWA]
    exact ⟨(((Keep.refl (fun _ => False) _).alloc _).block _ (by simp) (fun h => h)).trans (heap_alloc_new w _), heap_alloc_at _ _ _ (by simp), ((Keep.refl _ w).alloc _).alloc _⟩)
  go_enter Tryz.func39, Tryz.ntmps39
  go_upto_region 1 with fail
  rw [← hWA]
  clear hWA
  obtain ⟨x0, x1, x2, x3, xf⟩ := cells4 B0.out.1
  have e2 := B0.out.2.2.cell (fun h => h) e1
  have SX := Lib.hid (show ∀ W', Keep (fun _ => False) WA W' → (W'.cell? ⟨w.heap.size, 1, none⟩ = some (.int .i64 lim) ∧ W'.cell? ⟨w.heap.size, 2, none⟩ = some (.slice (some ⟨b, off, none⟩) ng cg) ∧ W'.cell? ⟨w.heap.size, 3, none⟩ = some (.slice Af nf cf) ∧ W'.cell? ⟨b, off + i, none⟩ = some (.int .i64 x)) ∧ Keep (fun _ => False) WA W' from fun W' hk => ⟨⟨hk.cell (fun h => h) x1, hk.cell (fun h => h) x2, hk.cell (fun h => h) x3, hk.cell (fun h => h) e2⟩, hk⟩)
  go_region_held3 (fun W' => (W'.cell? ⟨w.heap.size, 1, none⟩ = some (.int .i64 lim) ∧ W'.cell? ⟨w.heap.size, 2, none⟩ = some (.slice (some ⟨b, off, none⟩) ng cg) ∧ W'.cell? ⟨w.heap.size, 3, none⟩ = some (.slice Af nf cf) ∧ W'.cell? ⟨b, off + i, none⟩ = some (.int .i64 x)) ∧ Keep (fun _ => False) WA W') (exact SX.out _ (by exact (by repeat first | (with_reducible assumption) | (with_reducible exact Keep.refl _ _) | (with_reducible refine Keep.alloc ?_ _) | (with_reducible refine Keep.drew ?_) | (with_reducible refine Keep.drewN ?_ _) | (with_reducible refine Keep.setCell ?_ (.inl (by first | omega | (simp; done) | (simp; omega) | fail)) _)))) (first
    | (go_at_call 93; (with_reducible refine (HS.out _ (by exact B0.out.2.2.trans (T := fun _ => False) (by exact (by repeat first | (with_reducible assumption) | (with_reducible exact Keep.refl _ _) | (with_reducible refine Keep.alloc ?_ _) | (with_reducible refine Keep.drew ?_) | (with_reducible refine Keep.drewN ?_ _) | (with_reducible refine Keep.setCell ?_ (.inl (by first | omega | (simp; done) | (simp; omega) | fail)) _))) (fun _ _ h => h))).mono ?_); rintro e w4 ⟨rfl, hk4⟩; have k4 : Keep (fun _ => False) WA w4 := Keep.trans (T := fun _ => False) (by exact (by repeat first | (with_reducible assumption) | (with_reducible exact Keep.refl _ _) | (with_reducible refine Keep.alloc ?_ _) | (with_reducible refine Keep.drew ?_) | (with_reducible refine Keep.drewN ?_ _) | (with_reducible refine Keep.setCell ?_ (.inl (by first | omega | (simp; done) | (simp; omega) | fail)) _))) hk4 (fun _ _ h => h); have sx := SX.out w4 k4; have hb4 := (k4.block (w.heap.size + 1) (Array.getElem?_eq_some_iff.1 B0.out.2.1).1 (fun h => h)).trans B0.out.2.1; clear hk4)
    | fail)
  obtain ⟨⟨s1, s2, s3, s4⟩, -⟩ := sx
  obtain ⟨q0, q1, qf⟩ := cells2 hb4
  go_wp2
  refine bodyPost_ret (results_idb Tryz.results39 _ _ (w.heap.size + 1) (.int .i64 (i : Int)) (.int .i64 x) ?_ ?_ (.bool true) ?_) ?_ ⟨?_, ?_⟩
  · rfl
  · exact heap_twoJ hb4 _ _
  · rfl
  · rfl
  · rfl
  · exact Keep.setCell (Keep.setCell (B0.out.2.2.trans k4 (fun _ _ h => h)) (.inl (by simp)) _) (.inl (by simp)) _
theorem r6_alive_ok (ents lim : Int) (gens free : List Int) (g f : Value) (F : Nat → Prop) (i : Nat) (w : World) (hg : Sl w F 1 g gens.length (iv gens)) (hf : Sl w F 1 f free.length (iv free)) (hi : i < gens.length) (hn : ¬ (i : Int) ∈ free) (hl : gens.getD i 0 < lim) :
    Calls Tryz.prog 146 #[inV ents lim g f, .agg #[.int .i64 (i : Int), .int .i64 (gens.getD i 0)]] w fun e w' => e = .returned (.bool true) ∧ Keep (fun _ => False) w w' := by
  have AT := Lib.hid (fun X (hk : Keep (fun _ => False) w X) => r6_at_ok ents lim gens free g f F i X (hg.keep hk (fun _ _ _ h => h)) (hf.keep hk (fun _ _ _ h => h)) hi hn hl)
  obtain ⟨Ag, cg, rfl, g1, g2, -⟩ := hg
  obtain ⟨Af, cf, rfl, f1, f2, -⟩ := hf
  unfold inV at *
  clear hn hl hi
  generalize gens.getD i 0 = x at *
  generalize gens.length = ng at *
  generalize free.length = nf at *
  obtain ⟨WA, hWA⟩ : ∃ WA, WA = ((w.alloc (.cells #[.int .i64 ents, .int .i64 lim, .slice Ag ng cg, .slice Af nf cf] 93 (0, 0))).alloc (.cells #[.int .i64 (i : Int), .int .i64 x] 40 (0, 0))) := ⟨_, rfl⟩
  have B0 := Lib.hid (show WA.heap[w.heap.size]? = some (.cells #[.int .i64 ents, .int .i64 lim, .slice Ag ng cg, .slice Af nf cf] 93 (0, 0)) ∧ WA.heap[w.heap.size + 1]? = some (.cells #[.int .i64 (i : Int), .int .i64 x] 40 (0, 0)) ∧ Keep (fun _ => False) w WA from by
    rw [hWA]
    exact ⟨(((Keep.refl (fun _ => False) _).alloc _).block _ (by simp) (fun h => h)).trans (heap_alloc_new w _), heap_alloc_at _ _ _ (by simp), ((Keep.refl _ w).alloc _).alloc _⟩)
  have ex : (x == x) = true := by simp
  go_enter Tryz.func146, Tryz.ntmps146
  go_upto_region 1 with fail
  rw [← hWA]
  clear hWA
  obtain ⟨x0, x1, x2, x3, xf⟩ := cells4 B0.out.1
  obtain ⟨y0, y1, yf⟩ := cells2 B0.out.2.1
  go_wp2_with fail
  with_reducible refine (AT.out _ B0.out.2.2).mono ?_
  rintro e w4 ⟨rfl, hk4⟩
  have K4 := Lib.hid (show Keep (fun _ => False) w w4 ∧ w4.heap[w.heap.size + 1]? = some (.cells #[.int .i64 (i : Int), .int .i64 x] 40 (0, 0)) from ⟨B0.out.2.2.trans hk4 (fun _ _ h => h), (hk4.block _ (Array.getElem?_eq_some_iff.1 B0.out.2.1).1 (fun h => h)).trans B0.out.2.1⟩)
  clear hk4 y0 y1 yf x0 x1 x2 x3 xf
  have KA := ((Keep.refl (fun _ => False) w4).alloc (.cells #[.int .i64 (i : Int), .int .i64 x] 40 (0, 0)))
  obtain ⟨y0, y1, yf⟩ := cells2 ((KA.block _ (Array.getElem?_eq_some_iff.1 K4.out.2).1 (fun h => h)).trans K4.out.2)
  have k4 := K4.out.1
  go_wp2
  go_ret
  exact ⟨rfl, (by repeat first | (with_reducible assumption) | (with_reducible exact Keep.refl _ _) | (with_reducible refine Keep.alloc ?_ _) | (with_reducible refine Keep.drew ?_) | (with_reducible refine Keep.drewN ?_ _) | (with_reducible refine Keep.setCell ?_ (.inl (by first | omega | (simp; done) | (simp; omega) | fail)) _))⟩
end Go.Proofs.YtglliendhbkkhaaGreatDoor
namespace Go.Proofs.YtglliendhbkkhaaGreatDoor
open Go.RowKit
set_option maxRecDepth 100000
set_option linter.unusedVariables false
set_option linter.unusedSimpArgs false

theorem under_in : Tryz.prog.underlying 93 = some (.struct (Tryz.prog.fieldsOf 93)) := by kernel_rfl
theorem size_in : (Tryz.prog.info? 93).map (·.size) = some 4 := by kernel_rfl
theorem results_in {fn : Func} {p : Tmp} (h : fn.results = #[.cell p 93]) (tmps : Array Value) (w : World) (g : Nat) (c0 c1 c2 c3 : Value)
    (hp : tmps.getD p undef = .pointer (some ⟨g, 0, none⟩)) (hg : w.heap[g]? = some (.cells #[c0, c1, c2, c3] 93 (0, 0))) : (results fn tmps).run Tryz.prog w = .ok (.agg #[c0, c1, c2, c3]) w :=
  results_cell_row h tmps w g 93 _ (0, 0) _ hp hg under_in rfl size_in
theorem r11_names (c : Cf) (Au Ag Af Ae : Option Addr) (nu cu ng cg nf cf ne ce : Nat) (w : World) : Calls Tryz.prog 111 #[confV c (.slice Au nu cu), .agg #[.slice Ag ng cg, .slice Af nf cf, .slice Ae ne ce]] w fun e w' => e = .returned (inV c.ents c.gens (.slice Ag ng cg) (.slice Af nf cf)) ∧ Keep (fun _ => False) w w' := by
  unfold confV inV
  go_enter Tryz.func111, Tryz.ntmps111
  go_wp2
  refine bodyPost_ret (results_in Tryz.results111 _ _ (w.heap.size + 1 + 1) (.int .i64 c.ents) (.int .i64 c.gens) (.slice Ag ng cg) (.slice Af nf cf) ?_ ?_) ?_ ⟨?_, ?_⟩
  · rfl
  · exact heap_alloc_at _ _ _ (by simp)
  · rfl
  · rfl
  · exact (by repeat first | (with_reducible assumption) | (with_reducible exact Keep.refl _ _) | (with_reducible refine Keep.alloc ?_ _) | (with_reducible refine Keep.drew ?_) | (with_reducible refine Keep.drewN ?_ _) | (with_reducible refine Keep.setCell ?_ (.inl (by first | omega | (simp; done) | (simp; omega) | fail)) _))
theorem r11_place (s : SZ) (x : IdZ) (u : Value) (F : Nat → Prop) (w : World) (hu : StM w F u s) :
    Calls Tryz.prog 87 #[u, .agg #[.int .i64 x.ix, .int .i64 x.gen]] w fun e w' => e = .returned (.int .i64 (match s.ents.findIdx? (fun e => decide (e.id = x)) with | some p => (p : Int) | none => -1)) ∧ Keep (fun _ => False) w w' := by
  obtain ⟨A1, c1, A2, c2, A3, c3, rfl, h1, h2, h3, h4, h5, h6, g1, g2, g3⟩ := hu.form
  have HU := Lib.hid g3
  unfold maxLen at *
  clear hu g1 g2 g3 h1 h2 h3 h4
  obtain ⟨gens, free, ents⟩ := s
  simp only at *
  generalize gens.length = n1 at *
  generalize free.length = n2 at *
  obtain ⟨res, hres⟩ : ∃ r : Int, (match ents.findIdx? (fun e => decide (e.id = x)) with | some p => (p : Int) | none => -1) = r := ⟨_, rfl⟩
  rw [hres]
  obtain ⟨n, hn⟩ : ∃ n, ents.length = n := ⟨_, rfl⟩
  have YES := Lib.hid (show ∀ (k : Nat) (y : EnZ), ents[k]? = some y → y.id = x → (∀ (j : Nat) (z : EnZ), j < k → ents[j]? = some z → z.id ≠ x) → res = (k : Int) from fun k y hy hx hb => by
    obtain ⟨hk, e⟩ := List.getElem?_eq_some_iff.1 hy
    have : ents.findIdx? (fun e => decide (e.id = x)) = some k := by
      rw [List.findIdx?_eq_some_iff_getElem]
      refine ⟨hk, by rw [e]; exact decide_eq_true hx, fun j hj => ?_⟩
      have := hb j _ hj (List.getElem?_eq_getElem (by omega))
      simpa using this
    rw [← hres, this])
  have NO := Lib.hid (show (∀ (j : Nat) (z : EnZ), j < n → ents[j]? = some z → z.id ≠ x) → res = -1 from fun hb => by
    have : ents.findIdx? (fun e => decide (e.id = x)) = none := by
      rw [List.findIdx?_eq_none_iff]
      intro e he
      obtain ⟨j, hj⟩ := List.getElem?_of_mem he
      exact decide_eq_false (hb j e (by have := (List.getElem?_eq_some_iff.1 hj).1; omega) hj)
    rw [← hres, this])
  rw [hn] at HU h5 ⊢
  clear hn hres
  obtain ⟨ix, gn⟩ := x
  simp only
  obtain ⟨WA, hWA⟩ : ∃ WA, WA = ((w.alloc (.cells #[.slice A1 n1 c1, .slice A2 n2 c2, .slice A3 n c3] 28 (0, 0))).alloc (.cells #[.int .i64 ix, .int .i64 gn] 40 (0, 0))) := ⟨_, rfl⟩
  have B0 := Lib.hid (show WA.heap[w.heap.size]? = some (.cells #[.slice A1 n1 c1, .slice A2 n2 c2, .slice A3 n c3] 28 (0, 0)) ∧ WA.heap[w.heap.size + 1]? = some (.cells #[.int .i64 ix, .int .i64 gn] 40 (0, 0)) ∧ Keep (fun _ => False) w WA from by
    rw [hWA]
    exact ⟨(((Keep.refl (fun _ => False) _).alloc _).block _ (by simp) (fun h => h)).trans (heap_alloc_new w _), heap_alloc_at _ _ _ (by simp), ((Keep.refl _ w).alloc _).alloc _⟩)
  go_enter Tryz.func87, Tryz.ntmps87
  go_upto_region 1 with fail
  rw [← hWA]
  clear hWA
  obtain ⟨x0, x1, x2, xf⟩ := cells3 B0.out.1
  obtain ⟨y0, y1, yf⟩ := cells2 B0.out.2.1
  go_wp2
  go_loopw [5] (fun i wr => ∃ (k : Nat), k ≤ n ∧ i = .int .i64 k ∧ Hid (Keep (fun _ => False) WA wr) ∧ Hid (∀ (j : Nat) (z : EnZ), j < k → ents[j]? = some z → z.id ≠ ⟨ix, gn⟩)) (fun i _ => n - (intOf i).toNat)
  case atStart => exact ⟨0, by omega, rfl, Lib.hid (Keep.refl _ _), Lib.hid (fun j z h => by omega)⟩
  case round =>
    obtain ⟨k, hk, rfl, hkw, hb⟩ := hrel
    have z2 := hkw.out.cell (fun h => h) x2
    have v0 := hkw.out.cell (fun h => h) y0
    have v1 := hkw.out.cell (fun h => h) y1
    by_cases hlt : k < n
    · have hi : (k : Int) < (n : Int) := by omega
      have h0 : (0 : Int) ≤ (k : Int) := by omega
      obtain ⟨b, off, x, q, rfl, -, hx, -, hc⟩ := NS.at_ (HU.out.same (B0.out.2.2.trans hkw.out (fun _ _ h => h))) hlt
      have f0 := hc 0 _ rfl
      have f1 := hc 1 _ rfl
      simp only [show entN.m = 3 from rfl, Nat.add_zero] at f0 f1
      have Y1 := Lib.hid (YES.out k x hx)
      have B1 := Lib.hid (show x.id ≠ ⟨ix, gn⟩ → ∀ (j : Nat) (z : EnZ), j < k + 1 → ents[j]? = some z → z.id ≠ ⟨ix, gn⟩ from fun hne j z hj hz => by
        rcases Nat.lt_or_ge j k with h | h
        · exact hb.out j z h hz
        · obtain rfl : j = k := by omega
          rw [hx] at hz
          injection hz with hz
          rw [← hz]; exact hne)
      clear hc hx x0 x1 y0 y1
      obtain ⟨⟨ix2, gn2⟩, parts⟩ := x
      simp only at f0 f1 Y1 B1
      have CE := Lib.hid (show ∀ W', Keep (fun _ => False) wr W' → (W'.cell? ⟨w.heap.size, 2, none⟩ = some (.slice (some ⟨b, off, none⟩) n c3) ∧ W'.cell? ⟨w.heap.size + 1, 0, none⟩ = some (.int .i64 ix) ∧ W'.cell? ⟨w.heap.size + 1, 1, none⟩ = some (.int .i64 gn) ∧ W'.cell? ⟨b, off + k * 3, none⟩ = some (.int .i64 ix2) ∧ W'.cell? ⟨b, off + k * 3 + 1, none⟩ = some (.int .i64 gn2)) from fun W' hk => ⟨hk.cell (fun h => h) z2, hk.cell (fun h => h) v0, hk.cell (fun h => h) v1, hk.cell (fun h => h) f0, hk.cell (fun h => h) f1⟩)
      by_cases he1 : ix2 = ix
      · have he1 := he1.symm
        subst he1
        by_cases he2 : gn2 = gn
        · have he2 := he2.symm
          subst he2
          have RS := Lib.hid (Y1.out rfl hb.out)
          have ex : (ix == ix) = true := by simp
          have ey : (gn == gn) = true := by simp
          go_upto_region 4 with fail
          go_region_held3 (fun W' => W'.cell? ⟨w.heap.size, 2, none⟩ = some (.slice (some ⟨b, off, none⟩) n c3) ∧ W'.cell? ⟨w.heap.size + 1, 0, none⟩ = some (.int .i64 ix) ∧ W'.cell? ⟨w.heap.size + 1, 1, none⟩ = some (.int .i64 gn) ∧ W'.cell? ⟨b, off + k * 3, none⟩ = some (.int .i64 ix) ∧ W'.cell? ⟨b, off + k * 3 + 1, none⟩ = some (.int .i64 gn)) (exact CE.out _ (by exact (by repeat first | (with_reducible assumption) | (with_reducible exact Keep.refl _ _) | (with_reducible refine Keep.alloc ?_ _) | (with_reducible refine Keep.drew ?_) | (with_reducible refine Keep.drewN ?_ _) | (with_reducible refine Keep.setCell ?_ (.inl (by first | omega | (simp; done) | (simp; omega) | fail)) _)))) (fail)
          go_wp2
          go_ret
          exact ⟨congrArg (fun z => Ending.returned (Value.int .i64 z)) RS.out.symm, B0.out.2.2.trans (Keep.trans (T := fun _ => False) hkw.out (by exact (by repeat first | (with_reducible assumption) | (with_reducible exact Keep.refl _ _) | (with_reducible refine Keep.alloc ?_ _) | (with_reducible refine Keep.drew ?_) | (with_reducible refine Keep.drewN ?_ _) | (with_reducible refine Keep.setCell ?_ (.inl (by first | omega | (simp; done) | (simp; omega) | fail)) _))) (fun _ _ h => h)) (fun _ _ h => h)⟩
        · have B2 := Lib.hid (B1.out (fun e => by injection e with e1 e2; exact he2 e2))
          have ex : (ix == ix) = true := by simp
          have ey : (gn2 == gn) = false := by simpa using he2
          go_upto_region 4 with fail
          go_region_held3 (fun W' => W'.cell? ⟨w.heap.size, 2, none⟩ = some (.slice (some ⟨b, off, none⟩) n c3) ∧ W'.cell? ⟨w.heap.size + 1, 0, none⟩ = some (.int .i64 ix) ∧ W'.cell? ⟨w.heap.size + 1, 1, none⟩ = some (.int .i64 gn) ∧ W'.cell? ⟨b, off + k * 3, none⟩ = some (.int .i64 ix) ∧ W'.cell? ⟨b, off + k * 3 + 1, none⟩ = some (.int .i64 gn2)) (exact CE.out _ (by exact (by repeat first | (with_reducible assumption) | (with_reducible exact Keep.refl _ _) | (with_reducible refine Keep.alloc ?_ _) | (with_reducible refine Keep.drew ?_) | (with_reducible refine Keep.drewN ?_ _) | (with_reducible refine Keep.setCell ?_ (.inl (by first | omega | (simp; done) | (simp; omega) | fail)) _)))) (fail)
          go_wp2
          go_roundw
          case rel => exact ⟨k + 1, by omega, by go_num, Lib.hid (Keep.trans (T := fun _ => False) hkw.out (by exact (by repeat first | (with_reducible assumption) | (with_reducible exact Keep.refl _ _) | (with_reducible refine Keep.alloc ?_ _) | (with_reducible refine Keep.drew ?_) | (with_reducible refine Keep.drewN ?_ _) | (with_reducible refine Keep.setCell ?_ (.inl (by first | omega | (simp; done) | (simp; omega) | fail)) _))) (fun _ _ h => h)), B2⟩
          case measure => simp [intOf]; omega
      · have B2 := Lib.hid (B1.out (fun e => by injection e with e1 e2; exact he1 e1))
        have ex : (ix2 == ix) = false := by simpa using he1
        go_upto_region 4 with fail
        go_region_held3 (fun W' => W'.cell? ⟨w.heap.size, 2, none⟩ = some (.slice (some ⟨b, off, none⟩) n c3) ∧ W'.cell? ⟨w.heap.size + 1, 0, none⟩ = some (.int .i64 ix) ∧ W'.cell? ⟨w.heap.size + 1, 1, none⟩ = some (.int .i64 gn) ∧ W'.cell? ⟨b, off + k * 3, none⟩ = some (.int .i64 ix2) ∧ W'.cell? ⟨b, off + k * 3 + 1, none⟩ = some (.int .i64 gn2)) (exact CE.out _ (by exact (by repeat first | (with_reducible assumption) | (with_reducible exact Keep.refl _ _) | (with_reducible refine Keep.alloc ?_ _) | (with_reducible refine Keep.drew ?_) | (with_reducible refine Keep.drewN ?_ _) | (with_reducible refine Keep.setCell ?_ (.inl (by first | omega | (simp; done) | (simp; omega) | fail)) _)))) (fail)
        go_wp2
        go_roundw
        case rel => exact ⟨k + 1, by omega, by go_num, Lib.hid (Keep.trans (T := fun _ => False) hkw.out (by exact (by repeat first | (with_reducible assumption) | (with_reducible exact Keep.refl _ _) | (with_reducible refine Keep.alloc ?_ _) | (with_reducible refine Keep.drew ?_) | (with_reducible refine Keep.drewN ?_ _) | (with_reducible refine Keep.setCell ?_ (.inl (by first | omega | (simp; done) | (simp; omega) | fail)) _))) (fun _ _ h => h)), B2⟩
        case measure => simp [intOf]; omega
    · obtain rfl : k = n := by omega
      have hi : ¬ (k : Int) < (k : Int) := by omega
      have RS := Lib.hid (NO.out hb.out)
      go_wp2
      go_ret
      exact ⟨congrArg (fun z => Ending.returned (Value.int .i64 z)) RS.out.symm, B0.out.2.2.trans hkw.out (fun _ _ h => h)⟩
end Go.Proofs.YtglliendhbkkhaaGreatDoor
namespace Go.Proofs.YtglliendhbkkhaaGreatDoor
open Go.RowKit
set_option maxRecDepth 100000
set_option linter.unusedVariables false
set_option linter.unusedSimpArgs false

theorem results_take {fn : Func} {p q t : Tmp} (h : fn.results = #[.cell p 93, .cell q 40, .tmp t]) (tmps : Array Value) (w : World) (g gq : Nat) (c0 c1 c2 c3 d0 d1 : Value)
    (hp : tmps.getD p undef = .pointer (some ⟨g, 0, none⟩)) (hg : w.heap[g]? = some (.cells #[c0, c1, c2, c3] 93 (0, 0)))
    (hq : tmps.getD q undef = .pointer (some ⟨gq, 0, none⟩)) (hgq : w.heap[gq]? = some (.cells #[d0, d1] 40 (0, 0))) (b : Value) (hb : tmps.getD t undef = b) : (results fn tmps).run Tryz.prog w = .ok (.tuple #[.agg #[c0, c1, c2, c3], .agg #[d0, d1], b]) w := by
  have hr := run_loadVar_row (P := Tryz.prog) w g 93 93 #[c0, c1, c2, c3] (0, 0) _ hg under_in rfl size_in
  have hr2 := run_loadVar_row (P := Tryz.prog) w gq 40 40 #[d0, d1] (0, 0) _ hgq under_id rfl size_id
  have e : (results fn tmps).run Tryz.prog w = ((asAddr (tmps.getD p undef)).run Tryz.prog w).andThen fun a w₁ => ((loadVar 93 a).run Tryz.prog w₁).andThen fun v w₂ => ((asAddr (tmps.getD q undef)).run Tryz.prog w₂).andThen fun a w₃ => ((loadVar 40 a).run Tryz.prog w₃).andThen fun v2 w₄ => .ok (.tuple #[v, v2, tmps.getD t undef]) w₄ := by
    simp only [results, h]
    simp [Sem.run_bind, Result.andThen]
  rw [e, hp, hq, hb]
  simp [asAddr, hr, hr2]
theorem heap_4J {w : World} {p : Nat} {t : TypeId} {a b c d : Value} (h : w.heap[p]? = some (.cells #[a, b, c, d] t (0, 0))) (x y z u : Value) : ((((w.setCell ⟨p, 0, none⟩ x).setCell ⟨p, 1, none⟩ y).setCell ⟨p, 2, none⟩ z).setCell ⟨p, 3, none⟩ u).heap[p]? = some (.cells #[x, y, z, u] t (0, 0)) := by
  rw [heap_setCell_same _ p 3 _ _ u (heap_setCell_same _ p 2 _ _ z (heap_setCell_same _ p 1 _ _ y (heap_setCell_same w p 0 _ _ x h)))]; rfl
theorem keep4 (w : World) (p : Nat) (x y z u : Value) : Keep (fun b => b = p) w ((((w.setCell ⟨p, 0, none⟩ x).setCell ⟨p, 1, none⟩ y).setCell ⟨p, 2, none⟩ z).setCell ⟨p, 3, none⟩ u) :=
  Keep.setCell (p := ⟨p, 3, none⟩) (Keep.setCell (p := ⟨p, 2, none⟩) (Keep.setCell (p := ⟨p, 1, none⟩) (Keep.setCell (p := ⟨p, 0, none⟩) (Keep.refl (fun b => b = p) w) (.inr rfl) _) (.inr rfl) _) (.inr rfl) _) (.inr rfl) _
/-- What stands at a return of Take. -/
def TkEnd (w : World) (c0 c1 c2 c3 d0 d1 : Value) (W : World) : Prop :=
  W.heap[w.heap.size + 1]? = some (.cells #[c0, c1, c2, c3] 93 (0, 0)) ∧ W.heap[w.heap.size + 1 + 1]? = some (.cells #[d0, d1] 40 (0, 0)) ∧ Keep (fun _ => False) w W
theorem TkEnd.drew {w W : World} {c0 c1 c2 c3 d0 d1 : Value} (h : TkEnd w c0 c1 c2 c3 d0 d1 W) : TkEnd w c0 c1 c2 c3 d0 d1 W.drew := ⟨by rw [heap_drew']; exact h.1, by rw [heap_drew']; exact h.2.1, h.2.2.drew⟩
theorem TkEnd.one {w W : World} {c0 c1 c2 c3 d0 d1 e0 e1 e2 e3 f0 f1 : Value} (h1 : W.heap[w.heap.size + 1]? = some (.cells #[e0, e1, e2, e3] 93 (0, 0))) (h2 : W.heap[w.heap.size + 1 + 1]? = some (.cells #[f0, f1] 40 (0, 0))) (hk : Keep (fun _ => False) w W) :
    TkEnd w c0 c1 c2 c3 d0 d1 ((((((W.setCell ⟨w.heap.size + 1, 0, none⟩ c0).setCell ⟨w.heap.size + 1, 1, none⟩ c1).setCell ⟨w.heap.size + 1, 2, none⟩ c2).setCell ⟨w.heap.size + 1, 3, none⟩ c3).setCell ⟨w.heap.size + 1 + 1, 0, none⟩ d0).setCell ⟨w.heap.size + 1 + 1, 1, none⟩ d1) := by
  have a1 := heap_4J h1 c0 c1 c2 c3
  have k1 := keep4 W (w.heap.size + 1) c0 c1 c2 c3
  have l1 := (Array.getElem?_eq_some_iff.1 h1).1
  have l2 := (Array.getElem?_eq_some_iff.1 h2).1
  have a2 := (k1.block (w.heap.size + 1 + 1) l2 (fun h => by have : w.heap.size + 1 + 1 = w.heap.size + 1 := h; omega)).trans h2
  have k2 := keep2 ((((W.setCell ⟨w.heap.size + 1, 0, none⟩ c0).setCell ⟨w.heap.size + 1, 1, none⟩ c1).setCell ⟨w.heap.size + 1, 2, none⟩ c2).setCell ⟨w.heap.size + 1, 3, none⟩ c3) (w.heap.size + 1 + 1) d0 d1
  refine ⟨(k2.block _ (Array.getElem?_eq_some_iff.1 a1).1 (fun h => by have : w.heap.size + 1 = w.heap.size + 1 + 1 := h; omega)).trans a1, heap_twoJ a2 _ _, (hk.trans k1 (fun b hb h => by have : b = w.heap.size + 1 := h; omega)).trans k2 (fun b hb h => by have : b = w.heap.size + 1 + 1 := h; omega)⟩
theorem TkEnd.two {w W : World} {c0 c1 c2 c3 d0 d1 e0 e1 e2 e3 f0 f1 : Value} (h1 : W.heap[w.heap.size + 1]? = some (.cells #[e0, e1, e2, e3] 93 (0, 0))) (h2 : W.heap[w.heap.size + 1 + 1]? = some (.cells #[f0, f1] 40 (0, 0))) (hk : Keep (fun _ => False) w W) :
    TkEnd w c0 c1 c2 c3 d0 d1 ((((((W.setCell ⟨w.heap.size + 1 + 1, 0, none⟩ d0).setCell ⟨w.heap.size + 1 + 1, 1, none⟩ d1).setCell ⟨w.heap.size + 1, 0, none⟩ c0).setCell ⟨w.heap.size + 1, 1, none⟩ c1).setCell ⟨w.heap.size + 1, 2, none⟩ c2).setCell ⟨w.heap.size + 1, 3, none⟩ c3) := by
  have a2 := heap_twoJ h2 d0 d1
  have k2 := keep2 W (w.heap.size + 1 + 1) d0 d1
  have l1 := (Array.getElem?_eq_some_iff.1 h1).1
  have a1 := (k2.block (w.heap.size + 1) l1 (fun h => by have : w.heap.size + 1 = w.heap.size + 1 + 1 := h; omega)).trans h1
  have k1 := keep4 ((W.setCell ⟨w.heap.size + 1 + 1, 0, none⟩ d0).setCell ⟨w.heap.size + 1 + 1, 1, none⟩ d1) (w.heap.size + 1) c0 c1 c2 c3
  refine ⟨heap_4J a1 _ _ _ _, (k1.block _ (Array.getElem?_eq_some_iff.1 a2).1 (fun h => by have : w.heap.size + 1 + 1 = w.heap.size + 1 := h; omega)).trans a2, (hk.trans k2 (fun b hb h => by have : b = w.heap.size + 1 + 1 := h; omega)).trans k1 (fun b hb h => by have : b = w.heap.size + 1 := h; omega)⟩
/-- Take, where one is free. -/
theorem r6_take_free (ents lim : Int) (gens free : List Int) (g f : Value) (F : Nat → Prop) (n m i : Nat) (w : World) (hg : Sl w F 1 g gens.length (iv gens)) (hf : Sl w F 1 f free.length (iv free)) (hm : free.length = n) (hn : n = m + 1) (hi : free.getD m 0 = (i : Int)) (hig : i < gens.length) :
    Calls Tryz.prog 114 #[inV ents lim g f] w fun e w' => ∃ A c, f = .slice A n c ∧ e = .returned (.tuple #[inV ents lim g (.slice A m c), .agg #[.int .i64 (i : Int), .int .i64 (gens.getD i 0)], .int .i64 0]) ∧ Keep (fun _ => False) w w' := by
  rw [hm] at hf
  obtain ⟨Ag, cg, rfl, g1, g2, -⟩ := id hg
  obtain ⟨Af, cf, rfl, f1, f2, -⟩ := id hf
  obtain ⟨b, off, rfl, -, e1⟩ := nums_at (k := m) hf hm (by omega)
  obtain ⟨b2, off2, rfl, hb2, e2⟩ := nums_at (hg.mono (G := fun b => b < w.heap.size) (fun b hb _ => hb)) rfl hig
  have hb2 : b2 < w.heap.size := hb2
  have nb1 : ¬ b2 = w.heap.size + 1 := by omega
  have nb2 : ¬ b2 = w.heap.size + 1 + 1 := by omega
  have nb3 : ¬ w.heap.size + 1 = b2 := by omega
  have nb4 : ¬ w.heap.size + 1 + 1 = b2 := by omega
  rw [hi] at e1
  unfold inV maxLen at *
  clear hf hg hm hi
  generalize gens.getD i 0 = x at *
  generalize gens.length = ng at *
  have t1 : (0 : Int) < (n : Int) := by omega
  have t2 : (n : Int) - 1 = (m : Int) := by omega
  have t9 : wrap64 (m : Int) = (m : Int) := by unfold wrap64; omega
  have t3 : (m : Int) < (n : Int) := by omega
  have t4 : (0 : Int) ≤ (m : Int) := by omega
  have t5 : (i : Int) < (ng : Int) := by omega
  have t6 : (0 : Int) ≤ (i : Int) := by omega
  have t7 : (m : Int) ≤ (cf : Int) := by omega
  have t8 : ¬ (cf : Int) < (m : Int) := by omega
  have HN := Lib.hid hn
  clear hn
  go_enter Tryz.func114, Tryz.ntmps114
  go_upto_region 1 with fail
  refine wp_world (S := fun X => X.heap[w.heap.size]? = some (.cells #[.int .i64 ents, .int .i64 lim, .slice (some ⟨b2, off2, none⟩) ng cg, .slice (some ⟨b, off, none⟩) n cf] 93 (0, 0)) ∧ X.heap[w.heap.size + 1]? = some (.cells #[.int .i64 0, .int .i64 0, .slice none 0 0, .slice none 0 0] 93 (0, 0)) ∧ X.heap[w.heap.size + 1 + 1]? = some (.cells #[.int .i64 0, .int .i64 0] 40 (0, 0)) ∧ Keep (fun _ => False) w X) ⟨by rw [Below.heap_alloc _ _ _ (by simp; omega)]; first | (exact heap_alloc_at _ _ _ (by first | rfl | (simp; done))) | (rw [Below.heap_alloc _ _ _ (by simp)]; exact heap_alloc_at _ _ _ (by first | rfl | (simp; done))) | (rw [heap_drew', Below.heap_alloc _ _ _ (by simp)]; exact heap_alloc_at _ _ _ (by first | rfl | (simp; done))) | (rw [heap_drew']; exact heap_alloc_at _ _ _ (by first | rfl | (simp; done))) | fail, by first | (exact heap_alloc_at _ _ _ (by first | rfl | (simp; done))) | (rw [Below.heap_alloc _ _ _ (by simp)]; exact heap_alloc_at _ _ _ (by first | rfl | (simp; done))) | (rw [heap_drew', Below.heap_alloc _ _ _ (by simp)]; exact heap_alloc_at _ _ _ (by first | rfl | (simp; done))) | (rw [heap_drew']; exact heap_alloc_at _ _ _ (by first | rfl | (simp; done))) | fail, by exact heap_alloc_at _ _ _ (by simp), by exact (by repeat first | (with_reducible assumption) | (with_reducible exact Keep.refl _ _) | (with_reducible refine Keep.alloc ?_ _) | (with_reducible refine Keep.drew ?_) | (with_reducible refine Keep.drewN ?_ _) | (with_reducible refine Keep.setCell ?_ (.inl (by first | omega | (simp; done) | (simp; omega) | fail)) _))⟩ ?_
  rintro X ⟨h1, h2, h3, h4⟩
  have HX := Lib.hid (And.intro h1 (And.intro h2 (And.intro h3 h4)))
  have E2 := Lib.hid e2
  have e1' := h4.cell (fun h => h) e1
  have e2' := h4.cell (fun h => h) e2
  obtain ⟨x0, x1, x2, x3, xf⟩ := cells4 h1
  clear h1 h2 h3 h4 e1 e2
  go_upto_region 5 with fail
  have kx : Keep (fun b => b = w.heap.size) X (X.setCell ⟨w.heap.size, 3, none⟩ (.slice (some ⟨b, off, none⟩) m cf)) := Keep.setCell (p := ⟨w.heap.size, 3, none⟩) (Keep.refl (fun b => b = w.heap.size) X) (.inr rfl) _
  have zX : w.heap.size + 2 < X.heap.size := by have := (Array.getElem?_eq_some_iff.1 HX.out.2.2.1).1; omega
  refine wp_world (S := fun Y => Y.heap[w.heap.size]? = some (.cells #[.int .i64 ents, .int .i64 lim, .slice (some ⟨b2, off2, none⟩) ng cg, .slice (some ⟨b, off, none⟩) m cf] 93 (0, 0)) ∧ Y.heap[w.heap.size + 1]? = some (.cells #[.int .i64 0, .int .i64 0, .slice none 0 0, .slice none 0 0] 93 (0, 0)) ∧ Y.heap[w.heap.size + 1 + 1]? = some (.cells #[.int .i64 0, .int .i64 0] 40 (0, 0)) ∧ Keep (fun _ => False) w Y ∧ Y.cell? ⟨b2, off2 + i, none⟩ = some (.int .i64 x))
    ⟨heap_setCell_same X w.heap.size 3 _ _ _ HX.out.1, (kx.block _ (by omega) (fun h => by have : w.heap.size + 1 = w.heap.size := h; omega)).trans HX.out.2.1, (kx.block _ (by omega) (fun h => by have : w.heap.size + 1 + 1 = w.heap.size := h; omega)).trans HX.out.2.2.1, HX.out.2.2.2.trans kx (fun b hb h => by have : b = w.heap.size := h; omega), (HX.out.2.2.2.trans kx (fun b hb h => by have : b = w.heap.size := h; omega)).cell (fun h => h) E2.out⟩ ?_
  rintro Y ⟨h1, h2, h3, h4, h5⟩
  have HY := Lib.hid (And.intro h1 (And.intro h2 (And.intro h3 h4)))
  clear x0 x1 x2 x3 xf e1' e2' kx
  obtain ⟨x0, x1, x2, x3, xf⟩ := cells4 h1
  obtain ⟨y0, y1, y2, y3, yf⟩ := cells4 h2
  obtain ⟨z0, z1, zf⟩ := cells2 h3
  clear h1 h2 h3 h4
  go_cut [4] (fun t wx => t = .int .i64 0 ∧ Hid (TkEnd w (.int .i64 ents) (.int .i64 lim) (.slice (some ⟨b2, off2, none⟩) ng cg) (.slice (some ⟨b, off, none⟩) m cf) (.int .i64 (i : Int)) (.int .i64 x) wx))
  case first =>
    go_region_law (fail)
    all_goals
      go_wp2_with fail
      go_meet
      with_reducible exact ⟨rfl, Lib.hid (TkEnd.drew (TkEnd.one HY.out.2.1 HY.out.2.2.1 HY.out.2.2.2))⟩
  case rest =>
    obtain ⟨rfl, hend⟩ := hcut
    go_wp2
    refine bodyPost_ret (results_take Tryz.results114 _ _ (w.heap.size + 1) (w.heap.size + 1 + 1) (.int .i64 ents) (.int .i64 lim) (.slice (some ⟨b2, off2, none⟩) ng cg) (.slice (some ⟨b, off, none⟩) m cf) (.int .i64 (i : Int)) (.int .i64 x) ?_ hend.out.1 ?_ hend.out.2.1 (.int .i64 0) ?_) ?_ ⟨some ⟨b, off, none⟩, cf, ⟨rfl, rfl⟩, ?_, hend.out.2.2⟩
    · rfl
    · rfl
    · rfl
    · rfl
    · rfl
theorem own_zeroA (w : World) (B m : Nat) (e : TypeId) (A : Option Addr) : Own w B e m (.slice A 0 0) 0 [] := ⟨by simp, A, 0, rfl, Nat.le_refl _, by unfold maxLen; omega, fun h => absurd h (by omega)⟩
theorem info_intA : (Tryz.prog.info? 3).map (fun i => (i.zero, i.size, i.bytes)) = some (some (.int .i64 0), 1, 8) := by kernel_rfl
theorem wpList_intA {ops : Array Oper} {o : Oper} {rest : List Oper} {a : Act} {w : World} {Q : Exit → Act → World → Prop} (hgd : Region.wanted o (yielded ops a.tmps) = true) (s x : Operand)
    (ho : o.op = .call { callee := .builtin .append, args := #[s, x], argTypes := #[25, 25] }) (B : Nat) (v : Value) (n : Nat) (D : List Value) (hv : a.eval s = v) (hown : Own w B 3 1 v n D) (vx : Value) (k : Nat) (ys : List Value)
    (hy : a.eval x = vx) (hsrc : Src Tryz.prog 1 25 vx k ys w) (hk : n + k ≤ 1099511627776) (hB : B ≤ w.heap.size)
    (h : ∀ A c w', Own w' B 3 1 (.slice A (n + k) c) (n + k) (D ++ ys) → Keep (fun k => ownB v = some k) w w' → (∀ k', ownB (.slice A (n + k) c) = some k' → ownB v = some k' ∨ w.heap.size ≤ k') → wpList Tryz.prog ops Q rest (a.put o.dst (.slice A (n + k) c)) w') :
    wpList Tryz.prog ops Q (o :: rest) a w := by
  obtain ⟨is, his, hs0, hs1, hs2⟩ := info_parts info_intA
  refine wpList_append_gen w hgd s x _ _ ho B 3 is _ 1 8 Tryz.underlying25 his hs0 hs1 hs2 rfl v n _ hv hown vx k ys hy hsrc (by unfold maxLen; omega) (by omega) hB ?_
  intro v' w' ho' hk' hn'
  obtain ⟨A, c', rfl, _⟩ := ho'.form
  exact h A c' w' ho' hk' hn'
theorem iv_oneA (l : List Int) : ∀ u ∈ iv l, u.oneCell' = true := fun u hu => by
  unfold iv at hu
  obtain ⟨z, _, rfl⟩ := List.mem_map.1 hu
  rfl
theorem src_int {W : World} {F : Nat → Prop} {n c : Nat} {A : Option Addr} {l : List Int} (h : Sl W F 1 (.slice A n c) n (iv l)) : Src Tryz.prog 1 25 (.slice A n c) n (iv l) W := by
  obtain ⟨A', c', e, h1, h2, h3, hr⟩ := h
  injection e with e1 e2 e3
  subst e1 e3
  exact hr.src (c := c) (P := Tryz.prog) Tryz.underlying25 (iv_oneA l) (by omega)
/-- Take, where none is left. -/
theorem r6_take_full (ents lim : Int) (gens : List Int) (g : Value) (Af : Option Addr) (cf : Nat) (F : Nat → Prop) (w : World) (hg : Sl w F 1 g gens.length (iv gens)) (he : (gens.length : Int) = ents) :
    Calls Tryz.prog 114 #[inV ents lim g (.slice Af 0 cf)] w fun e w' => e = .returned (.tuple #[inV ents lim g (.slice Af 0 cf), .agg #[.int .i64 0, .int .i64 0], .int .i64 9]) ∧ Keep (fun _ => False) w w' := by
  obtain ⟨Ag, cg, rfl, g1, g2, -⟩ := id hg
  unfold inV maxLen at *
  obtain ⟨ng, hng⟩ : ∃ ng, gens.length = ng := ⟨_, rfl⟩
  have HG := Lib.hid hg
  have HNG := Lib.hid hng
  rw [hng] at HG g1 he ⊢
  clear hg hng
  have t1 : ¬ ((0 : Int) < 0) := by omega
  go_enter Tryz.func114, Tryz.ntmps114
  go_upto_region 1 with fail
  refine wp_world (S := fun X => X.heap[w.heap.size]? = some (.cells #[.int .i64 ents, .int .i64 lim, .slice Ag ng cg, .slice Af 0 cf] 93 (0, 0)) ∧ X.heap[w.heap.size + 1]? = some (.cells #[.int .i64 0, .int .i64 0, .slice none 0 0, .slice none 0 0] 93 (0, 0)) ∧ X.heap[w.heap.size + 1 + 1]? = some (.cells #[.int .i64 0, .int .i64 0] 40 (0, 0)) ∧ Keep (fun _ => False) w X) ⟨by rw [Below.heap_alloc _ _ _ (by simp; omega)]; first | (exact heap_alloc_at _ _ _ (by first | rfl | (simp; done))) | (rw [Below.heap_alloc _ _ _ (by simp)]; exact heap_alloc_at _ _ _ (by first | rfl | (simp; done))) | (rw [heap_drew', Below.heap_alloc _ _ _ (by simp)]; exact heap_alloc_at _ _ _ (by first | rfl | (simp; done))) | (rw [heap_drew']; exact heap_alloc_at _ _ _ (by first | rfl | (simp; done))) | fail, by first | (exact heap_alloc_at _ _ _ (by first | rfl | (simp; done))) | (rw [Below.heap_alloc _ _ _ (by simp)]; exact heap_alloc_at _ _ _ (by first | rfl | (simp; done))) | (rw [heap_drew', Below.heap_alloc _ _ _ (by simp)]; exact heap_alloc_at _ _ _ (by first | rfl | (simp; done))) | (rw [heap_drew']; exact heap_alloc_at _ _ _ (by first | rfl | (simp; done))) | fail, by exact heap_alloc_at _ _ _ (by simp), by exact (by repeat first | (with_reducible assumption) | (with_reducible exact Keep.refl _ _) | (with_reducible refine Keep.alloc ?_ _) | (with_reducible refine Keep.drew ?_) | (with_reducible refine Keep.drewN ?_ _) | (with_reducible refine Keep.setCell ?_ (.inl (by first | omega | (simp; done) | (simp; omega) | fail)) _))⟩ ?_
  rintro X ⟨h1, h2, h3, h4⟩
  have HX := Lib.hid (And.intro h1 (And.intro h2 (And.intro h3 h4)))
  obtain ⟨x0, x1, x2, x3, xf⟩ := cells4 h1
  obtain ⟨y0, y1, y2, y3, yf⟩ := cells4 h2
  obtain ⟨z0, z1, zf⟩ := cells2 h3
  clear h1 h2 h3 h4
  have ex : ((ng : Int) == ents) = true := by simpa using he
  go_wp2
  have TE := Lib.hid (TkEnd.one (c0 := .int .i64 ents) (c1 := .int .i64 lim) (c2 := .slice Ag ng cg) (c3 := .slice Af 0 cf) (d0 := .int .i64 0) (d1 := .int .i64 0) HX.out.2.1 HX.out.2.2.1 HX.out.2.2.2)
  refine bodyPost_ret (results_take Tryz.results114 _ _ (w.heap.size + 1) (w.heap.size + 1 + 1) (.int .i64 ents) (.int .i64 lim) (.slice Ag ng cg) (.slice Af 0 cf) (.int .i64 0) (.int .i64 0) ?_ TE.out.1 ?_ TE.out.2.1 (.int .i64 9) ?_) ?_ ⟨?_, TE.out.2.2⟩
  · rfl
  · rfl
  · rfl
  · rfl
  · rfl
set_option maxHeartbeats 2000000 in
/-- Take, of a new index. -/
theorem r6_take_new (ents lim : Int) (gens : List Int) (g : Value) (Af : Option Addr) (cf : Nat) (F : Nat → Prop) (w : World) (hg : Sl w F 1 g gens.length (iv gens)) (hn : gens.length ≤ 1000000) (he : (gens.length : Int) ≠ ents) :
    Calls Tryz.prog 114 #[inV ents lim g (.slice Af 0 cf)] w fun e w' => ∃ A c, e = .returned (.tuple #[inV ents lim (.slice A (gens.length + 1) c) (.slice Af 0 cf), .agg #[.int .i64 (gens.length : Int), .int .i64 0], .int .i64 0]) ∧ Sl w' (fun b => w.heap.size ≤ b) 1 (.slice A (gens.length + 1) c) (gens.length + 1) (iv (gens ++ [0])) ∧ Below w.heap.size w w' := by
  obtain ⟨Ag, cg, rfl, g1, g2, -⟩ := id hg
  unfold inV maxLen at *
  obtain ⟨ng, hng⟩ : ∃ ng, gens.length = ng := ⟨_, rfl⟩
  have HG := Lib.hid hg
  have HNG := Lib.hid hng
  rw [hng] at HG g1 he hn ⊢
  clear hg hng
  have t1 : ¬ ((0 : Int) < 0) := by omega
  go_enter Tryz.func114, Tryz.ntmps114
  go_upto_region 1 with fail
  refine wp_world (S := fun X => X.heap[w.heap.size]? = some (.cells #[.int .i64 ents, .int .i64 lim, .slice Ag ng cg, .slice Af 0 cf] 93 (0, 0)) ∧ X.heap[w.heap.size + 1]? = some (.cells #[.int .i64 0, .int .i64 0, .slice none 0 0, .slice none 0 0] 93 (0, 0)) ∧ X.heap[w.heap.size + 1 + 1]? = some (.cells #[.int .i64 0, .int .i64 0] 40 (0, 0)) ∧ Keep (fun _ => False) w X) ⟨by rw [Below.heap_alloc _ _ _ (by simp; omega)]; first | (exact heap_alloc_at _ _ _ (by first | rfl | (simp; done))) | (rw [Below.heap_alloc _ _ _ (by simp)]; exact heap_alloc_at _ _ _ (by first | rfl | (simp; done))) | (rw [heap_drew', Below.heap_alloc _ _ _ (by simp)]; exact heap_alloc_at _ _ _ (by first | rfl | (simp; done))) | (rw [heap_drew']; exact heap_alloc_at _ _ _ (by first | rfl | (simp; done))) | fail, by first | (exact heap_alloc_at _ _ _ (by first | rfl | (simp; done))) | (rw [Below.heap_alloc _ _ _ (by simp)]; exact heap_alloc_at _ _ _ (by first | rfl | (simp; done))) | (rw [heap_drew', Below.heap_alloc _ _ _ (by simp)]; exact heap_alloc_at _ _ _ (by first | rfl | (simp; done))) | (rw [heap_drew']; exact heap_alloc_at _ _ _ (by first | rfl | (simp; done))) | fail, by exact heap_alloc_at _ _ _ (by simp), by exact (by repeat first | (with_reducible assumption) | (with_reducible exact Keep.refl _ _) | (with_reducible refine Keep.alloc ?_ _) | (with_reducible refine Keep.drew ?_) | (with_reducible refine Keep.drewN ?_ _) | (with_reducible refine Keep.setCell ?_ (.inl (by first | omega | (simp; done) | (simp; omega) | fail)) _))⟩ ?_
  rintro X ⟨h1, h2, h3, h4⟩
  have HX := Lib.hid (And.intro h1 (And.intro h2 (And.intro h3 h4)))
  obtain ⟨x0, x1, x2, x3, xf⟩ := cells4 h1
  obtain ⟨y0, y1, y2, y3, yf⟩ := cells4 h2
  obtain ⟨z0, z1, zf⟩ := cells2 h3
  clear h1 h2 h3 h4
  have ex : ((ng : Int) == ents) = false := by simpa using he
  have x2' := ((Keep.refl (fun _ => False) X).alloc (.cells #[] 3 (0, 0))).cell (fun h => h) x2
  go_wp2_with (first
    | (at_builtin; refine wpList_intA (by rfl) _ _ (by rfl) X.heap.size _ 0 [] (by rfl) (own_zeroA _ _ _ _ _) _ ng (iv gens) (by rfl) ?_ (by omega) (by simp) ?_)
    | fail)
  · exact src_int ((HG.out.keep HX.out.2.2.2 (fun _ _ _ h => h)).keep ((Keep.refl (fun _ => False) X).alloc _) (fun _ _ _ h => h))
  intro A6 c6 w6 ho6 hk6 hn6
  have k6 : Keep (fun _ => False) X w6 := ((Keep.refl (fun _ => False) X).alloc (.cells #[] 3 (0, 0))).trans hk6 (fun b hb e => by cases e)
  have O6 := Lib.hid (show Own w6 X.heap.size 3 1 (.slice A6 ng c6) ng (iv gens) from by
    exact ho6)
  have zX : w.heap.size + 2 < X.heap.size := by have := (Array.getElem?_eq_some_iff.1 HX.out.2.2.1).1; omega
  clear ho6 hk6 hn6 x2'
  have z6 := k6.size
  go_wp2_with (first
    | (at_builtin; refine wpList_intA (by rfl) _ _ (by rfl) X.heap.size _ ng (iv gens) (by rfl) (O6.out.keep ((Keep.refl (fun _ => False) w6).alloc _) (fun _ _ h => h)) _ 1 (iv [0]) (by rfl) (src_at Tryz.underlying25 (x := .int .i64 0) rfl (by simp)) (by omega) (by simp; omega) ?_)
    | fail)
  intro A7 c7 w7 ho7 hk7 hn7
  have k7 : Keep (fun b => ownB (Value.slice A6 ng c6) = some b) X w7 := (k6.mono (fun _ _ h => h.elim)).trans (((Keep.refl (fun b => ownB (Value.slice A6 ng c6) = some b) w6).alloc _).trans hk7 (fun _ _ h => h)) (fun _ _ h => h)
  have nown : ∀ b, b < X.heap.size → ¬ ownB (Value.slice A6 ng c6) = some b := fun b hb e => by have := (O6.out.ownB b e).1; omega
  have HB7 := Lib.hid (And.intro ((k7.block w.heap.size (by omega) (nown _ (by omega))).trans HX.out.1) (And.intro ((k7.block (w.heap.size + 1) (by omega) (nown _ (by omega))).trans HX.out.2.1) (And.intro ((k7.block (w.heap.size + 1 + 1) (by omega) (nown _ (by omega))).trans HX.out.2.2.1) (HX.out.2.2.2.trans k7 (fun b hb e => nown b (by omega) e)))))
  have O7 := Lib.hid (show Own w7 X.heap.size 3 1 (.slice A7 (ng + 1) c7) (ng + 1) (iv (gens ++ [0])) from by
    have e : iv (gens ++ [0]) = iv gens ++ iv [0] := by simp [iv]
    rw [e]; exact ho7)
  clear ho7 hk7 hn7 k7 nown x0 x1 x2 x3 xf y0 y1 y2 y3 yf z0 z1 zf
  obtain ⟨x0, x1, x2, x3, xf⟩ := cells4 HB7.out.1
  have hbase : w.heap.size + 2 < X.heap.size := zX
  generalize hn1 : ng + 1 = n1 at *
  have s1 : (n1 : Int) - 1 = (ng : Int) := by omega
  have s2 : wrap64 (ng : Int) = (ng : Int) := by unfold wrap64; omega
  have S3 := Lib.hid (show IntKind.i64.wrap (ng : Int) = (ng : Int) from by rw [IntKind.wrap_i64]; omega)
  go_upto_region 9 with fail
  have ky : Keep (fun b => b = w.heap.size) w7 (w7.setCell ⟨w.heap.size, 2, none⟩ (.slice A7 n1 c7)) := Keep.setCell (p := ⟨w.heap.size, 2, none⟩) (Keep.refl (fun b => b = w.heap.size) w7) (.inr rfl) _
  refine wp_world (S := fun Y => Y.heap[w.heap.size]? = some (.cells #[.int .i64 ents, .int .i64 lim, .slice A7 n1 c7, .slice Af 0 cf] 93 (0, 0)) ∧ Y.heap[w.heap.size + 1]? = some (.cells #[.int .i64 0, .int .i64 0, .slice none 0 0, .slice none 0 0] 93 (0, 0)) ∧ Y.heap[w.heap.size + 1 + 1]? = some (.cells #[.int .i64 0, .int .i64 0] 40 (0, 0)) ∧ Keep (fun _ => False) w Y ∧ Own Y X.heap.size 3 1 (.slice A7 n1 c7) n1 (iv (gens ++ [0])))
    ⟨heap_setCell_same w7 w.heap.size 2 _ _ _ HB7.out.1, (ky.block _ (Array.getElem?_eq_some_iff.1 HB7.out.2.1).1 (fun h => by have : w.heap.size + 1 = w.heap.size := h; omega)).trans HB7.out.2.1, (ky.block _ (Array.getElem?_eq_some_iff.1 HB7.out.2.2.1).1 (fun h => by have : w.heap.size + 1 + 1 = w.heap.size := h; omega)).trans HB7.out.2.2.1, HB7.out.2.2.2.trans ky (fun b hb h => by have : b = w.heap.size := h; omega), O7.out.keep ky (fun b e h => by have := (O7.out.ownB b e).1; have : b = w.heap.size := h; omega)⟩ ?_
  rintro Y ⟨h1, h2, h3, h4, h5⟩
  have HY := Lib.hid (And.intro h1 (And.intro h2 (And.intro h3 h4)))
  have OY := Lib.hid h5
  clear x0 x1 x2 x3 xf ky h5
  obtain ⟨x0, x1, x2, x3, xf⟩ := cells4 h1
  obtain ⟨y0, y1, y2, y3, yf⟩ := cells4 h2
  obtain ⟨z0, z1, zf⟩ := cells2 h3
  clear h1 h2 h3 h4
  go_cut [4] (fun t wx => t = .int .i64 0 ∧ Hid (TkEnd w (.int .i64 ents) (.int .i64 lim) (.slice A7 n1 c7) (.slice Af 0 cf) (.int .i64 (ng : Int)) (.int .i64 0) wx ∧ Own wx X.heap.size 3 1 (.slice A7 n1 c7) n1 (iv (gens ++ [0]))))
  case first =>
    go_region_law (fail)
    all_goals
      go_wp2_with fail
      go_meet
      have te := TkEnd.drew (TkEnd.one (c0 := .int .i64 ents) (c1 := .int .i64 lim) (c2 := .slice A7 n1 c7) (c3 := .slice Af 0 cf) (d0 := .int .i64 (ng : Int)) (d1 := .int .i64 0) HY.out.2.1 HY.out.2.2.1 HY.out.2.2.2)
      rw [S3.out]
      have kz := (((keep4 Y (w.heap.size + 1) (.int .i64 ents) (.int .i64 lim) (.slice A7 n1 c7) (.slice Af 0 cf)).mono (T := fun b => b < X.heap.size) (fun b _ h => by have : b = w.heap.size + 1 := h; omega)).trans ((keep2 _ (w.heap.size + 1 + 1) (.int .i64 (ng : Int)) (.int .i64 0)).mono (T := fun b => b < X.heap.size) (fun b _ h => by have : b = w.heap.size + 1 + 1 := h; omega)) (fun _ _ h => h)).drew
      exact ⟨rfl, Lib.hid ⟨te, OY.out.keep kz (fun b e h => by have := (OY.out.ownB b e).1; have : b < X.heap.size := h; omega)⟩⟩
  case rest =>
    obtain ⟨rfl, hend⟩ := hcut
    subst hn1
    go_wp2
    refine bodyPost_ret (results_take Tryz.results114 _ _ (w.heap.size + 1) (w.heap.size + 1 + 1) (.int .i64 ents) (.int .i64 lim) (.slice A7 (ng + 1) c7) (.slice Af 0 cf) (.int .i64 (ng : Int)) (.int .i64 0) ?_ hend.out.1.1 ?_ hend.out.1.2.1 (.int .i64 0) ?_) ?_ ⟨A7, c7, ?_, ?_, ?_⟩
    · rfl
    · rfl
    · rfl
    · rfl
    · rfl
    · exact (hend.out.2.sl).mono (fun b _ h => by have : X.heap.size ≤ b := h; omega)
    · exact ((hend.out.1.2.2.mono (T := fun b => w.heap.size ≤ b) (fun _ _ h => h.elim)).to_below (Nat.le_refl _))
end Go.Proofs.YtglliendhbkkhaaGreatDoor
namespace Go.Proofs.YtglliendhbkkhaaGreatDoor
open Go.RowKit
set_option maxRecDepth 100000
set_option linter.unusedVariables false
set_option linter.unusedSimpArgs false

theorem r11_part (P : List PtZ) (z : Int) (u : Value) (F : Nat → Prop) (w : World) (hu : NS parN w F u P) :
    Calls Tryz.prog 113 #[u, .int .i64 z] w fun e w' => e = .returned (.int .i64 (match partR P z with | some p => (p : Int) | none => -1)) ∧ Keep (fun _ => False) w w' := by
  have HU := Lib.hid hu
  obtain ⟨A, c, rfl, h2, h1⟩ := hu.form
  unfold maxLen at h2
  obtain ⟨res, hres⟩ : ∃ r : Int, (match partR P z with | some p => (p : Int) | none => -1) = r := ⟨_, rfl⟩
  rw [hres]
  obtain ⟨n, hn⟩ : ∃ n, P.length = n := ⟨_, rfl⟩
  have YES := Lib.hid (show ∀ (k : Nat) (y : PtZ), P[k]? = some y → y.comp = z → (∀ (j : Nat) (x : PtZ), j < k → P[j]? = some x → x.comp ≠ z) → res = (k : Int) from fun k y hy hx hb => by
    obtain ⟨hk, e⟩ := List.getElem?_eq_some_iff.1 hy
    have : partR P z = some k := by
      unfold partR
      rw [List.findIdx?_eq_some_iff_getElem]
      refine ⟨hk, by rw [e]; exact decide_eq_true hx, fun j hj => ?_⟩
      have := hb j _ hj (List.getElem?_eq_getElem (by omega))
      simpa using this
    rw [← hres, this])
  have NO := Lib.hid (show (∀ (j : Nat) (x : PtZ), j < n → P[j]? = some x → x.comp ≠ z) → res = -1 from fun hb => by
    have : partR P z = none := by
      unfold partR
      rw [List.findIdx?_eq_none_iff]
      intro e he
      obtain ⟨j, hj⟩ := List.getElem?_of_mem he
      exact decide_eq_false (hb j e (by have := (List.getElem?_eq_some_iff.1 hj).1; omega) hj)
    rw [← hres, this])
  rw [hn] at HU h1 ⊢
  clear hn hres hu
  go_enter Tryz.func113, Tryz.ntmps113
  go_wp2
  go_loopw [5] (fun i wr => ∃ (k : Nat), k ≤ n ∧ i = .int .i64 k ∧ w = wr ∧ Hid (∀ (j : Nat) (x : PtZ), j < k → P[j]? = some x → x.comp ≠ z)) (fun i _ => n - (intOf i).toNat)
  case atStart => exact ⟨0, by omega, rfl, rfl, Lib.hid (fun j x h => by omega)⟩
  case round =>
    obtain ⟨k, hk, rfl, rfl, hb⟩ := hrel
    by_cases hlt : k < n
    · have hi : (k : Int) < (n : Int) := by omega
      have h0 : (0 : Int) ≤ (k : Int) := by omega
      obtain ⟨b, off, x, q, rfl, -, hx, -, hc⟩ := NS.at_ HU.out hlt
      have f0 := hc 0 _ rfl
      simp only [show parN.m = 2 from rfl, Nat.add_zero] at f0
      have Y1 := Lib.hid (YES.out k x hx)
      have B1 := Lib.hid (show x.comp ≠ z → ∀ (j : Nat) (y : PtZ), j < k + 1 → P[j]? = some y → y.comp ≠ z from fun hne j y hj hy => by
        rcases Nat.lt_or_ge j k with h | h
        · exact hb.out j y h hy
        · obtain rfl : j = k := by omega
          rw [hx] at hy
          injection hy with hy
          rw [← hy]; exact hne)
      clear hc hx
      obtain ⟨cc, dat⟩ := x
      simp only at f0 Y1 B1
      by_cases he : cc = z
      · subst he
        have RS := Lib.hid (Y1.out rfl hb.out)
        have ex : (cc == cc) = true := by simp
        go_wp2
        go_ret
        exact ⟨congrArg (fun z => Ending.returned (Value.int .i64 z)) RS.out.symm, Keep.refl _ _⟩
      · have B2 := Lib.hid (B1.out he)
        have ex : (cc == z) = false := by simpa using he
        go_wp2
        go_roundw
        case rel => exact ⟨k + 1, by omega, by go_num, by first | rfl | trivial, B2⟩
        case measure => simp [intOf]; omega
    · obtain rfl : k = n := by omega
      have hi : ¬ (k : Int) < (k : Int) := by omega
      have RS := Lib.hid (NO.out hb.out)
      go_wp2
      go_ret
      exact ⟨congrArg (fun z => Ending.returned (Value.int .i64 z)) RS.out.symm, Keep.refl _ _⟩
end Go.Proofs.YtglliendhbkkhaaGreatDoor
namespace Go.Proofs.YtglliendhbkkhaaGreatDoor
open Go.RowKit
set_option maxRecDepth 100000
set_option linter.unusedVariables false
set_option linter.unusedSimpArgs false

section
variable {α β : Type} {N : Nst α β} {w w' : World} {F G S X : Nat → Prop} {u u' : Value} {l R L : List α} {B : Nat} {e : TypeId}
theorem flatN_take (L : List (α × β)) : ∀ k, (L.flatMap N.cells).take (k * N.m) = (L.take k).flatMap N.cells := by
  induction L with
  | nil => intro k; simp
  | cons y L ih =>
    intro k
    cases k with
    | zero => simp
    | succ k => rw [List.take_succ_cons, List.flatMap_cons, List.flatMap_cons, ← ih k, Nat.succ_mul, Nat.add_comm (k * N.m), show N.m = (N.cells y).length from (N.len y).symm, List.take_length_add_append]
theorem flatN_drop (L : List (α × β)) : ∀ k, (L.flatMap N.cells).drop (k * N.m) = (L.drop k).flatMap N.cells := by
  induction L with
  | nil => intro k; simp
  | cons y L ih =>
    intro k
    cases k with
    | zero => simp
    | succ k => rw [List.drop_succ_cons, List.flatMap_cons, ← ih k, Nat.succ_mul, Nat.add_comm (k * N.m), show N.m = (N.cells y).length from (N.len y).symm, List.drop_length_add_append]
theorem NS.piece {A A' : Option Addr} {n c c' lo m : Nat} (h : NS N w F (.slice A n c) l) (hl : lo + m ≤ l.length) (hA : 0 < m → ∀ a, A = some a → A' = some (a.add (lo * N.m))) (hmc : m ≤ c') (hc : c' ≤ maxLen) (hn : A' = none → c' = 0) : NS N w F (.slice A' m c') ((l.drop lo).take m) := by
  obtain ⟨us, h1, ⟨A1, c1, ev, h2, h3, h4, h5⟩, h6⟩ := h
  injection ev with e1 e2 e3
  subst e1 e3
  have hz : ((l.drop lo).take m).zip ((us.drop lo).take m) = ((l.zip us).drop lo).take m := by
    unfold List.zip
    rw [List.drop_zipWith, List.take_zipWith]
  have hlz : (l.zip us).length = l.length := by simp [h1]
  have hlm : (((l.zip us).drop lo).take m).length = m := by rw [List.length_take, List.length_drop, hlz]; omega
  have hp := h4.piece (size := N.m) (lo := lo) (hi := lo + m) (by omega) (by rw [hlz]; exact Nat.mul_le_mul_right _ hl) (A' := A') (fun b off eA hlt => by
    rw [hA (by omega) _ eA]
    unfold Addr.add
    simp)
  rw [show lo + m - lo = m by omega, flatN_drop, flatN_take] at hp
  refine ⟨(us.drop lo).take m, by simp [h1], ?_, fun i x v hx hv => ?_⟩
  · rw [hz]
    refine ⟨A', c', by rw [hlm], by rw [hlm]; exact hmc, hc, by rw [hlm]; exact hp, hn⟩
  · rw [List.getElem?_take] at hx hv
    split at hx
    · rename_i hi
      rw [if_pos hi] at hv
      rw [List.getElem?_drop] at hx hv
      exact h6 _ x v hx hv
    · cases hx
theorem NS.src {P : Program} {t e' : TypeId} {A : Option Addr} {n c : Nat} (h : NS N w F (.slice A n c) l) (ht : P.underlying t = some (.slice e')) :
    l.length = n ∧ ∃ us : List β, us.length = l.length ∧ (∀ (i : Nat) x v, l[i]? = some x → us[i]? = some v → N.inn w F x v) ∧ Src P N.m t (.slice A n c) n ((l.zip us).flatMap N.cells) w := by
  obtain ⟨us, h1, ⟨A1, c1, ev, h2, h3, h4, h5⟩, h6⟩ := h
  injection ev with e1 e2 e3
  subst e1 e3
  have hlz : (l.zip us).length = l.length := by simp [h1]
  rw [hlz] at e2
  refine ⟨e2.symm, us, h1, h6, ?_⟩
  rw [hlz, ← e2] at h4
  refine Rd.src (c := c) h4 ht (fun u hu => ?_) N.pos
  obtain ⟨p, hp, hu⟩ := List.mem_flatMap.1 hu
  obtain ⟨i, hi⟩ := List.mem_iff_getElem?.1 hp
  have := List.getElem?_zip_eq_some.1 hi
  exact N.one (h6 i p.1 p.2 this.1 this.2) u hu
theorem NBX.joins {us vs : List β} (h1 : us.length = R.length) (h3 : ∀ (i : Nat) x v, R[i]? = some x → us[i]? = some v → N.inn w (fun b => X b ∧ ownB u ≠ some b) x v)
    (hL : vs.length = L.length) (hi : ∀ (i : Nat) x v, L[i]? = some x → vs[i]? = some v → N.inn w (fun b => X b ∧ ownB u ≠ some b) x v)
    (ho : Own w' B e N.m u' (R.length + L.length) ((R.zip us).flatMap N.cells ++ (L.zip vs).flatMap N.cells)) (hk : Keep (fun k => ownB u = some k) w w') (hn : ∀ k, ownB u' = some k → ownB u = some k ∨ w.heap.size ≤ k) : NBX N X B e w' u' (R ++ L) := by
  have hz : (R ++ L).zip (us ++ vs) = R.zip us ++ L.zip vs := List.zip_append h1.symm
  have mv : ∀ (y : α) (q : β), N.inn w (fun b => X b ∧ ownB u ≠ some b) y q → N.inn w' (fun b => X b ∧ ownB u' ≠ some b) y q := fun y q h =>
    N.mono (N.keep (N.mono (G := fun b => (X b ∧ ownB u ≠ some b) ∧ b < w.heap.size) h (fun b hb h => ⟨h, hb⟩)) hk (fun b _ h e => h.1.2 e)) (fun b _ h => ⟨h.1.1, fun e => by
      rcases hn b e with e | e
      · exact h.1.2 e
      · have := h.2; omega⟩)
  refine ⟨us ++ vs, by rw [List.length_append, List.length_append, h1, hL], ?_, fun i x p hx hp => ?_⟩
  · rw [hz, List.flatMap_append, List.length_append]
    exact ho
  · rcases Nat.lt_or_ge i R.length with hi' | hi'
    · rw [List.getElem?_append_left hi'] at hx
      rw [List.getElem?_append_left (by omega)] at hp
      exact mv x p (h3 i x p hx hp)
    · rw [List.getElem?_append_right hi'] at hx
      rw [List.getElem?_append_right (by omega), h1] at hp
      exact mv x p (hi _ x p hx hp)
end
section
variable {α β : Type} {P : Program} {ops : Array Oper} {rest : List Oper} {o : Oper} {a : Act} {w : World} {Q : Exit → Act → World → Prop}
/-- append(u, v...) of a list of one's own and any list. -/
theorem wpList_joins (hgd : Region.wanted o (yielded ops a.tmps) = true) (s x : Operand) (t : TypeId) (ho : o.op = .call { callee := .builtin .append, args := #[s, x], argTypes := #[t, t] })
    (N : Nst α β) (X G : Nat → Prop) (B : Nat) (e : TypeId) (i : TypeInfo) (z : Value) (bytes : Nat) (ht : P.underlying t = some (.slice e)) (hi : P.info? e = some i) (hz : i.zero = some z) (hsize : i.size = N.m) (hby : i.bytes = bytes) (hzs : z.cells.size = N.m)
    (v : Value) (R L : List α) (n m : Nat) (hn : R.length = n) (hm : L.length = m) (hv : a.eval s = v) (hnb : NBX N X B e w v R) (A : Option Addr) (c : Nat) (hy : a.eval x = .slice A m c) (hL : NS N w G (.slice A m c) L) (hG : ∀ b, b < w.heap.size → G b → X b ∧ ownB v ≠ some b)
    (h63 : n + m ≤ maxLen) (hbytes : (n + m) * bytes ≤ 140737488355328) (hB : B ≤ w.heap.size)
    (h : ∀ A c w', NBX N X B e w' (.slice A (n + m) c) (R ++ L) → Keep (fun k => ownB v = some k) w w' → (∀ k, ownB (.slice A (n + m) c) = some k → ownB v = some k ∨ w.heap.size ≤ k) → wpList P ops Q rest (a.put o.dst (.slice A (n + m) c)) w') : wpList P ops Q (o :: rest) a w := by
  subst hn
  obtain ⟨us, h1, h2, h3⟩ := hnb
  obtain ⟨hl, vs, g1, g2, g3⟩ := hL.src ht
  subst hm
  refine wpList_append_gen w hgd s x t t ho B e i z N.m bytes ht hi hz hsize hby hzs v R.length _ hv h2 _ L.length _ hy g3 h63 hbytes hB ?_
  intro v' w' ho' hk hn
  obtain ⟨A', c', rfl, _⟩ := ho'.form
  exact h A' c' w' (NBX.joins h1 h3 g1 (fun i x v hx hv => N.mono (g2 i x v hx hv) hG) ho' hk hn) hk hn
end
end Go.Proofs.YtglliendhbkkhaaGreatDoor
namespace Go.Proofs.YtglliendhbkkhaaGreatDoor
open Go.RowKit
set_option maxRecDepth 100000
set_option linter.unusedVariables false
set_option linter.unusedSimpArgs false

theorem Own.setG {w : World} {B g n d k m : Nat} {e : TypeId} {xs : List Value} {x : Value} (h : Own w B e m (.slice (some ⟨g, 0, none⟩) n d) n xs) (hd : 0 < d) : Own (w.setCell ⟨g, k, none⟩ x) B e m (.slice (some ⟨g, 0, none⟩) n d) n (xs.set k x) := by
  obtain ⟨hl, A, c, hv, hnc, hcm, hg⟩ := h
  injection hv with e1 e2 e3
  subst e1 e3
  obtain ⟨g', cur, eg, hb, hgg, hcs, htk⟩ := hg hd
  injection eg with eg
  injection eg with eg
  subst eg
  refine ⟨by rw [List.length_set]; exact hl, _, d, rfl, hnc, hcm, fun _ => ⟨g, cur.setIfInBounds k x, rfl, hb, heap_setCell_same w g k _ _ x hgg, by simpa using hcs, ?_⟩⟩
  rw [Array.toList_setIfInBounds, List.take_set, htk]
theorem Own.atG {w : World} {B g n d m : Nat} {e : TypeId} {xs : List Value} (h : Own w B e m (.slice (some ⟨g, 0, none⟩) n d) n xs) (hd : 0 < d) : (∀ i u, xs[i]? = some u → w.cell? ⟨g, i, none⟩ = some u) ∧ ∀ i, w.frozen? ⟨g, i, none⟩ = false := by
  obtain ⟨hl, A, c, hv, hnc, hcm, hg⟩ := h
  injection hv with e1 e2 e3
  subst e1 e3
  obtain ⟨g', cur, eg, hb, hgg, hcs, htk⟩ := hg hd
  injection eg with eg
  injection eg with eg
  subst eg
  refine ⟨fun i u hu => ?_, fun i => frozen_of_row w g i _ _ hgg⟩
  rw [cell_of_row w g i _ _ _ hgg]
  rw [← htk, List.getElem?_take] at hu
  split at hu
  · simpa using hu
  · cases hu
theorem flat_set3 : ∀ (l : List (EnZ × Value)) (r : Nat) (x : EnZ × Value), r < l.length → (l.set r x).flatMap entN.cells = (((l.flatMap entN.cells).set (r * 3) (.int .i64 x.1.id.ix)).set (r * 3 + 1) (.int .i64 x.1.id.gen)).set (r * 3 + 2) x.2
  | [], _, _, h => by simp at h
  | y :: l, 0, x, _ => by simp [entN]
  | y :: l, r + 1, x, h => by
    have ih := flat_set3 l r x (by simpa using h)
    rw [List.set_cons_succ, List.flatMap_cons, ih, List.flatMap_cons, show (r + 1) * 3 + 2 = (r * 3 + 2) + 3 by omega, show (r + 1) * 3 + 1 = (r * 3 + 1) + 3 by omega, show (r + 1) * 3 = r * 3 + 3 by omega]
    simp [entN]
theorem flat_take3 (l : List (EnZ × Value)) (k : Nat) : (l.flatMap entN.cells).take (k * 3) = (l.take k).flatMap entN.cells := by
  induction l generalizing k with
  | nil => simp
  | cons x l ih =>
    cases k with
    | zero => simp
    | succ k => rw [List.take_succ_cons, List.flatMap_cons, List.flatMap_cons, ← ih k, show (k + 1) * 3 = (entN.cells x).length + k * 3 by rw [entN.len]; show (k + 1) * 3 = 3 + k * 3; omega, List.take_append, List.take_of_length_le (Nat.le_add_right _ _)]; simp
theorem zip_set {α β : Type} : ∀ (l : List α) (us : List β) (r : Nat) (x : α) (q : β), (l.set r x).zip (us.set r q) = (l.zip us).set r (x, q)
  | [], us, r, x, q => by simp
  | a :: l, [], r, x, q => by simp
  | a :: l, u :: us, 0, x, q => by simp
  | a :: l, u :: us, r + 1, x, q => by simp [zip_set l us r x q]
theorem zip_take {α β : Type} : ∀ (l : List α) (us : List β) (k : Nat), (l.take k).zip (us.take k) = (l.zip us).take k
  | [], us, k => by simp
  | a :: l, [], k => by simp
  | a :: l, u :: us, 0 => by simp
  | a :: l, u :: us, k + 1 => by simp [zip_take l us k]
/-- The rows that a call has copied into block g, n of c; what they lead to lies in blocks of F. -/
structure Rw (W : World) (B g n c : Nat) (F : Nat → Prop) (rows : List EnZ) (us : List Value) : Prop where
  pos : 0 < n
  le : n ≤ c
  len : rows.length = n
  ulen : us.length = rows.length
  own : Own W B 89 3 (.slice (some ⟨g, 0, none⟩) n c) n ((rows.zip us).flatMap entN.cells)
  inn : ∀ (i : Nat) x q, rows[i]? = some x → us[i]? = some q → NS parN W F q x.parts
  ng : ∀ b, F b → b ≠ g
section
variable {W W' : World} {B g n c : Nat} {F S : Nat → Prop} {rows : List EnZ} {us : List Value}
theorem Rw.keep (h : Rw W B g n c F rows us) (hk : Keep S W W') (hg : ¬ S g) (hs : ∀ b, b < W.heap.size → F b → ¬ S b) : Rw W' B g n c F rows us :=
  ⟨h.pos, h.le, h.len, h.ulen, h.own.keep hk (fun k e hS => by
    have hlt := h.pos
    have hle := h.le
    obtain ⟨d, rfl⟩ : ∃ d, c = d + 1 := ⟨c - 1, by omega⟩
    obtain rfl : g = k := by simpa [ownB] using e
    exact hg hS), fun i x q hx hq => (h.inn i x q hx hq).keep hk hs, h.ng⟩
theorem Rw.at_ (h : Rw W B g n c F rows us) {k : Nat} (hk : k < n) : ∃ x q, rows[k]? = some x ∧ us[k]? = some q ∧ NS parN W F q x.parts ∧ W.cell? ⟨g, k * 3, none⟩ = some (.int .i64 x.id.ix) ∧ W.cell? ⟨g, k * 3 + 1, none⟩ = some (.int .i64 x.id.gen) ∧ W.cell? ⟨g, k * 3 + 2, none⟩ = some q ∧ W.frozen? ⟨g, k * 3, none⟩ = false ∧ W.frozen? ⟨g, k * 3 + 1, none⟩ = false ∧ W.frozen? ⟨g, k * 3 + 2, none⟩ = false := by
  have hle := h.le
  have h1 : k < rows.length := by rw [h.len]; exact hk
  have h2 : k < us.length := by rw [h.ulen]; exact h1
  have e1 := List.getElem?_eq_getElem h1
  have e2 := List.getElem?_eq_getElem h2
  have ez : (rows.zip us)[k]? = some (rows[k], us[k]) := List.getElem?_zip_eq_some.2 ⟨e1, e2⟩
  obtain ⟨hc, hf⟩ := h.own.atG (by omega)
  exact ⟨_, _, e1, e2, h.inn k _ _ e1 e2, hc _ _ (flat_at (f := entN.cells) (m := 3) (j := 0) entN.len ez rfl), hc _ _ (flat_at (f := entN.cells) (m := 3) (j := 1) entN.len ez rfl), hc _ _ (flat_at (f := entN.cells) (m := 3) (j := 2) entN.len ez rfl), hf _, hf _, hf _⟩
/-- One row is another. -/
theorem Rw.put (h : Rw W B g n c F rows us) {r : Nat} (hr : r < n) (y : EnZ) (q : Value) (hq : NS parN W F q y.parts) :
    Rw (((W.setCell ⟨g, r * 3, none⟩ (.int .i64 y.id.ix)).setCell ⟨g, r * 3 + 1, none⟩ (.int .i64 y.id.gen)).setCell ⟨g, r * 3 + 2, none⟩ q) B g n c F (rows.set r y) (us.set r q) ∧
    Keep (fun b => b = g) W (((W.setCell ⟨g, r * 3, none⟩ (.int .i64 y.id.ix)).setCell ⟨g, r * 3 + 1, none⟩ (.int .i64 y.id.gen)).setCell ⟨g, r * 3 + 2, none⟩ q) := by
  have hk : Keep (fun b => b = g) W (((W.setCell ⟨g, r * 3, none⟩ (.int .i64 y.id.ix)).setCell ⟨g, r * 3 + 1, none⟩ (.int .i64 y.id.gen)).setCell ⟨g, r * 3 + 2, none⟩ q) :=
    Keep.setCell (S := fun b => b = g) (p := ⟨g, r * 3 + 2, none⟩) (Keep.setCell (S := fun b => b = g) (p := ⟨g, r * 3 + 1, none⟩) (Keep.setCell (S := fun b => b = g) (p := ⟨g, r * 3, none⟩) (Keep.refl _ _) (.inr rfl) _) (.inr rfl) _) (.inr rfl) _
  have hl := h.len
  have hle := h.le
  have hpos := h.pos
  refine ⟨⟨h.pos, h.le, by rw [List.length_set]; exact h.len, by rw [List.length_set, List.length_set]; exact h.ulen, ?_, fun i x p hx hp => ?_, h.ng⟩, hk⟩
  · rw [zip_set, flat_set3 _ _ _ (by rw [List.length_zip, h.ulen, Nat.min_self, h.len]; exact hr)]
    exact ((h.own.setG (by omega)).setG (by omega)).setG (by omega)
  · have mv : ∀ (x : EnZ) (p : Value), NS parN W F p x.parts → NS parN (((W.setCell ⟨g, r * 3, none⟩ (.int .i64 y.id.ix)).setCell ⟨g, r * 3 + 1, none⟩ (.int .i64 y.id.gen)).setCell ⟨g, r * 3 + 2, none⟩ q) F p x.parts := fun x p hp => hp.keep hk (fun b _ hF e => h.ng b hF e)
    by_cases e : i = r
    · subst e
      rw [List.getElem?_set_self (by omega)] at hx
      rw [List.getElem?_set_self (by rw [h.ulen]; omega)] at hp
      obtain rfl := Option.some.inj hx
      obtain rfl := Option.some.inj hp
      exact mv _ _ hq
    · rw [List.getElem?_set_ne (Ne.symm e)] at hx hp
      exact mv _ _ (h.inn i x p hx hp)
/-- Its first k rows. -/
theorem Rw.ns (h : Rw W B g n c F rows us) {k : Nat} (hk : k ≤ n) : NS entN W (fun b => F b ∨ B ≤ b) (.slice (some ⟨g, 0, none⟩) k c) (rows.take k) := by
  have hl := h.len
  refine ⟨us.take k, by rw [List.length_take, List.length_take, h.ulen], ?_, fun i x q hx hq => ?_⟩
  · have h2 := h.own.take hk
    rw [flat_take3, ← zip_take] at h2
    have h4 : Own W B 89 entN.m (.slice (some ⟨g, 0, none⟩) k c) ((rows.take k).zip (us.take k)).length (((rows.take k).zip (us.take k)).flatMap entN.cells) := by
      rw [List.length_zip, List.length_take, List.length_take, h.ulen, Nat.min_self, hl, Nat.min_eq_left hk]; exact h2
    exact (Own.ml (n := 0) entN.pos entN.len h4).mono (fun b _ h => .inr h)
  · have hik : i < k := by
      have := (List.getElem?_eq_some_iff.1 hx).1
      rw [List.length_take] at this; omega
    rw [List.getElem?_take_of_lt hik] at hx hq
    show NS parN W _ q x.parts
    exact NS.mono (h.inn i x q hx hq) (fun _ _ h => .inl h)
theorem Rw.all (h : Rw W B g n c F rows us) : NS entN W (fun b => F b ∨ B ≤ b) (.slice (some ⟨g, 0, none⟩) n c) rows := by
  have := h.ns (Nat.le_refl n)
  rwa [← h.len, List.take_length, h.len] at this
end
theorem NBX.rw {w : World} {X : Nat → Prop} {B n c : Nat} {A : Option Addr} {R : List EnZ} (h : NBX entN X B 89 w (.slice A n c) R) (h0 : 0 < n) : ∃ g us, A = some ⟨g, 0, none⟩ ∧ B ≤ g ∧ g < w.heap.size ∧ ownB (.slice A n c) = some g ∧ Rw w B g n c (fun b => X b ∧ b ≠ g) R us := by
  have hl := h.lenS
  subst hl
  obtain ⟨us, h1, h2, h3⟩ := h
  have ho' := h2
  obtain ⟨hl, A', c', hv, hnc, hcm, hg⟩ := ho'
  injection hv with e1 e2 e3
  subst e1 e3
  obtain ⟨g, cur, rfl, hb, hgg, hcs, htk⟩ := hg (by omega)
  have ho : ownB (.slice (some ⟨g, 0, none⟩) R.length c) = some g := by
    obtain ⟨c', rfl⟩ : ∃ c', c = c' + 1 := ⟨c - 1, by omega⟩
    rfl
  exact ⟨g, us, rfl, hb, (Array.getElem?_eq_some_iff.1 hgg).1, ho, h0, hnc, rfl, h1, h2, fun i x q hx hq => NS.mono (h3 i x q hx hq) (fun b _ h => ⟨h.1, fun e => h.2 (by rw [ho, e])⟩), fun b h => h.2⟩
end Go.Proofs.YtglliendhbkkhaaGreatDoor
namespace Go.Proofs.YtglliendhbkkhaaGreatDoor
open Go.RowKit
set_option maxRecDepth 100000
set_option linter.unusedVariables false
set_option linter.unusedSimpArgs false

theorem keep3R (w : World) (p : Nat) (x y z : Value) : Keep (fun b => b = p) w (((w.setCell ⟨p, 0, none⟩ x).setCell ⟨p, 1, none⟩ y).setCell ⟨p, 2, none⟩ z) :=
  Keep.setCell (p := ⟨p, 2, none⟩) (Keep.setCell (p := ⟨p, 1, none⟩) (Keep.setCell (p := ⟨p, 0, none⟩) (Keep.refl (fun b => b = p) w) (.inr rfl) _) (.inr rfl) _) (.inr rfl) _
theorem r11_with (s : SZ) (x : EnZ) (pv : Value) (i : Nat) (hi : i < s.ents.length) (u : Value) (F : Nat → Prop) (w : World) (hu : StM w F u s) (hp : NS parN w F pv x.parts) (h24 : s.ents.length ≤ 1024) :
    Calls Tryz.prog 112 #[u, .int .i64 (i : Int), .agg #[.int .i64 x.id.ix, .int .i64 x.id.gen, pv]] w fun e w' => ∃ u', e = .returned u' ∧ StM w' (fun b => (F b ∧ b < w.heap.size) ∨ w.heap.size ≤ b) u' ⟨s.gens, s.free, s.ents.set i x⟩ ∧ Below w.heap.size w w' := by
  have HU := Lib.hid hu
  obtain ⟨A1, c1, A2, c2, A3, c3, rfl, h1, h2, h3, h4, h5, h6, g1, g2, g3⟩ := hu.form
  have HP := Lib.hid hp
  obtain ⟨A4, c4, rfl, -, -⟩ := hp.form
  have HG := Lib.hid (show NS entN w (fun b => F b ∧ b < w.heap.size) (.slice A3 s.ents.length c3) s.ents from g3.mono (fun b hb h => ⟨h, hb⟩))
  have HGG := Lib.hid (And.intro (g1.mono (G := fun b => F b ∧ b < w.heap.size) (fun b hb h => ⟨h, hb⟩)) (g2.mono (G := fun b => F b ∧ b < w.heap.size) (fun b hb h => ⟨h, hb⟩)))
  have HPP := Lib.hid (hp.mono (G := fun b => F b ∧ b < w.heap.size) (fun b hb h => ⟨h, hb⟩))
  obtain ⟨gens, free, ents⟩ := s
  obtain ⟨⟨ix, gn⟩, parts⟩ := x
  simp only at *
  unfold maxLen at *
  clear hu hp g1 g2 g3 HU HP h1 h2 h3 h4 h6
  obtain ⟨n, hn⟩ : ∃ n, ents.length = n := ⟨_, rfl⟩
  have HN := Lib.hid hn
  rw [hn] at HG h5 h24 hi ⊢
  clear hn
  obtain ⟨ie, hie, hi0, hi1, hi2⟩ := info_parts info_ent
  go_enter Tryz.func112, Tryz.ntmps112
  go_upto_region 1 with fail
  refine wp_world (S := fun X => X.heap[w.heap.size]? = some (.cells #[.slice A1 gens.length c1, .slice A2 free.length c2, .slice A3 n c3] 28 (0, 0)) ∧ X.heap[w.heap.size + 1]? = some (.cells #[.int .i64 ix, .int .i64 gn, .slice A4 parts.length c4] 89 (0, 0)) ∧ X.heap[w.heap.size + 1 + 1]? = some (.cells #[.slice none 0 0, .slice none 0 0, .slice none 0 0] 28 (0, 0)) ∧ Keep (fun _ => False) w X) ⟨by rw [Below.heap_alloc _ _ _ (by simp; omega)]; first | (exact heap_alloc_at _ _ _ (by first | rfl | (simp; done))) | (rw [Below.heap_alloc _ _ _ (by simp)]; exact heap_alloc_at _ _ _ (by first | rfl | (simp; done))) | (rw [heap_drew', Below.heap_alloc _ _ _ (by simp)]; exact heap_alloc_at _ _ _ (by first | rfl | (simp; done))) | (rw [heap_drew']; exact heap_alloc_at _ _ _ (by first | rfl | (simp; done))) | fail, by first | (exact heap_alloc_at _ _ _ (by first | rfl | (simp; done))) | (rw [Below.heap_alloc _ _ _ (by simp)]; exact heap_alloc_at _ _ _ (by first | rfl | (simp; done))) | (rw [heap_drew', Below.heap_alloc _ _ _ (by simp)]; exact heap_alloc_at _ _ _ (by first | rfl | (simp; done))) | (rw [heap_drew']; exact heap_alloc_at _ _ _ (by first | rfl | (simp; done))) | fail, by exact heap_alloc_at _ _ _ (by simp), by exact (by repeat first | (with_reducible assumption) | (with_reducible exact Keep.refl _ _) | (with_reducible refine Keep.alloc ?_ _) | (with_reducible refine Keep.drew ?_) | (with_reducible refine Keep.drewN ?_ _) | (with_reducible refine Keep.setCell ?_ (.inl (by first | omega | (simp; done) | (simp; omega) | fail)) _))⟩ ?_
  rintro X ⟨h1, h2, h3, h4⟩
  have HX := Lib.hid (And.intro h1 (And.intro h2 (And.intro h3 h4)))
  have zX : w.heap.size + 2 < X.heap.size := by have := (Array.getElem?_eq_some_iff.1 h3).1; omega
  obtain ⟨x0, x1, x2, xf⟩ := cells3 h1
  have x2' := ((Keep.refl (fun _ => False) X).alloc (.cells #[] 89 (0, 0))).cell (fun h => h) x2
  clear h1 h2 h3 h4
  go_wp2_with (first
    | (at_builtin; refine wpList_joins (by rfl) _ _ _ (by rfl) entN (fun b => F b ∧ b < w.heap.size) (fun b => F b ∧ b < w.heap.size) X.heap.size 89 ie _ 40 Tryz.underlying26 hie hi0 hi1 hi2 rfl _ [] ents 0 n rfl HN.out (by rfl) ⟨[], rfl, Own.none_ _ _ _ _ _, fun i x v h => by simp at h⟩ A3 c3 (by rfl) ?_ (fun b _ h => ⟨h, fun e => by cases e⟩) (by unfold maxLen; omega) (by omega) (by simp) ?_)
    | fail)
  · exact (HG.out.same HX.out.2.2.2).same ((Keep.refl _ X).alloc _)
  intro A6 c6 w6 hn6 hk6 ho6
  have k6 : Keep (fun _ => False) X w6 := ((Keep.refl (fun _ => False) X).alloc (.cells #[] 89 (0, 0))).trans hk6 (fun b hb e => by cases e)
  obtain ⟨g, us, rfl, hg1, hg2, hg3, hrw⟩ := hn6.rw (by omega)
  clear hk6 hn6 ho6 hg3 x2' x0 x1 x2 xf
  have B6 := Lib.hid (And.intro ((k6.block w.heap.size (by omega) (fun h => h)).trans HX.out.1) (And.intro ((k6.block (w.heap.size + 1) (by omega) (fun h => h)).trans HX.out.2.1) (And.intro ((k6.block (w.heap.size + 1 + 1) (by omega) (fun h => h)).trans HX.out.2.2.1) (HX.out.2.2.2.trans k6 (fun _ _ h => h)))))
  have z6 := k6.size
  have RW := Lib.hid hrw
  obtain ⟨x9, q9, -, -, -, r0, r1, r2, fr0, fr1, fr2⟩ := RW.out.at_ hi
  have hle := RW.out.le
  obtain ⟨y0, y1, y2, yf⟩ := cells3 B6.out.2.1
  have e1 : (i : Int) < (n : Int) := by omega
  have e2 : (0 : Int) ≤ (i : Int) := by omega
  have PUT := Lib.hid (RW.out.put hi ⟨⟨ix, gn⟩, parts⟩ (.slice A4 parts.length c4) ((HPP.out.same B6.out.2.2.2).mono (fun b hb h => ⟨h, by have := h.2; omega⟩)))
  clear hrw
  go_upto_region 3 with fail
  refine wp_world (S := fun Y => Y.heap[w.heap.size]? = some (.cells #[.slice A1 gens.length c1, .slice A2 free.length c2, .slice A3 n c3] 28 (0, 0)) ∧ Y.heap[w.heap.size + 1 + 1]? = some (.cells #[.slice none 0 0, .slice none 0 0, .slice none 0 0] 28 (0, 0)) ∧ Keep (fun _ => False) w Y ∧ NS entN Y (fun b => (F b ∧ b < w.heap.size) ∨ X.heap.size ≤ b) (.slice (some ⟨g, 0, none⟩) n c6) (ents.set i ⟨⟨ix, gn⟩, parts⟩))
    ⟨(PUT.out.2.block _ (by omega) (fun h => by have : w.heap.size = g := h; omega)).trans B6.out.1, (PUT.out.2.block _ (by omega) (fun h => by have : w.heap.size + 1 + 1 = g := h; omega)).trans B6.out.2.2.1, B6.out.2.2.2.trans PUT.out.2 (fun b hb h => by have : b = g := h; omega), PUT.out.1.all.mono (fun b _ h => h.elim (fun h => .inl h.1) .inr)⟩ ?_
  rintro Y ⟨h1, h2, h3, h4⟩
  have HY := Lib.hid (And.intro h1 (And.intro h2 (And.intro h3 h4)))
  clear y0 y1 y2 yf r0 r1 r2 fr0 fr1 fr2 e1 e2 PUT
  obtain ⟨x0, x1, x2, xf⟩ := cells3 h1
  obtain ⟨y0, y1, y2, yf⟩ := cells3 h2
  clear h1 h2 h3 h4
  go_wp2
  have ky : Keep (fun b => b = w.heap.size) Y (Y.setCell ⟨w.heap.size, 2, none⟩ (.slice (some ⟨g, 0, none⟩) n c6)) := Keep.setCell (p := ⟨w.heap.size, 2, none⟩) (Keep.refl (fun b => b = w.heap.size) Y) (.inr rfl) _
  have y1 := (ky.block (w.heap.size + 1 + 1) (Array.getElem?_eq_some_iff.1 HY.out.2.1).1 (fun h => by have : w.heap.size + 1 + 1 = w.heap.size := h; omega)).trans HY.out.2.1
  have kz := (keep3R (Y.setCell ⟨w.heap.size, 2, none⟩ (.slice (some ⟨g, 0, none⟩) n c6)) (w.heap.size + 1 + 1) (.slice A1 gens.length c1) (.slice A2 free.length c2) (.slice (some ⟨g, 0, none⟩) n c6))
  have kk := (ky.mono (T := fun b => b = w.heap.size ∨ b = w.heap.size + 1 + 1) (fun _ _ h => .inl h)).trans kz (fun b _ h => .inr h)
  have kw := HY.out.2.2.1.trans kk (fun b hb h => by rcases h with h | h <;> omega)
  refine bodyPost_ret (results_stE Tryz.results112 _ _ (w.heap.size + 1 + 1) (.slice A1 gens.length c1) (.slice A2 free.length c2) (.slice (some ⟨g, 0, none⟩) n c6) ?_ ?_) ?_ ⟨_, rfl, ?_, ?_⟩
  · rfl
  · exact heap_3J y1 _ _ _
  · rfl
  · have key : NS entN _ (fun b => (F b ∧ b < w.heap.size) ∨ X.heap.size ≤ b) (.slice (some ⟨g, 0, none⟩) n c6) (ents.set i ⟨⟨ix, gn⟩, parts⟩) := HY.out.2.2.2.keep kk (fun b _ h e => by
      rcases h with h | h
      · have := h.2; rcases e with e | e <;> omega
      · rcases e with e | e <;> omega)
    refine ⟨_, _, _, rfl, ?_, ?_, ?_⟩
    · exact (HGG.out.1.keep kw (fun _ _ _ h => h)).mono (fun b _ h => .inl h)
    · exact (HGG.out.2.keep kw (fun _ _ _ h => h)).mono (fun b _ h => .inl h)
    · exact key.mono (fun b _ h => h.elim .inl (fun h => .inr (by omega)))
  · exact ((kw.mono (T := fun b => w.heap.size ≤ b) (fun _ _ h => h.elim)).to_below (Nat.le_refl _))
end Go.Proofs.YtglliendhbkkhaaGreatDoor
namespace Go.Proofs.YtglliendhbkkhaaGreatDoor
open Go.RowKit
set_option maxRecDepth 100000
set_option linter.unusedVariables false
set_option linter.unusedSimpArgs false

def placeI (s : SZ) (x : IdZ) : Int := match placeR s x with | some p => (p : Int) | none => -1
def partI (P : List PtZ) (z : Int) : Int := match partR P z with | some p => (p : Int) | none => -1
theorem placeI_none {s : SZ} {x : IdZ} (h : placeR s x = none) : placeI s x = -1 := by unfold placeI; rw [h]
theorem placeI_some {s : SZ} {x : IdZ} {p : Nat} (h : placeR s x = some p) : placeI s x = (p : Int) ∧ p < s.ents.length ∧ ∃ P, s.ents[p]? = some ⟨x, P⟩ ∧ (s.ents.getD p default).parts = P := by
  have h0 := h
  unfold placeR at h
  obtain ⟨h1, h2, -⟩ := List.findIdx?_eq_some_iff_getElem.1 h
  refine ⟨by unfold placeI; rw [h0], h1, (s.ents[p]).parts, ?_, ?_⟩
  · rw [List.getElem?_eq_getElem h1]
    have := of_decide_eq_true h2
    rw [← this]
  · rw [List.getD_eq_getElem?_getD, List.getElem?_eq_getElem h1]; rfl
theorem partI_none {P : List PtZ} {z : Int} (h : partR P z = none) : partI P z = -1 := by unfold partI; rw [h]
theorem partI_some {P : List PtZ} {z : Int} {p : Nat} (h : partR P z = some p) : partI P z = (p : Int) ∧ p < P.length := by
  have h0 := h
  unfold partR at h
  obtain ⟨h1, h2, -⟩ := List.findIdx?_eq_some_iff_getElem.1 h
  exact ⟨by unfold partI; rw [h0], h1⟩
theorem r11_placeI (s : SZ) (x : IdZ) (u : Value) (F : Nat → Prop) (w : World) (hu : StM w F u s) :
    Calls Tryz.prog 87 #[u, .agg #[.int .i64 x.ix, .int .i64 x.gen]] w fun e w' => e = .returned (.int .i64 (placeI s x)) ∧ Keep (fun _ => False) w w' := by
  refine (r11_place s x u F w hu).mono ?_
  rintro e w' ⟨rfl, h⟩
  exact ⟨rfl, h⟩
theorem r11_partI (P : List PtZ) (z : Int) (u : Value) (F : Nat → Prop) (w : World) (hu : NS parN w F u P) :
    Calls Tryz.prog 113 #[u, .int .i64 z] w fun e w' => e = .returned (.int .i64 (partI P z)) ∧ Keep (fun _ => False) w w' := by
  refine (r11_part P z u F w hu).mono ?_
  rintro e w' ⟨rfl, h⟩
  exact ⟨rfl, h⟩
/-- Its size, and whether there is one. -/
theorem r11_size (c : Cf) (u : Value) (F : Nat → Prop) (z : Int) (w : World) (hu : CL w F u c.l) (hz : -9223372036854775808 ≤ z ∧ z ≤ 9223372036854775807) :
    Calls Tryz.prog 40 #[confV c u, .int .i64 z] w fun e w' => e = .returned (.tuple #[.int .i64 ((sizeR c.l z).getD 0), .bool (sizeR c.l z).isSome]) ∧ Keep (fun _ => False) w w' := by
  refine (rsize_any c u F z w hu hz.1 hz.2).mono ?_
  rintro e w' ⟨rfl, h⟩
  refine ⟨?_, Keep.of_below' h⟩
  unfold sizeR
  by_cases e : 0 ≤ z ∧ z < c.l.length
  · rw [if_pos e, if_pos e, decide_eq_true e]; rfl
  · rw [if_neg e, if_neg e, decide_eq_false e]; rfl
theorem results_st2 {fn : Func} {p t : Tmp} (h : fn.results = #[.cell p 28, .tmp t]) (tmps : Array Value) (w : World) (g : Nat) (c0 c1 c2 : Value)
    (hp : tmps.getD p undef = .pointer (some ⟨g, 0, none⟩)) (hg : w.heap[g]? = some (.cells #[c0, c1, c2] 28 (0, 0))) (b : Value) (hb : tmps.getD t undef = b) : (results fn tmps).run Tryz.prog w = .ok (.tuple #[.agg #[c0, c1, c2], b]) w := by
  have hr := run_loadVar_row (P := Tryz.prog) w g 28 28 #[c0, c1, c2] (0, 0) _ hg under_stE rfl size_stE
  have e : (results fn tmps).run Tryz.prog w = ((asAddr (tmps.getD p undef)).run Tryz.prog w).andThen fun a w₁ => ((loadVar 28 a).run Tryz.prog w₁).andThen fun v w₂ => .ok (.tuple #[v, tmps.getD t undef]) w₂ := by
    simp only [results, h]
    simp [Sem.run_bind, Result.andThen]
  rw [e, hp, hb]
  simp [asAddr, hr]
section
variable {α β : Type} {P : Program} {ops : Array Oper} {o : Oper} {a : Act} {w : World} {K : Act → World → Prop} {Q : Exit → Act → World → Prop} {E : Prop}
theorem step_joins (hgd : Region.wanted o (yielded ops a.tmps) = true) (s x : Operand) (t : TypeId) (ho : o.op = .call { callee := .builtin .append, args := #[s, x], argTypes := #[t, t] })
    (N : Nst α β) (X G : Nat → Prop) (B : Nat) (e : TypeId) (i : TypeInfo) (z : Value) (bytes : Nat) (ht : P.underlying t = some (.slice e)) (hi : P.info? e = some i) (hz : i.zero = some z) (hsize : i.size = N.m) (hby : i.bytes = bytes) (hzs : z.cells.size = N.m)
    (v : Value) (R L : List α) (n m : Nat) (hn : R.length = n) (hm : L.length = m) (hv : a.eval s = v) (hnb : NBX N X B e w v R) (A : Option Addr) (c : Nat) (hy : a.eval x = .slice A m c) (hL : NS N w G (.slice A m c) L) (hG : ∀ b, b < w.heap.size → G b → X b ∧ ownB v ≠ some b)
    (h63 : n + m ≤ maxLen) (hbytes : (n + m) * bytes ≤ 140737488355328) (hB : B ≤ w.heap.size)
    (h : ∀ A c w', NBX N X B e w' (.slice A (n + m) c) (R ++ L) → Keep (fun k => ownB v = some k) w w' → (∀ k, ownB (.slice A (n + m) c) = some k → ownB v = some k ∨ w.heap.size ≤ k) → K (a.put o.dst (.slice A (n + m) c)) w') : if Region.wanted o (yielded ops a.tmps) = true then Oper.wp P o a w K Q else E := by
  subst hn
  obtain ⟨us, h1, h2, h3⟩ := hnb
  obtain ⟨hl, vs, g1, g2, g3⟩ := hL.src ht
  subst hm
  refine step_append_gen w hgd s x t t ho B e i z N.m bytes ht hi hz hsize hby hzs v R.length _ hv h2 _ L.length _ hy g3 h63 hbytes hB ?_
  intro v' w' ho' hk hn
  obtain ⟨A', c', rfl, _⟩ := ho'.form
  exact h A' c' w' (NBX.joins h1 h3 g1 (fun i x v hx hv => N.mono (g2 i x v hx hv) hG) ho' hk hn) hk hn
end
section
variable {α β : Type} {N : Nst α β} {w : World} {F : Nat → Prop} {A : Option Addr} {n c m : Nat} {l : List α}
theorem NS.front (h : NS N w F (.slice A n c) l) (hm : m ≤ l.length) : NS N w F (.slice A m c) (l.take m) := by
  have h0 := h
  obtain ⟨us, h1, ⟨A1, c1, ev, h2, h3, h4, h5⟩, h6⟩ := h
  injection ev with e1 e2 e3
  subst e1 e3
  have hz : (l.zip us).length = l.length := by simp [h1]
  have := h0.piece (lo := 0) (m := m) (A' := A) (c' := c) (by omega) (fun _ a e => by rw [e]; simp [Addr.add]) (by omega) h3 h5
  rwa [List.drop_zero] at this
theorem NS.rest (h : NS N w F (.slice A n c) l) (hm : m ≤ l.length) : NS N w F (.slice (if c = m then A else Option.map (fun x => x.add (m * N.m)) A) (n - m) (c - m)) (l.drop m) := by
  have h0 := h
  obtain ⟨us, h1, ⟨A1, c1, ev, h2, h3, h4, h5⟩, h6⟩ := h
  injection ev with e1 e2 e3
  subst e1 e3
  have hz : (l.zip us).length = l.length := by simp [h1]
  have hn : n - m = l.length - m := by omega
  have := h0.piece (lo := m) (m := l.length - m) (A' := if c = m then A else Option.map (fun x => x.add (m * N.m)) A) (c' := c - m) (by omega) (fun h9 a e => by rw [if_neg (by omega), e]; rfl) (by omega) (by omega) (fun e => by
    by_cases e9 : c = m
    · omega
    · rw [if_neg e9] at e
      have h9 : A = none := by revert e; cases A <;> simp
      have := h5 h9; omega)
  rw [hn]
  rwa [List.take_of_length_le (by rw [List.length_drop]; exact Nat.le_refl _)] at this
end
/-- Where a state that a call tells may lie. -/
def SF (F : Nat → Prop) (w : World) (b : Nat) : Prop := (F b ∧ b < w.heap.size) ∨ w.heap.size ≤ b
def FL (F : Nat → Prop) (w : World) (b : Nat) : Prop := F b ∧ b < w.heap.size
/-- .. and not in the result's own box. -/
def SN (F : Nat → Prop) (w : World) (p b : Nat) : Prop := SF F w b ∧ b ≠ p
theorem StM.low {w : World} {F : Nat → Prop} {u : Value} {s : SZ} (h : StM w F u s) : StM w (FL F w) u s := h.mono (fun b hb h => ⟨h, hb⟩)
theorem FL.sn {F : Nat → Prop} {w : World} {p b : Nat} (h : FL F w b) (hp : w.heap.size ≤ p) : SN F w p b := ⟨.inl h, by have := h.2; omega⟩
/-- A state's form. -/
theorem StM.shape {w : World} {F : Nat → Prop} {u : Value} {s : SZ} (h : StM w F u s) : ∃ A1 n1 c1 A2 n2 c2 A3 n3 c3, u = .agg #[.slice A1 n1 c1, .slice A2 n2 c2, .slice A3 n3 c3] := by
  obtain ⟨A1, c1, A2, c2, A3, c3, e, -⟩ := h.form
  exact ⟨_, _, _, _, _, _, _, _, _, e⟩
/-- What stands ahead of a return of a state. -/
def StEnd (w : World) (F : Nat → Prop) (p : Nat) (s : SZ) (W : World) : Prop :=
  ∃ A1 n1 c1 A2 n2 c2 A3 n3 c3, W.heap[p]? = some (.cells #[.slice A1 n1 c1, .slice A2 n2 c2, .slice A3 n3 c3] 28 (0, 0)) ∧ StM W (SF F w) (.agg #[.slice A1 n1 c1, .slice A2 n2 c2, .slice A3 n3 c3]) s ∧ Keep (fun _ => False) w W
theorem StEnd.mk {w W : World} {F : Nat → Prop} {p : Nat} {s : SZ} {A1 A2 A3 : Option Addr} {n1 c1 n2 c2 n3 c3 : Nat} {x y z : Value} (h : StM W (SN F w p) (.agg #[.slice A1 n1 c1, .slice A2 n2 c2, .slice A3 n3 c3]) s) (hb : W.heap[p]? = some (.cells #[x, y, z] 28 (0, 0))) (hk : Keep (fun _ => False) w W) (hp : w.heap.size ≤ p) :
    StEnd w F p s (((W.setCell ⟨p, 0, none⟩ (.slice A1 n1 c1)).setCell ⟨p, 1, none⟩ (.slice A2 n2 c2)).setCell ⟨p, 2, none⟩ (.slice A3 n3 c3)) := by
  refine ⟨A1, n1, c1, A2, n2, c2, A3, n3, c3, heap_3J hb _ _ _, ?_, hk.trans (keep3R _ _ _ _ _) (fun b hb h => by have : b = p := h; omega)⟩
  exact (h.keep (keep3R _ _ _ _ _) (fun b _ h e => h.2 e)).mono (fun b _ h => h.1)
theorem StEnd.drew {w W : World} {F : Nat → Prop} {p : Nat} {s : SZ} (h : StEnd w F p s W) : StEnd w F p s W.drew := by
  obtain ⟨A1, n1, c1, A2, n2, c2, A3, n3, c3, h1, h2, h3⟩ := h
  exact ⟨A1, n1, c1, A2, n2, c2, A3, n3, c3, by rw [heap_drew']; exact h1, h2.same ((Keep.refl _ W).drew), h3.drew⟩
theorem StM.err {w w1 : World} {F : Nat → Prop} {s : SZ} {x y z : Value} (hu : StM w F (.agg #[x, y, z]) s) (hk : Keep (fun _ => False) w w1) {p : Nat} (hp : w.heap.size ≤ p) :
    StM (((w1.setCell ⟨p, 0, none⟩ x).setCell ⟨p, 1, none⟩ y).setCell ⟨p, 2, none⟩ z) (SF F w) (.agg #[x, y, z]) s ∧ Keep (fun _ => False) w (((w1.setCell ⟨p, 0, none⟩ x).setCell ⟨p, 1, none⟩ y).setCell ⟨p, 2, none⟩ z) := by
  have k := hk.trans (keep3R w1 p x y z) (fun b hb h => by have : b = p := h; omega)
  exact ⟨(hu.mono (G := SF F w) (fun b hb h => .inl ⟨h, hb⟩)).keep k (fun _ _ _ h => h), k⟩
set_option maxHeartbeats 2000000 in
theorem r11_get (c : Cf) (uc : Value) (G : Nat → Prop) (s : SZ) (x : IdZ) (k : Int) (hk : -9223372036854775808 ≤ k ∧ k ≤ 9223372036854775807) (u : Value) (F : Nat → Prop) (w : World) (hc : CL w G uc c.l) (hu : StM w F u s) :
    Calls Tryz.prog 62 #[confV c uc, u, .agg #[.int .i64 x.ix, .int .i64 x.gen], .int .i64 k] w fun e w' => ∃ A n cc, e = .returned (.tuple #[.slice A n cc, .int .i64 (getR c.l s x k).2]) ∧ By w' F (.slice A n cc) (getR c.l s x k).1 ∧ Keep (fun _ => False) w w' := by
  have PL := Lib.hid (fun X (hk : Keep (fun _ => False) w X) => r11_placeI s x u F X (hu.same hk))
  have SI := Lib.hid (fun X (hk' : Keep (fun _ => False) w X) => r11_size c uc G k X (hc.same hk') hk)
  obtain ⟨Au, cu, rfl, -⟩ := hc
  obtain ⟨A1, c1, A2, c2, A3, c3, rfl, h1, h2, h3, h4, h5, h6, g1, g2, g3⟩ := hu.form
  have HE := Lib.hid g3
  unfold maxLen at *
  unfold confV at *
  obtain ⟨R, hR⟩ : ∃ R, getR c.l s x k = R := ⟨_, rfl⟩
  rw [hR]
  have G0 := Lib.hid (show placeR s x = none → R = ([], 5) from fun h => by rw [← hR]; unfold getR; rw [h])
  have G1 := Lib.hid (show ∀ p, placeR s x = some p → sizeR c.l k = none → R = ([], 6) from fun p h h' => by rw [← hR]; unfold getR; rw [h, h'])
  have G2 := Lib.hid (show ∀ p z P, placeR s x = some p → sizeR c.l k = some z → (s.ents.getD p default).parts = P → partR P k = none → R = ([], 8) from fun p z P h h' h1 h2 => by rw [← hR]; unfold getR; rw [h, h']; dsimp only; rw [h1, h2])
  have G3 := Lib.hid (show ∀ p z P q, placeR s x = some p → sizeR c.l k = some z → (s.ents.getD p default).parts = P → partR P k = some q → R = ((P.getD q default).data, 0) from fun p z P q h h' h1 h2 => by rw [← hR]; unfold getR; rw [h, h']; dsimp only; rw [h1, h2])
  obtain ⟨pi, hpi⟩ : ∃ pi, placeI s x = pi := ⟨_, rfl⟩
  have P0 := Lib.hid (show placeR s x = none → pi = -1 from fun h => hpi.symm.trans (placeI_none h))
  have P1 := Lib.hid (show ∀ p, placeR s x = some p → pi = (p : Int) ∧ p < s.ents.length ∧ ∃ P, s.ents[p]? = some ⟨x, P⟩ ∧ (s.ents.getD p default).parts = P from fun p h => by
    have := placeI_some h
    rw [hpi] at this; exact this)
  obtain ⟨zi, hzi⟩ : ∃ zi, (sizeR c.l k).getD 0 = zi := ⟨_, rfl⟩
  obtain ⟨zb, hzb⟩ : ∃ zb, (sizeR c.l k).isSome = zb := ⟨_, rfl⟩
  rw [hpi] at PL
  rw [hzi, hzb] at SI
  generalize c.l.length = nl at *
  obtain ⟨n, hn⟩ : ∃ n, s.ents.length = n := ⟨_, rfl⟩
  have HN := Lib.hid hn
  rw [hn] at HE P1 PL h5 ⊢
  clear hn hR hpi hu g1 g2 g3 h1 h2 h3 h4 hk
  generalize s.gens.length = n1 at *
  generalize s.free.length = n2 at *
  go_enter Tryz.func62, Tryz.ntmps62
  go_upto_region 1 with fail
  refine wp_world (S := fun X => X.heap[w.heap.size]? = some (.cells #[.int .i64 c.log, .int .i64 c.pages, .int .i64 c.ents, .int .i64 c.gens, .slice Au nl cu] 24 (0, 0)) ∧ X.heap[w.heap.size + 1]? = some (.cells #[.slice A1 n1 c1, .slice A2 n2 c2, .slice A3 n c3] 28 (0, 0)) ∧ X.heap[w.heap.size + 1 + 1]? = some (.cells #[.int .i64 x.ix, .int .i64 x.gen] 40 (0, 0)) ∧ Keep (fun _ => False) w X) ⟨by rw [Below.heap_alloc _ _ _ (by simp; omega)]; first | (exact heap_alloc_at _ _ _ (by first | rfl | (simp; done))) | (rw [Below.heap_alloc _ _ _ (by simp)]; exact heap_alloc_at _ _ _ (by first | rfl | (simp; done))) | (rw [heap_drew', Below.heap_alloc _ _ _ (by simp)]; exact heap_alloc_at _ _ _ (by first | rfl | (simp; done))) | (rw [heap_drew']; exact heap_alloc_at _ _ _ (by first | rfl | (simp; done))) | fail, by first | (exact heap_alloc_at _ _ _ (by first | rfl | (simp; done))) | (rw [Below.heap_alloc _ _ _ (by simp)]; exact heap_alloc_at _ _ _ (by first | rfl | (simp; done))) | (rw [heap_drew', Below.heap_alloc _ _ _ (by simp)]; exact heap_alloc_at _ _ _ (by first | rfl | (simp; done))) | (rw [heap_drew']; exact heap_alloc_at _ _ _ (by first | rfl | (simp; done))) | fail, by exact heap_alloc_at _ _ _ (by simp), by exact (by repeat first | (with_reducible assumption) | (with_reducible exact Keep.refl _ _) | (with_reducible refine Keep.alloc ?_ _) | (with_reducible refine Keep.drew ?_) | (with_reducible refine Keep.drewN ?_ _) | (with_reducible refine Keep.setCell ?_ (.inl (by first | omega | (simp; done) | (simp; omega) | fail)) _))⟩ ?_
  rintro X ⟨b1, b2, b3, hkX⟩
  have HX := Lib.hid (And.intro b1 (And.intro b2 (And.intro b3 hkX)))
  obtain ⟨x0, x1, x2, xf⟩ := cells3 b2
  obtain ⟨y0, y1, yf⟩ := cells2 b3
  clear b1 b2 b3
  go_wp2_with fail
  with_reducible refine (PL.out X hkX).mono ?_
  rintro e w1 ⟨rfl, k1⟩
  have B1 := Lib.hid (show Keep (fun _ => False) X w1 ∧ Keep (fun _ => False) w w1 from ⟨k1, hkX.trans k1 (fun _ _ h => h)⟩)
  clear k1 x0 x1 x2 xf y0 y1 yf hkX
  cases hpl : placeR s x with
  | none =>
    obtain rfl := P0.out hpl
    have RS := Lib.hid (G0.out hpl)
    have hlt : (-1 : Int) < 0 := by omega
    clear hpl
    go_wp2
    go_ret2
    exact ⟨none, 0, 0, by rw [RS.out]; rfl, by rw [RS.out]; exact By.nil _ _, B1.out.2⟩
  | some p =>
    obtain ⟨rfl, hp2, P, hp3, hp4⟩ := P1.out p hpl
    have hlt : ¬ ((p : Int) < 0) := by omega
    obtain ⟨x0, x1, x2, x3, x4, xf⟩ := cells5 ((B1.out.1.block _ (Array.getElem?_eq_some_iff.1 HX.out.1).1 (fun h => h)).trans HX.out.1)
    go_wp2_with fail
    with_reducible refine (SI.out w1 B1.out.2).mono ?_
    rintro e w2 ⟨rfl, k2⟩
    have B2 := Lib.hid (show Keep (fun _ => False) X w2 ∧ Keep (fun _ => False) w w2 from ⟨B1.out.1.trans k2 (fun _ _ h => h), B1.out.2.trans k2 (fun _ _ h => h)⟩)
    clear k2 x0 x1 x2 x3 x4 xf
    cases hsz : sizeR c.l k with
    | none =>
      rw [hsz] at hzi hzb
      subst hzi hzb
      have RS := Lib.hid (G1.out p hpl hsz)
      clear hpl hsz hp3 hp4
      simp only [Option.isSome]
      go_wp2
      go_ret2
      exact ⟨none, 0, 0, by rw [RS.out]; rfl, by rw [RS.out]; exact By.nil _ _, B2.out.2⟩
    | some z =>
      rw [hsz] at hzi hzb
      subst hzi hzb
      simp only [Option.getD_some, Option.isSome_some]
      have hi : (p : Int) < (n : Int) := by omega
      have h0 : (0 : Int) ≤ (p : Int) := by omega
      obtain ⟨b, off, e0, q, rfl, -, hx, hin, hc⟩ := NS.at_ (HE.out.same B2.out.2) hp2
      obtain rfl : e0 = ⟨x, P⟩ := Option.some.inj (hx.symm.trans hp3)
      have f2 := hc 2 _ rfl
      simp only [show entN.m = 3 from rfl] at f2
      replace hin : NS parN w2 F q P := hin
      have PT := Lib.hid (fun X (hk : Keep (fun _ => False) w2 X) => r11_partI P k _ F X (NS.same hin hk))
      have HIN := Lib.hid hin
      obtain ⟨A4, c4, rfl, hcm, hpn⟩ := NS.form hin
      obtain ⟨x0, x1, x2, xf⟩ := cells3 ((B2.out.1.block (w.heap.size + 1) (Array.getElem?_eq_some_iff.1 HX.out.2.1).1 (fun h => h)).trans HX.out.2.1)
      have Q0 := Lib.hid (show partR P k = none → partI P k = -1 from fun h => partI_none h)
      have Q1 := Lib.hid (show ∀ j, partR P k = some j → partI P k = (j : Int) ∧ j < P.length from fun j h => partI_some h)
      generalize partI P k = qi at *
      obtain ⟨np, hnp⟩ : ∃ np, P.length = np := ⟨_, rfl⟩
      rw [hnp] at PT HIN Q1 hpn f2
      clear hx hin hc hnp
      go_wp2_with fail
      with_reducible refine (PT.out w2 (Keep.refl _ _)).mono ?_
      rintro e w3 ⟨rfl, k3⟩
      have B3 := Lib.hid (show Keep (fun _ => False) w2 w3 ∧ Keep (fun _ => False) w w3 from ⟨k3, B2.out.2.trans k3 (fun _ _ h => h)⟩)
      cases hq : partR P k with
      | none =>
        obtain rfl := Q0.out hq
        have RS := Lib.hid (G2.out p z P hpl hsz hp4 hq)
        have hlt2 : (-1 : Int) < 0 := by omega
        clear hpl hsz hp3 hp4 hq x0 x1 x2 xf f2 k3
        go_wp2
        go_ret2
        exact ⟨none, 0, 0, by rw [RS.out]; rfl, by rw [RS.out]; exact By.nil _ _, B3.out.2⟩
      | some j =>
        obtain ⟨rfl, hj⟩ := Q1.out j hq
        have RS := Lib.hid (G3.out p z P j hpl hsz hp4 hq)
        have hlt2 : ¬ ((j : Int) < 0) := by omega
        have hi2 : (j : Int) < (np : Int) := by omega
        have h02 : (0 : Int) ≤ (j : Int) := by omega
        obtain ⟨b2, off2, y, d, rfl, -, hy, hin2, hc2⟩ := NS.at_ (HIN.out.same B3.out.1) hj
        have t1 := hc2 1 _ rfl
        simp only [show parN.m = 2 from rfl] at t1
        have D := Lib.hid (show By w3 F d y.data from hin2)
        obtain ⟨A5, c5, rfl, -⟩ := D.out
        have YY := Lib.hid (show P.getD j default = y by rw [List.getD_eq_getElem?_getD, hy]; rfl)
        clear hpl hsz hp3 hp4 hq hc2 hin2 hy
        have x2' := k3.cell (fun h => h) x2
        have f2' := k3.cell (fun h => h) f2
        clear k3 x0 x1 x2 xf f2
        go_wp2
        go_ret2
        exact ⟨A5, y.data.length, c5, by rw [RS.out]; rfl, by rw [RS.out, YY.out]; exact D.out, B3.out.2⟩
end Go.Proofs.YtglliendhbkkhaaGreatDoor

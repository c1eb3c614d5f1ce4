/- The walk of vivariumlaw11.EcsNils: it returns true, old memory unchanged. -/
import Derived.Test.YtglliendhbkkhaaGreatDoorEcsN
import Derived.Test.YtglliendhbkkhaaGreatDoorSt1
import Derived.Test.YtglliendhbkkhaaGreatDoorCompS
import Derived.Test.YtglliendhbkkhaaGreatDoorEcsL
namespace Go.Proofs.YtglliendhbkkhaaGreatDoor
open Go.RowKit
set_option maxRecDepth 100000
set_option linter.unusedVariables false
set_option linter.unusedSimpArgs false

theorem results_idr {fn : Func} {p t t2 : Tmp} (h : fn.results = #[.cell p 40, .tmp t, .tmp t2]) (tmps : Array Value) (w : World) (g : Nat) (c0 c1 : Value)
    (hp : tmps.getD p undef = .pointer (some ⟨g, 0, none⟩)) (hg : w.heap[g]? = some (.cells #[c0, c1] 40 (0, 0))) (b b2 : Value) (hb : tmps.getD t undef = b) (hb2 : tmps.getD t2 undef = b2) : (results fn tmps).run Tryz.prog w = .ok (.tuple #[.agg #[c0, c1], b, b2]) w := by
  have hr := run_loadVar_row (P := Tryz.prog) w g 40 40 #[c0, c1] (0, 0) _ hg under_id rfl size_id
  have e : (results fn tmps).run Tryz.prog w = ((asAddr (tmps.getD p undef)).run Tryz.prog w).andThen fun a w₁ => ((loadVar 40 a).run Tryz.prog w₁).andThen fun v w₂ => .ok (.tuple #[v, tmps.getD t undef, tmps.getD t2 undef]) w₂ := by
    simp only [results, h]
    simp [Sem.run_bind, Result.andThen]
  rw [e, hp, hb, hb2]
  simp [asAddr, hr]
theorem do11_nil (w : World) (x : StE) (A : Option Addr) (n c : Nat) : Calls Tryz.prog 22 #[.pointer none, seV x (.slice A n c)] w fun e w' => e = .returned (.tuple #[.agg #[.int .i64 0, .int .i64 0], .slice none 0 0, .int .i64 4]) ∧ Keep (fun _ => False) w w' := by
  obtain ⟨dd, ⟨ix, gn⟩, k, data⟩ := x
  unfold seV
  simp only
  have DS := Lib.hid (fun X => nilE_despawn X ix gn)
  have ST := Lib.hid (fun X => nilE_set X ix gn k A n c)
  have RM := Lib.hid (fun X => nilE_remove X ix gn k)
  have GT := Lib.hid (fun X => nilE_get X ix gn k)
  have SP := Lib.hid (fun X => nilE_spawn X)
  obtain ⟨WA, hWA⟩ : ∃ WA, WA = ((w.alloc (.cells #[.int .i64 dd, .int .i64 ix, .int .i64 gn, .int .i64 k, .slice A n c] 60 (0, 0))).alloc (.cells #[.int .i64 0, .int .i64 0] 40 (0, 0))) := ⟨_, rfl⟩
  have B0 := Lib.hid (show WA.heap[w.heap.size]? = some (.cells #[.int .i64 dd, .int .i64 ix, .int .i64 gn, .int .i64 k, .slice A n c] 60 (0, 0)) ∧ WA.heap[w.heap.size + 1]? = some (.cells #[.int .i64 0, .int .i64 0] 40 (0, 0)) ∧ Keep (fun _ => False) w WA from by
    rw [hWA]
    exact ⟨(((Keep.refl (fun _ => False) _).alloc _).block _ (by simp) (fun h => h)).trans (heap_alloc_new w _), heap_alloc_at _ _ _ (by simp), ((Keep.refl _ w).alloc _).alloc _⟩)
  go_enter Tryz.func22, Tryz.ntmps22
  go_upto_region 1 with fail
  rw [← hWA]
  clear hWA
  obtain ⟨x0, x1, x2, x3, x4, xf⟩ := cells5 B0.out.1
  obtain ⟨y0, y1, yf⟩ := cells2 B0.out.2.1
  have zz : w.heap.size + 2 ≤ WA.heap.size := by have := (Array.getElem?_eq_some_iff.1 B0.out.2.1).1; omega
  have FIN := Lib.hid (show ∀ X, Keep (fun _ => False) WA X → X.heap[w.heap.size + 1]? = some (.cells #[.int .i64 0, .int .i64 0] 40 (0, 0)) ∧ Keep (fun _ => False) w X from fun X hk => ⟨(hk.block _ (by omega) (fun h => h)).trans B0.out.2.1, B0.out.2.2.trans hk (fun _ _ h => h)⟩)
  by_cases h1 : dd = 1
  · subst h1
    go_wp2_with fail
    with_reducible refine (DS.out _).mono ?_
    rintro e w1 ⟨rfl, hk1⟩
    have F1 := Lib.hid (FIN.out _ (Keep.trans (T := fun _ => False) (by exact (by repeat first | (with_reducible assumption) | (with_reducible exact Keep.refl _ _) | (with_reducible refine Keep.alloc ?_ _) | (with_reducible refine Keep.drew ?_) | (with_reducible refine Keep.drewN ?_ _) | (with_reducible refine Keep.setCell ?_ (.inl (by first | omega | (simp; done) | (simp; omega) | fail)) _))) hk1 (fun _ _ h => h)))
    obtain ⟨z0, z1, zf⟩ := cells2 F1.out.1
    clear hk1
    go_wp2_with (first | (go_at_call 35; with_reducible refine (code11 _ _).mono ?_; rintro e wq ⟨rfl, rfl⟩) | fail)
    refine bodyPost_ret (results_idr Tryz.results22 _ _ (w.heap.size + 1) _ _ (by rfl) (heap_twoJ F1.out.1 _ _) _ _ (by rfl) (by rfl)) rfl ⟨rfl, Keep.setCell (Keep.setCell F1.out.2 (.inl (by simp)) _) (.inl (by simp)) _⟩
  have g1 : (dd == 1) = false := by simp [h1]
  by_cases h2 : dd = 2
  · subst h2
    go_wp2_with fail
    with_reducible refine (ST.out _).mono ?_
    rintro e w1 ⟨rfl, hk1⟩
    have F1 := Lib.hid (FIN.out _ (Keep.trans (T := fun _ => False) (by exact (by repeat first | (with_reducible assumption) | (with_reducible exact Keep.refl _ _) | (with_reducible refine Keep.alloc ?_ _) | (with_reducible refine Keep.drew ?_) | (with_reducible refine Keep.drewN ?_ _) | (with_reducible refine Keep.setCell ?_ (.inl (by first | omega | (simp; done) | (simp; omega) | fail)) _))) hk1 (fun _ _ h => h)))
    obtain ⟨z0, z1, zf⟩ := cells2 F1.out.1
    clear hk1
    go_wp2_with (first | (go_at_call 35; with_reducible refine (code11 _ _).mono ?_; rintro e wq ⟨rfl, rfl⟩) | fail)
    refine bodyPost_ret (results_idr Tryz.results22 _ _ (w.heap.size + 1) _ _ (by rfl) (heap_twoJ F1.out.1 _ _) _ _ (by rfl) (by rfl)) rfl ⟨rfl, Keep.setCell (Keep.setCell F1.out.2 (.inl (by simp)) _) (.inl (by simp)) _⟩
  have g2 : (dd == 2) = false := by simp [h2]
  by_cases h3 : dd = 3
  · subst h3
    go_wp2_with fail
    with_reducible refine (RM.out _).mono ?_
    rintro e w1 ⟨rfl, hk1⟩
    have F1 := Lib.hid (FIN.out _ (Keep.trans (T := fun _ => False) (by exact (by repeat first | (with_reducible assumption) | (with_reducible exact Keep.refl _ _) | (with_reducible refine Keep.alloc ?_ _) | (with_reducible refine Keep.drew ?_) | (with_reducible refine Keep.drewN ?_ _) | (with_reducible refine Keep.setCell ?_ (.inl (by first | omega | (simp; done) | (simp; omega) | fail)) _))) hk1 (fun _ _ h => h)))
    obtain ⟨z0, z1, zf⟩ := cells2 F1.out.1
    clear hk1
    go_wp2_with (first | (go_at_call 35; with_reducible refine (code11 _ _).mono ?_; rintro e wq ⟨rfl, rfl⟩) | fail)
    refine bodyPost_ret (results_idr Tryz.results22 _ _ (w.heap.size + 1) _ _ (by rfl) (heap_twoJ F1.out.1 _ _) _ _ (by rfl) (by rfl)) rfl ⟨rfl, Keep.setCell (Keep.setCell F1.out.2 (.inl (by simp)) _) (.inl (by simp)) _⟩
  have g3 : (dd == 3) = false := by simp [h3]
  by_cases h4 : dd = 4
  · subst h4
    go_wp2_with fail
    with_reducible refine (GT.out _).mono ?_
    rintro e w1 ⟨rfl, hk1⟩
    have F1 := Lib.hid (FIN.out _ (Keep.trans (T := fun _ => False) (by exact (by repeat first | (with_reducible assumption) | (with_reducible exact Keep.refl _ _) | (with_reducible refine Keep.alloc ?_ _) | (with_reducible refine Keep.drew ?_) | (with_reducible refine Keep.drewN ?_ _) | (with_reducible refine Keep.setCell ?_ (.inl (by first | omega | (simp; done) | (simp; omega) | fail)) _))) hk1 (fun _ _ h => h)))
    obtain ⟨z0, z1, zf⟩ := cells2 F1.out.1
    clear hk1
    go_wp2_with (first | (go_at_call 35; with_reducible refine (code11 _ _).mono ?_; rintro e wq ⟨rfl, rfl⟩) | fail)
    refine bodyPost_ret (results_idr Tryz.results22 _ _ (w.heap.size + 1) _ _ (by rfl) (heap_twoJ F1.out.1 _ _) _ _ (by rfl) (by rfl)) rfl ⟨rfl, Keep.setCell (Keep.setCell F1.out.2 (.inl (by simp)) _) (.inl (by simp)) _⟩
  have g4 : (dd == 4) = false := by simp [h4]
  go_wp2_with fail
  with_reducible refine (SP.out _).mono ?_
  rintro e w1 ⟨rfl, hk1⟩
  have F1 := Lib.hid (FIN.out _ (Keep.trans (T := fun _ => False) (by exact (by repeat first | (with_reducible assumption) | (with_reducible exact Keep.refl _ _) | (with_reducible refine Keep.alloc ?_ _) | (with_reducible refine Keep.drew ?_) | (with_reducible refine Keep.drewN ?_ _) | (with_reducible refine Keep.setCell ?_ (.inl (by first | omega | (simp; done) | (simp; omega) | fail)) _))) hk1 (fun _ _ h => h)))
  clear hk1
  obtain ⟨z0, z1, zf⟩ := cells2 F1.out.1
  have FZ : w.heap.size + 1 < w1.heap.size := (Array.getElem?_eq_some_iff.1 F1.out.1).1
  have z0' := ((Keep.refl (fun _ => False) w1).alloc (.cells #[.int .i64 0, .int .i64 0] 40 (0, 0))).cell (fun h => h) z0
  have z1' := ((Keep.refl (fun _ => False) w1).alloc (.cells #[.int .i64 0, .int .i64 0] 40 (0, 0))).cell (fun h => h) z1
  have zf' := fun i => ((Keep.refl (fun _ => False) w1).alloc (.cells #[.int .i64 0, .int .i64 0] 40 (0, 0))).frozen (p := ⟨w.heap.size + 1, i, none⟩) (fun h => h) FZ |>.trans (zf i)
  have AB := heap_alloc_new w1 (.cells #[.int .i64 0, .int .i64 0] 40 (0, 0))
  obtain ⟨q0, q1, qf⟩ := cells2 AB
  go_upto_region 11 with fail
  go_region_law (first
    | (go_simp; go_at_call 35; with_reducible refine (code11 _ _).mono ?_; rintro e wq ⟨rfl, rfl⟩)
    | fail)
  all_goals
    go_wp2
    have HX := (((Keep.refl (fun _ => False) w1).alloc (.cells #[.int .i64 0, .int .i64 0] 40 (0, 0))).block (w.heap.size + 1) FZ (fun h => h)).trans F1.out.1
    have HY := fun o => (((Keep.refl (fun _ => False) ((w1.setCell ⟨w.heap.size + 1, 0, none⟩ (.int .i64 0)).setCell ⟨w.heap.size + 1, 1, none⟩ (.int .i64 0))).alloc o).block (w.heap.size + 1) (by simp; omega) (fun h => h)).trans (heap_twoJ F1.out.1 (.int .i64 0) (.int .i64 0))
    have KF := F1.out.2
    have HZ := fun o => (show (((w1.setCell ⟨w.heap.size + 1, 0, none⟩ (.int .i64 0)).setCell ⟨w.heap.size + 1, 1, none⟩ (.int .i64 0)).alloc o).drew.heap[w.heap.size + 1]? = some (.cells #[.int .i64 0, .int .i64 0] 40 (0, 0)) from by rw [heap_drew']; exact HY o)
    have HW := (show (((w1.alloc (.cells #[.int .i64 0, .int .i64 0] 40 (0, 0))).setCell ⟨w.heap.size + 1, 0, none⟩ (.int .i64 0)).setCell ⟨w.heap.size + 1, 1, none⟩ (.int .i64 0)).drew.heap[w.heap.size + 1]? = some (.cells #[.int .i64 0, .int .i64 0] 40 (0, 0)) from by rw [heap_drew']; exact heap_twoJ HX _ _)
    refine bodyPost_ret (results_idr Tryz.results22 _ _ (w.heap.size + 1) (.int .i64 0) (.int .i64 0) ?_ ?_ (.slice none 0 0) (.int .i64 4) ?_ ?_) ?_ ⟨?_, ?_⟩
    · rfl
    · first
        | with_reducible exact HW
        | with_reducible exact HZ _
    · rfl
    · rfl
    · rfl
    · rfl
    · exact (by repeat first | (with_reducible assumption) | (with_reducible exact Keep.refl _ _) | (with_reducible refine Keep.alloc ?_ _) | (with_reducible refine Keep.drew ?_) | (with_reducible refine Keep.drewN ?_ _) | (with_reducible refine Keep.setCell ?_ (.inl (by first | omega | (simp; done) | (simp; omega) | fail)) _))
set_option maxHeartbeats 2000000 in
theorem ecsNils_walk (x : StE) (d : Value) (y : Nat) (hy : y < 18446744073709551616) (W : World) (hd : By W (fun _ => True) d x.data) (hT : Tab W) :
    Calls Tryz.prog 5 #[seV x d, .int .u64 (y : Int)] W fun e w' => e = .returned (.bool true) ∧ Below W.heap.size W w' := by
  have LV := Lib.hid (fun X (hk : Keep (fun _ => False) W X) => live11 X (hT.same hk))
  have HD := Lib.hid hd
  obtain ⟨A, c, rfl, hcm, hcx, -⟩ := hd
  have DO := Lib.hid (fun X => do11_nil X x A x.data.length c)
  unfold seV at *
  obtain ⟨dd, ⟨ix, gn⟩, k, data⟩ := x
  simp only at *
  have HBX := Lib.hid (heap_alloc_new W (.cells #[.int .i64 dd, .int .i64 ix, .int .i64 gn, .int .i64 k, .slice A data.length c] 60 (0, 0)))
  have ML := Lib.hid (much11 [⟨dd, ⟨ix, gn⟩, k, data⟩] (.slice (some ⟨W.heap.size + 1, 0, none⟩) 1 1) (fun _ => True) ((W.alloc (.cells #[.int .i64 dd, .int .i64 ix, .int .i64 gn, .int .i64 k, .slice A data.length c] 60 (0, 0))).alloc (.cells #[.int .i64 dd, .int .i64 ix, .int .i64 gn, .int .i64 k, .slice A data.length c] 60 (0, 0))) (by
    have hr := Rd.lit (W.alloc (.cells #[.int .i64 dd, .int .i64 ix, .int .i64 gn, .int .i64 k, .slice A data.length c] 60 (0, 0))) 60 [.int .i64 dd, .int .i64 ix, .int .i64 gn, .int .i64 k, .slice A data.length c]
    rw [show (W.alloc (.cells #[.int .i64 dd, .int .i64 ix, .int .i64 gn, .int .i64 k, .slice A data.length c] 60 (0, 0))).heap.size = W.heap.size + 1 by simp] at hr
    refine ⟨[.slice A data.length c], rfl, ⟨_, 1, rfl, Nat.le_refl _, by unfold maxLen; decide, hr.mono (fun _ _ _ => trivial), fun h => by cases h⟩, fun i x v hx hv => ?_⟩
    match i, hx, hv with
    | 0, hx, hv =>
      cases hx
      cases hv
      exact HD.out.keep (S := fun _ => False) (((Keep.refl _ W).alloc _).alloc _) (fun _ _ _ h => h)
    | i + 1, hx, hv => simp at hx))
  obtain ⟨x0, x1, x2, x3, x4, xf⟩ := cells5 HBX.out
  go_enter Tryz.func5, Tryz.ntmps5
  go_wp2_with fail
  with_reducible refine ML.out.mono ?_
  rintro e w1 ⟨⟨b, rfl, -⟩, rfl⟩
  cases b with
  | true =>
    go_wp2_with fail
    with_reducible refine (LV.out _ (by exact (by repeat first | (with_reducible assumption) | (with_reducible exact Keep.refl _ _) | (with_reducible refine Keep.alloc ?_ _) | (with_reducible refine Keep.drew ?_) | (with_reducible refine Keep.drewN ?_ _) | (with_reducible refine Keep.setCell ?_ (.inl (by first | omega | (simp; done) | (simp; omega) | fail)) _)))).mono ?_
    rintro e w2 ⟨rfl, hb2⟩
    have H2 := Lib.hid hb2
    clear hb2
    go_wp2
    go_ret
    exact ⟨rfl, (((((Keep.refl (fun b => W.heap.size ≤ b) W).alloc _).alloc _)).to_below (Nat.le_refl _)).trans (H2.out.mono (by simp; omega))⟩
  | false =>
    go_wp2_with fail
    with_reducible refine (DO.out _).mono ?_
    rintro e w2 ⟨rfl, hk2⟩
    have K2 := Lib.hid (show Keep (fun _ => False) W w2 ∧ w2.heap[W.heap.size]? = some (.cells #[.int .i64 dd, .int .i64 ix, .int .i64 gn, .int .i64 k, .slice A data.length c] 60 (0, 0)) from ⟨Keep.trans (T := fun _ => False) (by exact (by repeat first | (with_reducible assumption) | (with_reducible exact Keep.refl _ _) | (with_reducible refine Keep.alloc ?_ _) | (with_reducible refine Keep.drew ?_) | (with_reducible refine Keep.drewN ?_ _) | (with_reducible refine Keep.setCell ?_ (.inl (by first | omega | (simp; done) | (simp; omega) | fail)) _))) hk2 (fun _ _ h => h), (hk2.block W.heap.size (by simp; omega) (fun h => h)).trans ((((Keep.refl (fun _ => False) _).alloc _).block W.heap.size (by simp) (fun h => h)).trans HBX.out)⟩)
    clear hk2 x0 x1 x2 x3 x4 xf
    obtain ⟨x0, x1, x2, x3, x4, xf⟩ := cells5 ((((Keep.refl (fun _ => False) w2).alloc (.cells #[.int .i64 0, .int .i64 0] 40 (0, 0))).block W.heap.size (Array.getElem?_eq_some_iff.1 K2.out.2).1 (fun h => h)).trans K2.out.2)
    have HI := Lib.hid (heap_alloc_new w2 (.cells #[.int .i64 0, .int .i64 0] 40 (0, 0)))
    obtain ⟨y0, y1, yf⟩ := cells2 HI.out
    go_wp2_with fail
    with_reducible refine (nilE_alive _ _ _).mono ?_
    rintro e w3 ⟨rfl, hk3⟩
    have K3 := Lib.hid (show Keep (fun _ => False) W w3 from K2.out.1.trans (Keep.trans (T := fun _ => False) (by exact (by repeat first | (with_reducible assumption) | (with_reducible exact Keep.refl _ _) | (with_reducible refine Keep.alloc ?_ _) | (with_reducible refine Keep.drew ?_) | (with_reducible refine Keep.drewN ?_ _) | (with_reducible refine Keep.setCell ?_ (.inl (by first | omega | (simp; done) | (simp; omega) | fail)) _))) hk3 (fun _ _ h => h)) (fun _ _ h => h))
    clear hk3
    go_wp2_with (first
      | (go_at_call 25; with_reducible refine (nilE_count _).mono ?_; rintro e wq ⟨rfl, rfl⟩)
      | (go_at_call 28; with_reducible refine (nilE_query _ _ _).mono ?_; rintro e wq ⟨rfl, rfl⟩)
      | (go_at_call 31; with_reducible refine (nilE_rows _).mono ?_; rintro e wq ⟨rfl, rfl⟩)
      | fail)
    with_reducible refine (nilE_state _).mono ?_
    rintro e w4 ⟨rfl, hk4⟩
    have K4 := Lib.hid (show Keep (fun _ => False) W w4 from K3.out.trans (Keep.trans (T := fun _ => False) (by exact (by repeat first | (with_reducible assumption) | (with_reducible exact Keep.refl _ _) | (with_reducible refine Keep.alloc ?_ _) | (with_reducible refine Keep.drew ?_) | (with_reducible refine Keep.drewN ?_ _) | (with_reducible refine Keep.setCell ?_ (.inl (by first | omega | (simp; done) | (simp; omega) | fail)) _))) hk4 (fun _ _ h => h)) (fun _ _ h => h))
    clear hk4
    have NM := Lib.hid (fun X => same11 ⟨[], [], []⟩ (.agg #[.slice none 0 0, .slice none 0 0, .slice none 0 0]) (.agg #[.slice none 0 0, .slice none 0 0, .slice none 0 0]) (fun _ => True) (fun _ => True) X ⟨_, _, _, rfl, Sl.nil X _ 1, Sl.nil X _ 1, NS.nil entN X _⟩ ⟨_, _, _, rfl, Sl.nil X _ 1, Sl.nil X _ 1, NS.nil entN X _⟩)
    go_wp2_with fail
    with_reducible refine (NM.out _).mono ?_
    rintro e w5 ⟨rfl, hk5⟩
    have K5 := Lib.hid (show Keep (fun _ => False) W w5 from K4.out.trans (Keep.trans (T := fun _ => False) (by exact (by repeat first | (with_reducible assumption) | (with_reducible exact Keep.refl _ _) | (with_reducible refine Keep.alloc ?_ _) | (with_reducible refine Keep.drew ?_) | (with_reducible refine Keep.drewN ?_ _) | (with_reducible refine Keep.setCell ?_ (.inl (by first | omega | (simp; done) | (simp; omega) | fail)) _))) hk5 (fun _ _ h => h)) (fun _ _ h => h))
    clear hk5
    go_wp2_with fail
    with_reducible refine (nilE_conf _).mono ?_
    rintro e w6 ⟨rfl, hk6⟩
    have K6 := Lib.hid (show Keep (fun _ => False) W w6 from K5.out.trans (Keep.trans (T := fun _ => False) (by exact (by repeat first | (with_reducible assumption) | (with_reducible exact Keep.refl _ _) | (with_reducible refine Keep.alloc ?_ _) | (with_reducible refine Keep.drew ?_) | (with_reducible refine Keep.drewN ?_ _) | (with_reducible refine Keep.setCell ?_ (.inl (by first | omega | (simp; done) | (simp; omega) | fail)) _))) hk6 (fun _ _ h => h)) (fun _ _ h => h))
    clear hk6
    have NC := Lib.hid (fun X => rsameF ⟨0, 0, 0, 0, []⟩ (.slice none 0 0) (.slice none 0 0) (fun _ => True) (fun _ => True) X (CL.of_sl (Sl.nil X _ 2)) (CL.of_sl (Sl.nil X _ 2)) (by decide))
    unfold confV at NC
    simp only at NC
    go_wp2_with fail
    with_reducible refine (NC.out _).mono ?_
    rintro e w7 ⟨rfl, hb7⟩
    have K7 := Lib.hid (show Keep (fun _ => False) W w7 from K6.out.trans (Keep.trans (T := fun _ => False) (by exact (by repeat first | (with_reducible assumption) | (with_reducible exact Keep.refl _ _) | (with_reducible refine Keep.alloc ?_ _) | (with_reducible refine Keep.drew ?_) | (with_reducible refine Keep.drewN ?_ _) | (with_reducible refine Keep.setCell ?_ (.inl (by first | omega | (simp; done) | (simp; omega) | fail)) _))) (Keep.of_below' hb7) (fun _ _ h => h)) (fun _ _ h => h))
    clear hb7
    go_wp2_with fail
    with_reducible refine (LV.out _ K7.out).mono ?_
    rintro e w8 ⟨rfl, hb8⟩
    have H8 := Lib.hid hb8
    clear hb8
    go_wp2
    go_ret
    exact ⟨rfl, ((K7.out.mono (T := fun b => W.heap.size ≤ b) (fun _ _ h => h.elim)).to_below (Nat.le_refl _)).trans (H8.out.mono (by have := K7.out.size; omega))⟩
end Go.Proofs.YtglliendhbkkhaaGreatDoor

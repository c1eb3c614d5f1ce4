/- vivariumlaw11.do on a core. -/
import Derived.Test.YtglliendhbkkhaaGreatDoorEcs7
import Derived.Test.YtglliendhbkkhaaGreatDoorSt1
namespace Go.Proofs.YtglliendhbkkhaaGreatDoor
open Go.RowKit
set_option maxRecDepth 100000
set_option linter.unusedVariables false
set_option linter.unusedSimpArgs false

theorem results_idr2 {fn : Func} {p t t2 : Tmp} (h : fn.results = #[.cell p 40, .tmp t, .tmp t2]) (tmps : Array Value) (w : World) (g : Nat) (c0 c1 : Value)
    (hp : tmps.getD p undef = .pointer (some ⟨g, 0, none⟩)) (hg : w.heap[g]? = some (.cells #[c0, c1] 40 (0, 0))) (b b2 : Value) (hb : tmps.getD t undef = b) (hb2 : tmps.getD t2 undef = b2) : (results fn tmps).run Tryz.prog w = .ok (.tuple #[.agg #[c0, c1], b, b2]) w := by
  have hr := run_loadVar_row (P := Tryz.prog) w g 40 40 #[c0, c1] (0, 0) _ hg under_id rfl size_id
  have e : (results fn tmps).run Tryz.prog w = ((asAddr (tmps.getD p undef)).run Tryz.prog w).andThen fun a w₁ => ((loadVar 40 a).run Tryz.prog w₁).andThen fun v w₂ => .ok (.tuple #[v, tmps.getD t undef, tmps.getD t2 undef]) w₂ := by
    simp only [results, h]
    simp [Sem.run_bind, Result.andThen]
  rw [e, hp, hb, hb2]
  simp [asAddr, hr]
section
variable {w : World} {cf : Cf} {xp q q' : Nat} {B : CoB} {a a' : Co} {er : Int}
theorem do11_despawn (hlt : ∀ k, CoF xp B a k → k < w.heap.size) (x : StE) (hx : x.do_ = 1) (A : Option Addr) (n c : Nat) (hQ : ∀ X, Keep (fun _ => False) w X → Calls Tryz.prog 56 #[.pointer (some ⟨xp, 0, none⟩), .agg #[.int .i64 x.id.ix, .int .i64 x.id.gen]] X fun e w' => e = .returned (.int .i64 er) ∧ CoTo X cf xp (CoF xp B a) q' a' w') :
    Calls Tryz.prog 22 #[.pointer (some ⟨xp, 0, none⟩), seV x (.slice A n c)] w fun e w' => e = .returned (.tuple #[.agg #[.int .i64 0, .int .i64 0], .slice none 0 0, .int .i64 er]) ∧ CoTo w cf xp (CoF xp B a) q' a' w' := by
  have HL := Lib.hid hlt
  have HQ := Lib.hid hQ
  obtain ⟨dd, ⟨ix, gn⟩, k, data⟩ := x
  obtain rfl : dd = 1 := hx
  unfold seV
  simp only at *
  clear hQ hlt
  obtain ⟨WA, hWA⟩ : ∃ WA, WA = ((w.alloc (.cells #[.int .i64 1, .int .i64 ix, .int .i64 gn, .int .i64 k, .slice A n c] 60 (0, 0))).alloc (.cells #[.int .i64 0, .int .i64 0] 40 (0, 0))) := ⟨_, rfl⟩
  have B0 := Lib.hid (show WA.heap[w.heap.size]? = some (.cells #[.int .i64 1, .int .i64 ix, .int .i64 gn, .int .i64 k, .slice A n c] 60 (0, 0)) ∧ WA.heap[w.heap.size + 1]? = some (.cells #[.int .i64 0, .int .i64 0] 40 (0, 0)) ∧ Keep (fun _ => False) w WA from by
    rw [hWA]
    exact ⟨(((Keep.refl (fun _ => False) _).alloc _).block _ (by simp) (fun h => h)).trans (heap_alloc_new w _), heap_alloc_at _ _ _ (by simp), ((Keep.refl _ w).alloc _).alloc _⟩)
  go_enter Tryz.func22, Tryz.ntmps22
  go_upto_region 1 with fail
  rw [← hWA]
  clear hWA
  obtain ⟨x0, x1, x2, x3, x4, xf⟩ := cells5 B0.out.1
  have zz : w.heap.size + 2 ≤ WA.heap.size := by have := (Array.getElem?_eq_some_iff.1 B0.out.2.1).1; omega
  go_wp2_with fail
  with_reducible refine (HQ.out WA B0.out.2.2).mono ?_
  rintro e w1 ⟨rfl, B1, h1⟩
  have HB1 := Lib.hid ((h1.2.1.block (w.heap.size + 1) (by omega) (fun e => by have := HL.out _ e; omega)).trans B0.out.2.1)
  have NB := Lib.hid (show ∀ k, CoF xp B1 a' k → k ≠ w.heap.size + 1 from fun k hk e => by
    subst e
    rcases h1.2.2 _ hk with e | e
    · have := HL.out _ e; omega
    · omega)
  have H1 := Lib.hid (CoAt.from_ B0.out.2.2 h1)
  clear h1
  obtain ⟨b0, b1, bf⟩ := cells2 HB1.out
  go_wp2_with (first | (go_at_call 35; with_reducible refine (code11 _ _).mono ?_; rintro e wq ⟨rfl, rfl⟩) | fail)
  refine bodyPost_ret (results_idr2 Tryz.results22 _ _ (w.heap.size + 1) (.int .i64 0) (.int .i64 0) ?_ ?_ (.slice none 0 0) (.int .i64 er) ?_ ?_) ?_ ⟨?_, ?_⟩
  · rfl
  · exact heap_twoJ HB1.out _ _
  · rfl
  · rfl
  · rfl
  · rfl
  · exact (H1.out.besides (keep2 _ (w.heap.size + 1) _ _) (fun k hk => NB.out k hk) (fun k e => by have : k = w.heap.size + 1 := e; omega)).to
theorem do11_set (hlt : ∀ k, CoF xp B a k → k < w.heap.size) (x : StE) (hx : x.do_ = 2) (A : Option Addr) (n c : Nat) (hQ : ∀ X, Keep (fun _ => False) w X → Calls Tryz.prog 48 #[.pointer (some ⟨xp, 0, none⟩), .agg #[.int .i64 x.id.ix, .int .i64 x.id.gen], .int .i64 x.k, .slice A n c] X fun e w' => e = .returned (.int .i64 er) ∧ CoTo X cf xp (CoF xp B a) q' a' w') :
    Calls Tryz.prog 22 #[.pointer (some ⟨xp, 0, none⟩), seV x (.slice A n c)] w fun e w' => e = .returned (.tuple #[.agg #[.int .i64 0, .int .i64 0], .slice none 0 0, .int .i64 er]) ∧ CoTo w cf xp (CoF xp B a) q' a' w' := by
  have HL := Lib.hid hlt
  have HQ := Lib.hid hQ
  obtain ⟨dd, ⟨ix, gn⟩, k, data⟩ := x
  obtain rfl : dd = 2 := hx
  unfold seV
  simp only at *
  clear hQ hlt
  obtain ⟨WA, hWA⟩ : ∃ WA, WA = ((w.alloc (.cells #[.int .i64 2, .int .i64 ix, .int .i64 gn, .int .i64 k, .slice A n c] 60 (0, 0))).alloc (.cells #[.int .i64 0, .int .i64 0] 40 (0, 0))) := ⟨_, rfl⟩
  have B0 := Lib.hid (show WA.heap[w.heap.size]? = some (.cells #[.int .i64 2, .int .i64 ix, .int .i64 gn, .int .i64 k, .slice A n c] 60 (0, 0)) ∧ WA.heap[w.heap.size + 1]? = some (.cells #[.int .i64 0, .int .i64 0] 40 (0, 0)) ∧ Keep (fun _ => False) w WA from by
    rw [hWA]
    exact ⟨(((Keep.refl (fun _ => False) _).alloc _).block _ (by simp) (fun h => h)).trans (heap_alloc_new w _), heap_alloc_at _ _ _ (by simp), ((Keep.refl _ w).alloc _).alloc _⟩)
  go_enter Tryz.func22, Tryz.ntmps22
  go_upto_region 1 with fail
  rw [← hWA]
  clear hWA
  obtain ⟨x0, x1, x2, x3, x4, xf⟩ := cells5 B0.out.1
  have zz : w.heap.size + 2 ≤ WA.heap.size := by have := (Array.getElem?_eq_some_iff.1 B0.out.2.1).1; omega
  go_wp2_with fail
  with_reducible refine (HQ.out WA B0.out.2.2).mono ?_
  rintro e w1 ⟨rfl, B1, h1⟩
  have HB1 := Lib.hid ((h1.2.1.block (w.heap.size + 1) (by omega) (fun e => by have := HL.out _ e; omega)).trans B0.out.2.1)
  have NB := Lib.hid (show ∀ k, CoF xp B1 a' k → k ≠ w.heap.size + 1 from fun k hk e => by
    subst e
    rcases h1.2.2 _ hk with e | e
    · have := HL.out _ e; omega
    · omega)
  have H1 := Lib.hid (CoAt.from_ B0.out.2.2 h1)
  clear h1
  obtain ⟨b0, b1, bf⟩ := cells2 HB1.out
  go_wp2_with (first | (go_at_call 35; with_reducible refine (code11 _ _).mono ?_; rintro e wq ⟨rfl, rfl⟩) | fail)
  refine bodyPost_ret (results_idr2 Tryz.results22 _ _ (w.heap.size + 1) (.int .i64 0) (.int .i64 0) ?_ ?_ (.slice none 0 0) (.int .i64 er) ?_ ?_) ?_ ⟨?_, ?_⟩
  · rfl
  · exact heap_twoJ HB1.out _ _
  · rfl
  · rfl
  · rfl
  · rfl
  · exact (H1.out.besides (keep2 _ (w.heap.size + 1) _ _) (fun k hk => NB.out k hk) (fun k e => by have : k = w.heap.size + 1 := e; omega)).to
theorem do11_remove (hlt : ∀ k, CoF xp B a k → k < w.heap.size) (x : StE) (hx : x.do_ = 3) (A : Option Addr) (n c : Nat) (hQ : ∀ X, Keep (fun _ => False) w X → Calls Tryz.prog 57 #[.pointer (some ⟨xp, 0, none⟩), .agg #[.int .i64 x.id.ix, .int .i64 x.id.gen], .int .i64 x.k] X fun e w' => e = .returned (.int .i64 er) ∧ CoTo X cf xp (CoF xp B a) q' a' w') :
    Calls Tryz.prog 22 #[.pointer (some ⟨xp, 0, none⟩), seV x (.slice A n c)] w fun e w' => e = .returned (.tuple #[.agg #[.int .i64 0, .int .i64 0], .slice none 0 0, .int .i64 er]) ∧ CoTo w cf xp (CoF xp B a) q' a' w' := by
  have HL := Lib.hid hlt
  have HQ := Lib.hid hQ
  obtain ⟨dd, ⟨ix, gn⟩, k, data⟩ := x
  obtain rfl : dd = 3 := hx
  unfold seV
  simp only at *
  clear hQ hlt
  obtain ⟨WA, hWA⟩ : ∃ WA, WA = ((w.alloc (.cells #[.int .i64 3, .int .i64 ix, .int .i64 gn, .int .i64 k, .slice A n c] 60 (0, 0))).alloc (.cells #[.int .i64 0, .int .i64 0] 40 (0, 0))) := ⟨_, rfl⟩
  have B0 := Lib.hid (show WA.heap[w.heap.size]? = some (.cells #[.int .i64 3, .int .i64 ix, .int .i64 gn, .int .i64 k, .slice A n c] 60 (0, 0)) ∧ WA.heap[w.heap.size + 1]? = some (.cells #[.int .i64 0, .int .i64 0] 40 (0, 0)) ∧ Keep (fun _ => False) w WA from by
    rw [hWA]
    exact ⟨(((Keep.refl (fun _ => False) _).alloc _).block _ (by simp) (fun h => h)).trans (heap_alloc_new w _), heap_alloc_at _ _ _ (by simp), ((Keep.refl _ w).alloc _).alloc _⟩)
  go_enter Tryz.func22, Tryz.ntmps22
  go_upto_region 1 with fail
  rw [← hWA]
  clear hWA
  obtain ⟨x0, x1, x2, x3, x4, xf⟩ := cells5 B0.out.1
  have zz : w.heap.size + 2 ≤ WA.heap.size := by have := (Array.getElem?_eq_some_iff.1 B0.out.2.1).1; omega
  go_wp2_with fail
  with_reducible refine (HQ.out WA B0.out.2.2).mono ?_
  rintro e w1 ⟨rfl, B1, h1⟩
  have HB1 := Lib.hid ((h1.2.1.block (w.heap.size + 1) (by omega) (fun e => by have := HL.out _ e; omega)).trans B0.out.2.1)
  have NB := Lib.hid (show ∀ k, CoF xp B1 a' k → k ≠ w.heap.size + 1 from fun k hk e => by
    subst e
    rcases h1.2.2 _ hk with e | e
    · have := HL.out _ e; omega
    · omega)
  have H1 := Lib.hid (CoAt.from_ B0.out.2.2 h1)
  clear h1
  obtain ⟨b0, b1, bf⟩ := cells2 HB1.out
  go_wp2_with (first | (go_at_call 35; with_reducible refine (code11 _ _).mono ?_; rintro e wq ⟨rfl, rfl⟩) | fail)
  refine bodyPost_ret (results_idr2 Tryz.results22 _ _ (w.heap.size + 1) (.int .i64 0) (.int .i64 0) ?_ ?_ (.slice none 0 0) (.int .i64 er) ?_ ?_) ?_ ⟨?_, ?_⟩
  · rfl
  · exact heap_twoJ HB1.out _ _
  · rfl
  · rfl
  · rfl
  · rfl
  · exact (H1.out.besides (keep2 _ (w.heap.size + 1) _ _) (fun k hk => NB.out k hk) (fun k e => by have : k = w.heap.size + 1 := e; omega)).to
theorem do11_get (hlt : ∀ k, CoF xp B a k → k < w.heap.size) (x : StE) (hx : x.do_ = 4) (A : Option Addr) (n c : Nat) (dat : List UInt8) (hm : CoM w cf xp B q a) (hQ : ∀ X, Keep (fun _ => False) w X → Calls Tryz.prog 58 #[.pointer (some ⟨xp, 0, none⟩), .agg #[.int .i64 x.id.ix, .int .i64 x.id.gen], .int .i64 x.k] X fun e w' => ∃ A n cc, e = .returned (.tuple #[.slice A n cc, .int .i64 er]) ∧ By w' (fun b => X.heap.size ≤ b) (.slice A n cc) dat ∧ Keep (fun _ => False) X w') :
    Calls Tryz.prog 22 #[.pointer (some ⟨xp, 0, none⟩), seV x (.slice A n c)] w fun e w' => ∃ A n cc, e = .returned (.tuple #[.agg #[.int .i64 0, .int .i64 0], .slice A n cc, .int .i64 er]) ∧ By w' (fun b => w.heap.size + 2 ≤ b) (.slice A n cc) dat ∧ Keep (fun _ => False) w w' := by
  have HL := Lib.hid hlt
  have HQ := Lib.hid hQ
  obtain ⟨dd, ⟨ix, gn⟩, k, data⟩ := x
  obtain rfl : dd = 4 := hx
  unfold seV
  simp only at *
  clear hQ hlt
  obtain ⟨WA, hWA⟩ : ∃ WA, WA = ((w.alloc (.cells #[.int .i64 4, .int .i64 ix, .int .i64 gn, .int .i64 k, .slice A n c] 60 (0, 0))).alloc (.cells #[.int .i64 0, .int .i64 0] 40 (0, 0))) := ⟨_, rfl⟩
  have B0 := Lib.hid (show WA.heap[w.heap.size]? = some (.cells #[.int .i64 4, .int .i64 ix, .int .i64 gn, .int .i64 k, .slice A n c] 60 (0, 0)) ∧ WA.heap[w.heap.size + 1]? = some (.cells #[.int .i64 0, .int .i64 0] 40 (0, 0)) ∧ Keep (fun _ => False) w WA from by
    rw [hWA]
    exact ⟨(((Keep.refl (fun _ => False) _).alloc _).block _ (by simp) (fun h => h)).trans (heap_alloc_new w _), heap_alloc_at _ _ _ (by simp), ((Keep.refl _ w).alloc _).alloc _⟩)
  go_enter Tryz.func22, Tryz.ntmps22
  go_upto_region 1 with fail
  rw [← hWA]
  clear hWA
  obtain ⟨x0, x1, x2, x3, x4, xf⟩ := cells5 B0.out.1
  have zz : w.heap.size + 2 ≤ WA.heap.size := by have := (Array.getElem?_eq_some_iff.1 B0.out.2.1).1; omega
  go_wp2_with fail
  with_reducible refine (HQ.out WA B0.out.2.2).mono ?_
  rintro e w1 ⟨A1, n1, c1, rfl, hby, hk1⟩
  have K1 := Lib.hid (show Keep (fun _ => False) w w1 ∧ w1.heap[w.heap.size + 1]? = some (.cells #[.int .i64 0, .int .i64 0] 40 (0, 0)) from ⟨B0.out.2.2.trans hk1 (fun _ _ h => h), (hk1.block _ (Array.getElem?_eq_some_iff.1 B0.out.2.1).1 (fun h => h)).trans B0.out.2.1⟩)
  have BY := Lib.hid (show By w1 (fun b => w.heap.size + 2 ≤ b) (.slice A1 n1 c1) dat from By.mono hby (fun b _ h => Nat.le_trans zz h))
  clear hby hk1
  obtain ⟨b0, b1, bf⟩ := cells2 K1.out.2
  go_wp2_with (first | (go_at_call 35; with_reducible refine (code11 _ _).mono ?_; rintro e wq ⟨rfl, rfl⟩) | fail)
  refine bodyPost_ret (results_idr2 Tryz.results22 _ _ (w.heap.size + 1) (.int .i64 0) (.int .i64 0) ?_ ?_ (.slice A1 n1 c1) (.int .i64 er) ?_ ?_) ?_ ⟨A1, n1, c1, ?_, ?_, ?_⟩
  · rfl
  · exact heap_twoJ K1.out.2 _ _
  · rfl
  · rfl
  · rfl
  · rfl
  · exact By.keep BY.out (keep2 w1 (w.heap.size + 1) _ _) (fun b _ h e => by have : b = w.heap.size + 1 := e; omega)
  · exact Keep.setCell (Keep.setCell K1.out.1 (.inl (by simp)) _) (.inl (by simp)) _
theorem do11_spawn {gi gg : Int} (hlt : ∀ k, CoF xp B a k → k < w.heap.size) (x : StE) (hx : x.do_ ≠ 1 ∧ x.do_ ≠ 2 ∧ x.do_ ≠ 3 ∧ x.do_ ≠ 4) (A : Option Addr) (n c : Nat) (hQ : ∀ X, Keep (fun _ => False) w X → Calls Tryz.prog 47 #[.pointer (some ⟨xp, 0, none⟩)] X fun e w' => e = .returned (.tuple #[.agg #[.int .i64 gi, .int .i64 gg], .int .i64 er]) ∧ CoTo X cf xp (CoF xp B a) q' a' w') :
    Calls Tryz.prog 22 #[.pointer (some ⟨xp, 0, none⟩), seV x (.slice A n c)] w fun e w' => e = .returned (.tuple #[.agg #[.int .i64 gi, .int .i64 gg], .slice none 0 0, .int .i64 er]) ∧ CoTo w cf xp (CoF xp B a) q' a' w' := by
  have HL := Lib.hid hlt
  have HQ := Lib.hid hQ
  obtain ⟨dd, ⟨ix, gn⟩, k, data⟩ := x
  unfold seV
  simp only at *
  have g1 : (dd == 1) = false := by simp [hx.1]
  have g2 : (dd == 2) = false := by simp [hx.2.1]
  have g3 : (dd == 3) = false := by simp [hx.2.2.1]
  have g4 : (dd == 4) = false := by simp [hx.2.2.2]
  clear hQ hlt hx
  obtain ⟨WA, hWA⟩ : ∃ WA, WA = ((w.alloc (.cells #[.int .i64 dd, .int .i64 ix, .int .i64 gn, .int .i64 k, .slice A n c] 60 (0, 0))).alloc (.cells #[.int .i64 0, .int .i64 0] 40 (0, 0))) := ⟨_, rfl⟩
  have B0 := Lib.hid (show WA.heap[w.heap.size]? = some (.cells #[.int .i64 dd, .int .i64 ix, .int .i64 gn, .int .i64 k, .slice A n c] 60 (0, 0)) ∧ WA.heap[w.heap.size + 1]? = some (.cells #[.int .i64 0, .int .i64 0] 40 (0, 0)) ∧ Keep (fun _ => False) w WA from by
    rw [hWA]
    exact ⟨(((Keep.refl (fun _ => False) _).alloc _).block _ (by simp) (fun h => h)).trans (heap_alloc_new w _), heap_alloc_at _ _ _ (by simp), ((Keep.refl _ w).alloc _).alloc _⟩)
  go_enter Tryz.func22, Tryz.ntmps22
  go_upto_region 1 with fail
  rw [← hWA]
  clear hWA
  obtain ⟨x0, x1, x2, x3, x4, xf⟩ := cells5 B0.out.1
  have zz : w.heap.size + 2 ≤ WA.heap.size := by have := (Array.getElem?_eq_some_iff.1 B0.out.2.1).1; omega
  go_wp2_with fail
  with_reducible refine (HQ.out WA B0.out.2.2).mono ?_
  rintro e w1 ⟨rfl, B1, h1⟩
  have HB1 := Lib.hid ((h1.2.1.block (w.heap.size + 1) (by omega) (fun e => by have := HL.out _ e; omega)).trans B0.out.2.1)
  have NB := Lib.hid (show ∀ k, CoF xp B1 a' k → k ≠ w.heap.size + 1 from fun k hk e => by
    subst e
    rcases h1.2.2 _ hk with e | e
    · have := HL.out _ e; omega
    · omega)
  have H1 := Lib.hid (CoAt.from_ B0.out.2.2 h1)
  clear h1
  obtain ⟨z0, z1, zf⟩ := cells2 HB1.out
  have FZ : w.heap.size + 1 < w1.heap.size := (Array.getElem?_eq_some_iff.1 HB1.out).1
  have z0' := ((Keep.refl (fun _ => False) w1).alloc (.cells #[.int .i64 gi, .int .i64 gg] 40 (0, 0))).cell (fun h => h) z0
  have z1' := ((Keep.refl (fun _ => False) w1).alloc (.cells #[.int .i64 gi, .int .i64 gg] 40 (0, 0))).cell (fun h => h) z1
  have zf' := fun i => ((Keep.refl (fun _ => False) w1).alloc (.cells #[.int .i64 gi, .int .i64 gg] 40 (0, 0))).frozen (p := ⟨w.heap.size + 1, i, none⟩) (fun h => h) FZ |>.trans (zf i)
  have AB := heap_alloc_new w1 (.cells #[.int .i64 gi, .int .i64 gg] 40 (0, 0))
  obtain ⟨q0, q1, qf⟩ := cells2 AB
  go_upto_region 11 with fail
  go_region_law (first
    | (go_simp; go_at_call 35; with_reducible refine (code11 _ _).mono ?_; rintro e wq ⟨rfl, rfl⟩)
    | fail)
  all_goals
    go_wp2
    have HX := (((Keep.refl (fun _ => False) w1).alloc (.cells #[.int .i64 gi, .int .i64 gg] 40 (0, 0))).block (w.heap.size + 1) FZ (fun h => h)).trans HB1.out
    have HW := (show (((w1.alloc (.cells #[.int .i64 gi, .int .i64 gg] 40 (0, 0))).setCell ⟨w.heap.size + 1, 0, none⟩ (.int .i64 gi)).setCell ⟨w.heap.size + 1, 1, none⟩ (.int .i64 gg)).drew.heap[w.heap.size + 1]? = some (.cells #[.int .i64 gi, .int .i64 gg] 40 (0, 0)) from by rw [heap_drew']; exact heap_twoJ HX _ _)
    have HY := fun o => (((Keep.refl (fun _ => False) ((w1.setCell ⟨w.heap.size + 1, 0, none⟩ (.int .i64 gi)).setCell ⟨w.heap.size + 1, 1, none⟩ (.int .i64 gg))).alloc o).block (w.heap.size + 1) (by simp; omega) (fun h => h)).trans (heap_twoJ HB1.out (.int .i64 gi) (.int .i64 gg))
    have HZ := fun o => (show (((w1.setCell ⟨w.heap.size + 1, 0, none⟩ (.int .i64 gi)).setCell ⟨w.heap.size + 1, 1, none⟩ (.int .i64 gg)).alloc o).drew.heap[w.heap.size + 1]? = some (.cells #[.int .i64 gi, .int .i64 gg] 40 (0, 0)) from by rw [heap_drew']; exact HY o)
    refine bodyPost_ret (results_idr2 Tryz.results22 _ _ (w.heap.size + 1) (.int .i64 gi) (.int .i64 gg) ?_ ?_ (.slice none 0 0) (.int .i64 er) ?_ ?_) ?_ ⟨?_, ?_⟩
    · rfl
    · first
        | with_reducible exact HW
        | with_reducible exact HZ _
    · rfl
    · rfl
    · rfl
    · rfl
    · first
        | with_reducible exact (((H1.out.same ((Keep.refl _ w1).alloc _)).besides (keep2 _ (w.heap.size + 1) _ _) (fun k hk => NB.out k hk) (fun k e => by have : k = w.heap.size + 1 := e; omega)).same (Keep.drew (Keep.refl _ _))).to
        | with_reducible exact ((H1.out.besides (keep2 w1 (w.heap.size + 1) _ _) (fun k hk => NB.out k hk) (fun k e => by have : k = w.heap.size + 1 := e; omega)).same (Keep.drew (Keep.alloc (Keep.refl _ _) _))).to
end
end Go.Proofs.YtglliendhbkkhaaGreatDoor

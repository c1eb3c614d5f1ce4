/- flush.Core over a core: what one command does. -/
import Derived.Test.YtglliendhbkkhaaDoorFl3
import Derived.Test.YtglliendhbkkhaaDoorEcs7
namespace Go.Proofs.YtglliendhbkkhaaDoor
open Go.ChangeShapes Go.WideShapes Go.ChangeAt Go.RowKit
set_option maxRecDepth 100000
set_option linter.unusedVariables false
set_option linter.unusedSimpArgs false

theorem under_rs : Tryd.prog.underlying 33 = some (.struct (Tryd.prog.fieldsOf 33)) := by kernel_rfl
theorem size_rs : (Tryd.prog.info? 33).map (·.size) = some 3 := by kernel_rfl
theorem results_rs {fn : Func} {p : Tmp} (h : fn.results = #[.cell p 33]) (tmps : Array Value) (w : World) (g : Nat) (c0 c1 c2 : Value)
    (hp : tmps.getD p undef = .pointer (some ⟨g, 0, none⟩)) (hg : w.heap[g]? = some (.cells #[c0, c1, c2] 33 (0, 0))) : (results fn tmps).run Tryd.prog w = .ok (.agg #[c0, c1, c2]) w :=
  results_cell_row h tmps w g 33 _ (0, 0) _ hp hg under_rs rfl size_rs
theorem heap_6s {w : World} {p : Nat} {t : TypeId} {a b c : Value} (h : w.heap[p]? = some (.cells #[a, b, c] t (0, 0))) (x y z : Value) : ((((((w.setCell ⟨p, 1, none⟩ y).setCell ⟨p, 2, none⟩ z).setCell ⟨p, 0, none⟩ x).setCell ⟨p, 0, none⟩ x).setCell ⟨p, 1, none⟩ y).setCell ⟨p, 2, none⟩ z).heap[p]? = some (.cells #[x, y, z] t (0, 0)) := by
  rw [heap_setCell_same _ p 2 _ _ z (heap_setCell_same _ p 1 _ _ y (heap_setCell_same _ p 0 _ _ x (heap_setCell_same _ p 0 _ _ x (heap_setCell_same _ p 2 _ _ z (heap_setCell_same w p 1 _ _ y h)))))]; rfl
theorem keep_6s (w : World) (p : Nat) (x y z : Value) : Keep (fun b => b = p) w ((((((w.setCell ⟨p, 1, none⟩ y).setCell ⟨p, 2, none⟩ z).setCell ⟨p, 0, none⟩ x).setCell ⟨p, 0, none⟩ x).setCell ⟨p, 1, none⟩ y).setCell ⟨p, 2, none⟩ z) :=
  Keep.setCell (p := ⟨p, 2, none⟩) (Keep.setCell (p := ⟨p, 1, none⟩) (Keep.setCell (p := ⟨p, 0, none⟩) (Keep.setCell (p := ⟨p, 0, none⟩) (Keep.setCell (p := ⟨p, 2, none⟩) (Keep.setCell (p := ⟨p, 1, none⟩) (Keep.refl (fun b => b = p) w) (.inr rfl) _) (.inr rfl) _) (.inr rfl) _) (.inr rfl) _) (.inr rfl) _) (.inr rfl) _
theorem heap_4s {w : World} {p : Nat} {t : TypeId} {a b c : Value} (h : w.heap[p]? = some (.cells #[a, b, c] t (0, 0))) (x : Value) : ((((w.setCell ⟨p, 0, none⟩ x).setCell ⟨p, 0, none⟩ x).setCell ⟨p, 1, none⟩ b).setCell ⟨p, 2, none⟩ c).heap[p]? = some (.cells #[x, b, c] t (0, 0)) := by
  rw [heap_setCell_same _ p 2 _ _ c (heap_setCell_same _ p 1 _ _ b (heap_setCell_same _ p 0 _ _ x (heap_setCell_same w p 0 _ _ x h)))]; rfl
theorem keep_4s (w : World) (p : Nat) (x y z : Value) : Keep (fun b => b = p) w ((((w.setCell ⟨p, 0, none⟩ x).setCell ⟨p, 0, none⟩ x).setCell ⟨p, 1, none⟩ y).setCell ⟨p, 2, none⟩ z) :=
  Keep.setCell (p := ⟨p, 2, none⟩) (Keep.setCell (p := ⟨p, 1, none⟩) (Keep.setCell (p := ⟨p, 0, none⟩) (Keep.setCell (p := ⟨p, 0, none⟩) (Keep.refl (fun b => b = p) w) (.inr rfl) _) (.inr rfl) _) (.inr rfl) _) (.inr rfl) _
def ivC (xp : Nat) : Value := .iface 47 (.agg #[.pointer (some ⟨xp, 0, none⟩)])
section
variable {w : World} {c : Cf} {xp q q' : Nat} {B : CoB} {a a' : Co} {ix gn er : Int}
theorem flc_spawn (hlt : ∀ k, CoF xp B a k → k < w.heap.size) (hQ : ∀ X, Keep (fun _ => False) w X → Calls Tryd.prog 54 #[.pointer (some ⟨xp, 0, none⟩)] X fun e w' => e = .returned (.tuple #[.agg #[.int .i64 ix, .int .i64 gn], .int .i64 er]) ∧ CoTo X c xp (CoF xp B a) q' a' w') :
    Calls Tryd.prog 50 #[.agg #[.pointer (some ⟨xp, 0, none⟩)]] w fun e w' => e = .returned (.tuple #[.agg #[.int .i64 ix, .int .i64 gn], .int .i64 er]) ∧ CoTo w c xp (CoF xp B a) q' a' w' := by
  have HQ := Lib.hid hQ
  have HL := Lib.hid hlt
  have HB := Lib.hid (heap_alloc_at (w.alloc (.cells #[.pointer (some ⟨xp, 0, none⟩)] 47 (0, 0))) (.cells #[.int .i64 0, .int .i64 0] 27 (0, 0)) (w.heap.size + 1) (by simp))
  clear hQ hlt
  go_enter Tryd.func50, Tryd.ntmps50
  go_wp2_with fail
  with_reducible refine (HQ.out _ (by exact (by repeat first | (with_reducible assumption) | (with_reducible exact Keep.refl _ _) | (with_reducible refine Keep.alloc ?_ _) | (with_reducible refine Keep.drew ?_) | (with_reducible refine Keep.drewN ?_ _) | (with_reducible refine Keep.setCell ?_ (.inl (by first | omega | (simp; done) | (simp; omega) | fail)) _)))).mono ?_
  rintro e w1 ⟨rfl, B1, h1⟩
  have HB1 := Lib.hid ((h1.2.1.block (w.heap.size + 1) (by simp) (fun e => by have := HL.out _ e; omega)).trans HB.out)
  have NB := Lib.hid (show ∀ k, CoF xp B1 a' k → k ≠ w.heap.size + 1 from fun k hk e => by
    subst e
    rcases h1.2.2 _ hk with e | e
    · have := HL.out _ e; omega
    · simp at e; omega)
  have H1 := Lib.hid (CoAt.from_ (w := w) (by exact (by repeat first | (with_reducible assumption) | (with_reducible exact Keep.refl _ _) | (with_reducible refine Keep.alloc ?_ _) | (with_reducible refine Keep.drew ?_) | (with_reducible refine Keep.drewN ?_ _) | (with_reducible refine Keep.setCell ?_ (.inl (by first | omega | (simp; done) | (simp; omega) | fail)) _))) h1)
  clear h1
  obtain ⟨b0, b1, bf⟩ := cells2 HB1.out
  go_wp2
  refine bodyPost_ret (results_idb Tryd.results50 _ _ (w.heap.size + 1) (.int .i64 ix) (.int .i64 gn) ?_ ?_ (.int .i64 er) ?_) ?_ ⟨?_, ?_⟩
  · rfl
  · exact heap_twoJ HB1.out _ _
  · rfl
  · rfl
  · rfl
  · exact (H1.out.besides (keep2 _ (w.heap.size + 1) _ _) (fun k hk => NB.out k hk) (fun k e => by have : k = w.heap.size + 1 := e; omega)).to
theorem flc_set {y : IdZ} {k : Int} {d : Value} (hQ : ∀ X, Keep (fun _ => False) w X → Calls Tryd.prog 53 #[.pointer (some ⟨xp, 0, none⟩), .agg #[.int .i64 y.ix, .int .i64 y.gen], .int .i64 k, d] X fun e w' => e = .returned (.int .i64 er) ∧ CoTo X c xp (CoF xp B a) q' a' w') :
    Calls Tryd.prog 49 #[.agg #[.pointer (some ⟨xp, 0, none⟩)], .agg #[.int .i64 y.ix, .int .i64 y.gen], .int .i64 k, d] w fun e w' => e = .returned (.int .i64 er) ∧ CoTo w c xp (CoF xp B a) q' a' w' := by
  have HQ := Lib.hid hQ
  clear hQ
  go_enter Tryd.func49, Tryd.ntmps49
  go_wp2_with fail
  with_reducible refine (HQ.out _ (by exact (by repeat first | (with_reducible assumption) | (with_reducible exact Keep.refl _ _) | (with_reducible refine Keep.alloc ?_ _) | (with_reducible refine Keep.drew ?_) | (with_reducible refine Keep.drewN ?_ _) | (with_reducible refine Keep.setCell ?_ (.inl (by first | omega | (simp; done) | (simp; omega) | fail)) _)))).mono ?_
  rintro e w1 ⟨rfl, B1, h1⟩
  have H1 := Lib.hid (CoAt.from_ (w := w) (by exact (by repeat first | (with_reducible assumption) | (with_reducible exact Keep.refl _ _) | (with_reducible refine Keep.alloc ?_ _) | (with_reducible refine Keep.drew ?_) | (with_reducible refine Keep.drewN ?_ _) | (with_reducible refine Keep.setCell ?_ (.inl (by first | omega | (simp; done) | (simp; omega) | fail)) _))) h1)
  clear h1
  go_wp2
  go_ret
  exact ⟨rfl, H1.out.to⟩
theorem fl_one_spawn (hlt : ∀ k, CoF xp B a k → k < w.heap.size) (hQ : ∀ X, Keep (fun _ => False) w X → Calls Tryd.prog 54 #[.pointer (some ⟨xp, 0, none⟩)] X fun e w' => e = .returned (.tuple #[.agg #[.int .i64 ix, .int .i64 gn], .int .i64 er]) ∧ CoTo X c xp (CoF xp B a) q' a' w')
    (x : Cmd) (hx : x.do_ = 0) (d : Value) (y : IdZ) : Calls Tryd.prog 18 #[ivC xp, cmV x d, .agg #[.int .i64 y.ix, .int .i64 y.gen]] w fun e w' => e = .returned (.agg #[.int .i64 er, .int .i64 ix, .int .i64 gn]) ∧ CoTo w c xp (CoF xp B a) q' a' w' := by
  have SP := Lib.hid (fun X (hk : Keep (fun _ => False) w X) => flc_spawn (c := c) (q' := q') (a' := a') (w := X) (fun k h => Nat.lt_of_lt_of_le (hlt k h) hk.size) (fun Y hY => hQ Y (hk.trans hY (fun _ _ h => h))))
  have HL := Lib.hid hlt
  have hm : ∀ W : World, (method 263 47 (.agg #[.pointer (some ⟨xp, 0, none⟩)]) "vivarium/flush.spawn").run Tryd.prog W = .ok (50, .agg #[.pointer (some ⟨xp, 0, none⟩)]) W := fun _ => by kernel_rfl
  unfold cmV ivC
  rw [hx]
  clear hQ hlt
  go_enter Tryd.func18, Tryd.ntmps18
  go_upto_region 1 with fail
  refine wp_world (S := fun X => X.heap[w.heap.size]? = some (.cells #[.int .i64 0, .bool x.loc, .int .i64 x.idx, .int .i64 x.gen, .int .i64 x.comp, d] 37 (0, 0)) ∧ X.heap[w.heap.size + 1 + 1]? = some (.cells #[.int .i64 0, .int .i64 0, .int .i64 0] 33 (0, 0)) ∧ Keep (fun _ => False) w X) ⟨by rw [Below.heap_alloc _ _ _ (by simp; omega)]; first | (exact heap_alloc_at _ _ _ (by first | rfl | (simp; done))) | (rw [Below.heap_alloc _ _ _ (by simp)]; exact heap_alloc_at _ _ _ (by first | rfl | (simp; done))) | (rw [heap_drew', Below.heap_alloc _ _ _ (by simp)]; exact heap_alloc_at _ _ _ (by first | rfl | (simp; done))) | (rw [heap_drew']; exact heap_alloc_at _ _ _ (by first | rfl | (simp; done))) | fail, by exact heap_alloc_at _ _ _ (by simp), by exact (by repeat first | (with_reducible assumption) | (with_reducible exact Keep.refl _ _) | (with_reducible refine Keep.alloc ?_ _) | (with_reducible refine Keep.drew ?_) | (with_reducible refine Keep.drewN ?_ _) | (with_reducible refine Keep.setCell ?_ (.inl (by first | omega | (simp; done) | (simp; omega) | fail)) _))⟩ ?_
  rintro w2 ⟨h21, h22, h23⟩
  have H2 := Lib.hid (And.intro h22 h23)
  obtain ⟨y0, y1, y2, y3, y4, y5, yf⟩ := cells6 h21
  clear h21 h22 h23
  have z2 : w.heap.size + 2 < w2.heap.size := by have := (Array.getElem?_eq_some_iff.1 H2.out.1).1; omega
  go_wp2_with fail
  with_reducible refine (SP.out _ H2.out.2).mono ?_
  rintro e w3 ⟨rfl, B3, h3⟩
  have HB3 := Lib.hid ((h3.2.1.block (w.heap.size + 1 + 1) (by omega) (fun e => by have := HL.out _ e; omega)).trans H2.out.1)
  have NB := Lib.hid (show ∀ k, CoF xp B3 a' k → k ≠ w.heap.size + 1 + 1 from fun k hk e => by
    subst e
    rcases h3.2.2 _ hk with e | e
    · have := HL.out _ e; omega
    · omega)
  have H3 := Lib.hid (CoAt.from_ H2.out.2 h3)
  clear h3
  obtain ⟨b0, b1, b2, bf⟩ := cells3 HB3.out
  go_wp2
  refine bodyPost_ret (results_rs Tryd.results18 _ _ (w.heap.size + 1 + 1) (.int .i64 er) (.int .i64 ix) (.int .i64 gn) ?_ ?_) ?_ ⟨?_, ?_⟩
  · rfl
  · exact heap_6s HB3.out _ _ _
  · rfl
  · rfl
  · exact (H3.out.besides (keep_6s _ (w.heap.size + 1 + 1) _ _ _) (fun k hk => NB.out k hk) (fun k e => by have : k = w.heap.size + 1 + 1 := e; omega)).to
theorem fl_one_set (hlt : ∀ k, CoF xp B a k → k < w.heap.size) (x : Cmd) (hx : x.do_ = 2) (d : Value) (y : IdZ) (hQ : ∀ X, Keep (fun _ => False) w X → Calls Tryd.prog 53 #[.pointer (some ⟨xp, 0, none⟩), .agg #[.int .i64 y.ix, .int .i64 y.gen], .int .i64 x.comp, d] X fun e w' => e = .returned (.int .i64 er) ∧ CoTo X c xp (CoF xp B a) q' a' w')
    (hd : ∃ A n cc, d = .slice A n cc) : Calls Tryd.prog 18 #[ivC xp, cmV x d, .agg #[.int .i64 y.ix, .int .i64 y.gen]] w fun e w' => e = .returned (.agg #[.int .i64 er, .int .i64 0, .int .i64 0]) ∧ CoTo w c xp (CoF xp B a) q' a' w' := by
  have SP := Lib.hid (fun X (hk : Keep (fun _ => False) w X) => flc_set (c := c) (q' := q') (a' := a') (w := X) (fun Y hY => hQ Y (hk.trans hY (fun _ _ h => h))))
  have HL := Lib.hid hlt
  have hm : ∀ W : World, (method 263 47 (.agg #[.pointer (some ⟨xp, 0, none⟩)]) "vivarium/flush.set").run Tryd.prog W = .ok (49, .agg #[.pointer (some ⟨xp, 0, none⟩)]) W := fun _ => by kernel_rfl
  obtain ⟨Ad, nd, cd, rfl⟩ := hd
  unfold cmV ivC
  rw [hx]
  clear hQ hlt
  go_enter Tryd.func18, Tryd.ntmps18
  go_upto_region 1 with fail
  refine wp_world (S := fun X => X.heap[w.heap.size]? = some (.cells #[.int .i64 2, .bool x.loc, .int .i64 x.idx, .int .i64 x.gen, .int .i64 x.comp, .slice Ad nd cd] 37 (0, 0)) ∧ X.heap[w.heap.size + 1]? = some (.cells #[.int .i64 y.ix, .int .i64 y.gen] 27 (0, 0)) ∧ X.heap[w.heap.size + 1 + 1]? = some (.cells #[.int .i64 0, .int .i64 0, .int .i64 0] 33 (0, 0)) ∧ Keep (fun _ => False) w X) ⟨by rw [Below.heap_alloc _ _ _ (by simp; omega)]; first | (exact heap_alloc_at _ _ _ (by first | rfl | (simp; done))) | (rw [Below.heap_alloc _ _ _ (by simp)]; exact heap_alloc_at _ _ _ (by first | rfl | (simp; done))) | (rw [heap_drew', Below.heap_alloc _ _ _ (by simp)]; exact heap_alloc_at _ _ _ (by first | rfl | (simp; done))) | (rw [heap_drew']; exact heap_alloc_at _ _ _ (by first | rfl | (simp; done))) | fail, by first | (exact heap_alloc_at _ _ _ (by first | rfl | (simp; done))) | (rw [Below.heap_alloc _ _ _ (by simp)]; exact heap_alloc_at _ _ _ (by first | rfl | (simp; done))) | (rw [heap_drew', Below.heap_alloc _ _ _ (by simp)]; exact heap_alloc_at _ _ _ (by first | rfl | (simp; done))) | (rw [heap_drew']; exact heap_alloc_at _ _ _ (by first | rfl | (simp; done))) | fail, by exact heap_alloc_at _ _ _ (by simp), by exact (by repeat first | (with_reducible assumption) | (with_reducible exact Keep.refl _ _) | (with_reducible refine Keep.alloc ?_ _) | (with_reducible refine Keep.drew ?_) | (with_reducible refine Keep.drewN ?_ _) | (with_reducible refine Keep.setCell ?_ (.inl (by first | omega | (simp; done) | (simp; omega) | fail)) _))⟩ ?_
  rintro w2 ⟨h21, h24, h22, h23⟩
  have H2 := Lib.hid (And.intro h22 h23)
  obtain ⟨y0, y1, y2, y3, y4, y5, yf⟩ := cells6 h21
  obtain ⟨v0, v1, vf⟩ := cells2 h24
  clear h21 h22 h23 h24
  have z2 : w.heap.size + 2 < w2.heap.size := by have := (Array.getElem?_eq_some_iff.1 H2.out.1).1; omega
  go_wp2_with fail
  with_reducible refine (SP.out _ H2.out.2).mono ?_
  rintro e w3 ⟨rfl, B3, h3⟩
  have HB3 := Lib.hid ((h3.2.1.block (w.heap.size + 1 + 1) (by omega) (fun e => by have := HL.out _ e; omega)).trans H2.out.1)
  have NB := Lib.hid (show ∀ k, CoF xp B3 a' k → k ≠ w.heap.size + 1 + 1 from fun k hk e => by
    subst e
    rcases h3.2.2 _ hk with e | e
    · have := HL.out _ e; omega
    · omega)
  have H3 := Lib.hid (CoAt.from_ H2.out.2 h3)
  clear h3
  obtain ⟨b0, b1, b2, bf⟩ := cells3 HB3.out
  go_wp2
  refine bodyPost_ret (results_rs Tryd.results18 _ _ (w.heap.size + 1 + 1) (.int .i64 er) (.int .i64 0) (.int .i64 0) ?_ ?_) ?_ ⟨?_, ?_⟩
  · rfl
  · exact heap_4s HB3.out _
  · rfl
  · rfl
  · exact (H3.out.besides (keep_4s _ (w.heap.size + 1 + 1) _ _ _) (fun k hk => NB.out k hk) (fun k e => by have : k = w.heap.size + 1 + 1 := e; omega)).to
end
end Go.Proofs.YtglliendhbkkhaaDoor

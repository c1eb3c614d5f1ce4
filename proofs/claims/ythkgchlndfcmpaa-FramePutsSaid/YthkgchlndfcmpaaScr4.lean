/- Contracts of script.Plain and vivariumref31.Plain. Printed by genscr4.py. -/
import Derived.Test.YthkgchlndfcmpaaScr2
import Derived.Deep.RegionHeld3
import Derived.Deep.RegionLaw
import Derived.Laws.ResultCell
import Derived.Test.YthkgchlndfcmpaaScrPl
namespace Go.Proofs.Ythkgchlndfcmpaa
open Go.RowKit
set_option maxRecDepth 100000
set_option linter.unusedVariables false
set_option linter.unusedSimpArgs false

/-- An act that a call hands back. -/
def APost (w : World) (G : Nat → Prop) (y : Ac) (e : Ending) (w' : World) : Prop :=
  ∃ A1 c1 A2 c2 A3 c3, e = .returned (actV y (.slice A1 y.c.l.length c1) (.slice A2 y.fa.length c2) (.slice A3 y.fu.length c3)) ∧ AM w' G y (.slice A1 y.c.l.length c1) (.slice A2 y.fa.length c2) (.slice A3 y.fu.length c3) ∧ Below w.heap.size w w'
theorem under_act : Try.prog.underlying 45 = some (.struct (Try.prog.fieldsOf 45)) := by kernel_rfl
theorem size_act : (Try.prog.info? 45).map (·.size) = some 12 := by kernel_rfl
theorem results_act {fn : Func} {p : Tmp} (h : fn.results = #[.cell p 45]) (tmps : Array Value) (w : World) (g : Nat) (c0 c1 c2 c3 c4 c5 c6 c7 c8 c9 c10 c11 : Value)
    (hp : tmps.getD p undef = .pointer (some ⟨g, 0, none⟩)) (hg : w.heap[g]? = some (.cells #[c0, c1, c2, c3, c4, c5, c6, c7, c8, c9, c10, c11] 45 (0, 0))) :
    (results fn tmps).run Try.prog w = .ok (.agg #[c0, c1, c2, c3, c4, c5, c6, c7, c8, c9, c10, c11]) w :=
  results_cell_row h tmps w g 45 _ (0, 0) _ hp hg under_act rfl size_act
/-- The three boxes: the argument's, the result's, the one that is filled. -/
def PB (w : World) (X0 Y0 : List Value) (W : World) : Prop :=
  W.heap[w.heap.size]? = some (.cells X0.toArray 45 (0, 0)) ∧
  W.heap[w.heap.size + 1]? = some (.cells #[.int .i64 0, .int .i64 0, .bool false, .int .i64 0, .int .i64 0, .int .i64 0, .slice none 0 0, .int .i64 0, .int .i64 0, .int .i64 0, .slice none 0 0, .slice none 0 0] 45 (0, 0)) ∧
  W.heap[w.heap.size + 2]? = some (.cells Y0.toArray 45 (0, 0)) ∧ Below w.heap.size w W
theorem PB.keep {w W W' : World} {X0 Y0 : List Value} {S : Nat → Prop} (h : PB w X0 Y0 W) (hk : Keep S W W') (hs : ∀ x, S x → w.heap.size + 2 < x) : PB w X0 Y0 W' :=
  ⟨(hk.block _ (Array.getElem?_eq_some_iff.1 h.1).1 (fun hx => by have := hs _ hx; omega)).trans h.1, (hk.block _ (Array.getElem?_eq_some_iff.1 h.2.1).1 (fun hx => by have := hs _ hx; omega)).trans h.2.1, (hk.block _ (Array.getElem?_eq_some_iff.1 h.2.2.1).1 (fun hx => by have := hs _ hx; omega)).trans h.2.2.1,
   ((Keep.of_below h.2.2.2).trans hk (fun x _ hS => by have := hs _ hS; omega)).to_below (Nat.le_refl _)⟩
theorem PB.set_ {w W : World} {X0 Y0 : List Value} (h : PB w X0 Y0 W) (k : Nat) (z : Value) : PB w X0 (Y0.set k z) (W.setCell ⟨w.heap.size + 2, k, none⟩ z) :=
  have hk : Keep (fun x => x = w.heap.size + 2) W (W.setCell ⟨w.heap.size + 2, k, none⟩ z) := Keep.setCell (S := fun x => x = w.heap.size + 2) (p := ⟨w.heap.size + 2, k, none⟩) (Keep.refl _ _) (.inr rfl) _
  ⟨(hk.block _ (Array.getElem?_eq_some_iff.1 h.1).1 (by omega)).trans h.1, (hk.block _ (Array.getElem?_eq_some_iff.1 h.2.1).1 (by omega)).trans h.2.1, by rw [heap_setCell_same W (w.heap.size + 2) k _ _ _ h.2.2.1]; simp, ((Keep.of_below h.2.2.2).trans hk (fun x _ hS => by omega)).to_below (Nat.le_refl _)⟩
theorem keep1 (W : World) (R k : Nat) (z : Value) : Keep (fun x => x = R) W (W.setCell ⟨R, k, none⟩ z) := Keep.setCell (S := fun x => x = R) (p := ⟨R, k, none⟩) (Keep.refl _ _) (.inr rfl) _
/-- Blocks that came in, and those behind the three boxes. -/
def GP (w : World) (F : Nat → Prop) (b : Nat) : Prop := (F b ∧ b < w.heap.size) ∨ w.heap.size + 2 < b
theorem gp_keep {w W W' : World} {F : Nat → Prop} {R : Nat} {v : Value} {l : List UInt8} (h : By W (GP w F) v l) (hk : Keep (fun x => x = R) W W') (hR : w.heap.size ≤ R ∧ R ≤ w.heap.size + 2) : By W' (GP w F) v l :=
  h.keep hk (fun b _ hb e => by unfold GP at hb; rcases hb with hb | hb <;> omega)
theorem gp_out {w W : World} {F : Nat → Prop} {v : Value} {l : List UInt8} (h : By W (GP w F) v l) : By W (fun b => F b ∨ w.heap.size ≤ b) v l :=
  h.mono (fun b _ hb => by
    unfold GP at hb
    rcases hb with hb | hb
    · exact .inl hb.1
    · exact .inr (by omega))
theorem gp_mlkeep {α : Type} {f : α → List Value} {m : Nat} {w W W' : World} {F : Nat → Prop} {R : Nat} {v : Value} {l : List α} (h : ML f m W (GP w F) v l) (hk : Keep (fun x => x = R) W W') (hR : w.heap.size ≤ R ∧ R ≤ w.heap.size + 2) : ML f m W' (GP w F) v l :=
  h.keep hk (fun b _ hb e => by unfold GP at hb; rcases hb with hb | hb <;> omega)
theorem gp_mlout {α : Type} {f : α → List Value} {m : Nat} {w W : World} {F : Nat → Prop} {v : Value} {l : List α} (h : ML f m W (GP w F) v l) : ML f m W (fun b => F b ∨ w.heap.size ≤ b) v l :=
  h.mono (fun b _ hb => by
    unfold GP at hb
    rcases hb with hb | hb
    · exact .inl hb.1
    · exact .inr (by omega))
theorem plainA_0 {x : Ac} (h : x.do_ = 0) : plainA x = ⟨0, plainC x.c, 0, 0, 0, [], []⟩ := by unfold plainA; rw [if_pos h]
theorem plainA_4 {x : Ac} (h : x.do_ = 4) : plainA x = ⟨4, zeroCm, x.room, x.frames, 0, [], []⟩ := by unfold plainA; rw [if_neg (by omega), if_pos h]
theorem plainA_5 {x : Ac} (h : x.do_ = 5) : plainA x = ⟨5, zeroCm, 0, 0, x.n, [], []⟩ := by unfold plainA; rw [if_neg (by omega), if_neg (by omega), if_pos h]
theorem plainA_6 {x : Ac} (h : x.do_ = 6) : plainA x = ⟨6, zeroCm, 0, 0, 0, x.fa, x.fu⟩ := by unfold plainA; rw [if_neg (by omega), if_neg (by omega), if_neg (by omega), if_pos h]
theorem plainA_o {x : Ac} (h0 : x.do_ ≠ 0) (h4 : x.do_ ≠ 4) (h5 : x.do_ ≠ 5) (h6 : x.do_ ≠ 6) : plainA x = ⟨x.do_, zeroCm, 0, 0, 0, [], []⟩ := by unfold plainA; rw [if_neg h0, if_neg h4, if_neg h5, if_neg h6]
set_option maxHeartbeats 4000000 in
theorem rp_o (d : Int) (cm : Cmd) (room frames nn : Int) (fa : List Fa) (fu : List Int) (A1 A2 A3 : Option Addr) (m1 m2 m3 c1 c2 c3 : Nat) (F : Nat → Prop) (w : World) (z0 : d ≠ 0) (z4 : d ≠ 4) (z5 : d ≠ 5) (z6 : d ≠ 6) (h : AM w F ⟨d, cm, room, frames, nn, fa, fu⟩ (.slice A1 m1 c1) (.slice A2 m2 c2) (.slice A3 m3 c3)) :
    Calls Try.prog 29 #[.agg #[.int .i64 d, .int .i64 cm.do_, .bool cm.loc, .int .i64 cm.idx, .int .i64 cm.gen, .int .i64 cm.comp, .slice A1 m1 c1, .int .i64 room, .int .i64 frames, .int .i64 nn, .slice A2 m2 c2, .slice A3 m3 c3]] w (APost w (fun b => F b ∨ w.heap.size ≤ b) (plainA ⟨d, cm, room, frames, nn, fa, fu⟩)) := by
  rw [plainA_o z0 z4 z5 z6]
  have n0 : (d == 0) = false := by simpa using z0
  have n4 : (d == 4) = false := by simpa using z4
  have n5 : (d == 5) = false := by simpa using z5
  have n6 : (d == 6) = false := by simpa using z6
  have HA := Lib.hid (show AM w (fun b => F b ∧ b < w.heap.size) _ _ _ _ from h.mono (fun b hb hF => ⟨hF, hb⟩))
  clear h
  go_enter Try.func29, Try.ntmps29
  go_upto_region 2 with fail
  refine wp_world (S := PB w [.int .i64 d, .int .i64 cm.do_, .bool cm.loc, .int .i64 cm.idx, .int .i64 cm.gen, .int .i64 cm.comp, .slice A1 m1 c1, .int .i64 room, .int .i64 frames, .int .i64 nn, .slice A2 m2 c2, .slice A3 m3 c3] [.int .i64 d, .int .i64 0, .bool false, .int .i64 0, .int .i64 0, .int .i64 0, .slice none 0 0, .int .i64 0, .int .i64 0, .int .i64 0, .slice none 0 0, .slice none 0 0]) ⟨?c0, ?c1, ?c2, ?c3⟩ ?_
  case c0 => exact (heap_alloc_old _ _ (by simp; omega)).trans ((heap_alloc_old _ _ (by simp)).trans (heap_alloc_new w _))
  case c1 => exact (heap_alloc_old _ _ (by simp)).trans (heap_alloc_at _ _ _ (by simp))
  case c2 => exact heap_alloc_at _ _ _ (by simp)
  case c3 => exact (by repeat first | exact Below.refl _ _ | refine Below.setCell ?_ (by first | omega | (simp; done) | (simp; omega)) _ | refine Below.alloc ?_ (by first | omega | (simp; done) | (simp; omega)) _ | refine Below.drew ?_ | refine below_drewN ?_ _ | assumption)
  intro X hX
  have HX := Lib.hid hX
  clear hX
  obtain ⟨x0, x1, x2, x3, x4, x5, x6, x7, x8, x9, x10, x11, xf⟩ := cells12 HX.out.1
  obtain ⟨y0, y1, y2, y3, y4, y5, y6, y7, y8, y9, y10, y11, yf⟩ := cells12 HX.out.2.2.1
  obtain ⟨r0, r1, r2, r3, r4, r5, r6, r7, r8, r9, r10, r11, rf⟩ := cells12 HX.out.2.1
  go_wp2
  have KK := keepS12 X (w.heap.size + 1) (.int .i64 d) (.int .i64 0) (.bool false) (.int .i64 0) (.int .i64 0) (.int .i64 0) (.slice none 0 0) (.int .i64 0) (.int .i64 0) (.int .i64 0) (.slice none 0 0) (.slice none 0 0)
  have HS := stored12 HX.out.2.1 (.int .i64 d) (.int .i64 0) (.bool false) (.int .i64 0) (.int .i64 0) (.int .i64 0) (.slice none 0 0) (.int .i64 0) (.int .i64 0) (.int .i64 0) (.slice none 0 0) (.slice none 0 0)
  generalize ((((((((((((X.setCell ⟨w.heap.size + 1, 0, none⟩ (.int .i64 d)).setCell ⟨w.heap.size + 1, 1, none⟩ (.int .i64 0)).setCell ⟨w.heap.size + 1, 2, none⟩ (.bool false)).setCell ⟨w.heap.size + 1, 3, none⟩ (.int .i64 0)).setCell ⟨w.heap.size + 1, 4, none⟩ (.int .i64 0)).setCell ⟨w.heap.size + 1, 5, none⟩ (.int .i64 0)).setCell ⟨w.heap.size + 1, 6, none⟩ (.slice none 0 0)).setCell ⟨w.heap.size + 1, 7, none⟩ (.int .i64 0)).setCell ⟨w.heap.size + 1, 8, none⟩ (.int .i64 0)).setCell ⟨w.heap.size + 1, 9, none⟩ (.int .i64 0)).setCell ⟨w.heap.size + 1, 10, none⟩ (.slice none 0 0)).setCell ⟨w.heap.size + 1, 11, none⟩ (.slice none 0 0)) = W7 at KK HS ⊢
  refine bodyPost_ret (results_act rfl _ _ (w.heap.size + 1) _ _ _ _ _ _ _ _ _ _ _ _ rfl (show W7.heap[w.heap.size + 1]? = _ from HS)) rfl ?_
  have KB := ((Keep.of_below HX.out.2.2.2).trans KK (fun x _ e => by omega)).to_below (Nat.le_refl _)
  exact ⟨none, 0, none, 0, none, 0, rfl, ⟨By.nil _ _, ML.nil _ _ _ _, ML.nil _ _ _ _⟩, KB⟩
set_option maxHeartbeats 4000000 in
theorem rp_4 (cm : Cmd) (room frames nn : Int) (fa : List Fa) (fu : List Int) (A1 A2 A3 : Option Addr) (m1 m2 m3 c1 c2 c3 : Nat) (F : Nat → Prop) (w : World) (h : AM w F ⟨4, cm, room, frames, nn, fa, fu⟩ (.slice A1 m1 c1) (.slice A2 m2 c2) (.slice A3 m3 c3)) :
    Calls Try.prog 29 #[.agg #[.int .i64 4, .int .i64 cm.do_, .bool cm.loc, .int .i64 cm.idx, .int .i64 cm.gen, .int .i64 cm.comp, .slice A1 m1 c1, .int .i64 room, .int .i64 frames, .int .i64 nn, .slice A2 m2 c2, .slice A3 m3 c3]] w (APost w (fun b => F b ∨ w.heap.size ≤ b) (plainA ⟨4, cm, room, frames, nn, fa, fu⟩)) := by
  rw [plainA_4 rfl]
  have HA := Lib.hid (show AM w (fun b => F b ∧ b < w.heap.size) _ _ _ _ from h.mono (fun b hb hF => ⟨hF, hb⟩))
  clear h
  go_enter Try.func29, Try.ntmps29
  go_upto_region 2 with fail
  refine wp_world (S := PB w [.int .i64 4, .int .i64 cm.do_, .bool cm.loc, .int .i64 cm.idx, .int .i64 cm.gen, .int .i64 cm.comp, .slice A1 m1 c1, .int .i64 room, .int .i64 frames, .int .i64 nn, .slice A2 m2 c2, .slice A3 m3 c3] [.int .i64 4, .int .i64 0, .bool false, .int .i64 0, .int .i64 0, .int .i64 0, .slice none 0 0, .int .i64 0, .int .i64 0, .int .i64 0, .slice none 0 0, .slice none 0 0]) ⟨?c0, ?c1, ?c2, ?c3⟩ ?_
  case c0 => exact (heap_alloc_old _ _ (by simp; omega)).trans ((heap_alloc_old _ _ (by simp)).trans (heap_alloc_new w _))
  case c1 => exact (heap_alloc_old _ _ (by simp)).trans (heap_alloc_at _ _ _ (by simp))
  case c2 => exact heap_alloc_at _ _ _ (by simp)
  case c3 => exact (by repeat first | exact Below.refl _ _ | refine Below.setCell ?_ (by first | omega | (simp; done) | (simp; omega)) _ | refine Below.alloc ?_ (by first | omega | (simp; done) | (simp; omega)) _ | refine Below.drew ?_ | refine below_drewN ?_ _ | assumption)
  intro X hX
  have HX := Lib.hid hX
  clear hX
  obtain ⟨x0, x1, x2, x3, x4, x5, x6, x7, x8, x9, x10, x11, xf⟩ := cells12 HX.out.1
  obtain ⟨y0, y1, y2, y3, y4, y5, y6, y7, y8, y9, y10, y11, yf⟩ := cells12 HX.out.2.2.1
  obtain ⟨r0, r1, r2, r3, r4, r5, r6, r7, r8, r9, r10, r11, rf⟩ := cells12 HX.out.2.1
  go_upto_region 6 with fail
  refine wp_world (S := PB w [.int .i64 4, .int .i64 cm.do_, .bool cm.loc, .int .i64 cm.idx, .int .i64 cm.gen, .int .i64 cm.comp, .slice A1 m1 c1, .int .i64 room, .int .i64 frames, .int .i64 nn, .slice A2 m2 c2, .slice A3 m3 c3] [.int .i64 4, .int .i64 0, .bool false, .int .i64 0, .int .i64 0, .int .i64 0, .slice none 0 0, .int .i64 room, .int .i64 frames, .int .i64 0, .slice none 0 0, .slice none 0 0]) ((HX.out.set_ 7 (.int .i64 room)).set_ 8 (.int .i64 frames)) ?_
  intro Z hZ
  have HZ := Lib.hid hZ
  clear hZ
  clear x0 x1 x2 x3 x4 x5 x6 x7 x8 x9 x10 x11 xf y0 y1 y2 y3 y4 y5 y6 y7 y8 y9 y10 y11 yf r0 r1 r2 r3 r4 r5 r6 r7 r8 r9 r10 r11 rf
  obtain ⟨x0, x1, x2, x3, x4, x5, x6, x7, x8, x9, x10, x11, xf⟩ := cells12 HZ.out.1
  obtain ⟨y0, y1, y2, y3, y4, y5, y6, y7, y8, y9, y10, y11, yf⟩ := cells12 HZ.out.2.2.1
  obtain ⟨r0, r1, r2, r3, r4, r5, r6, r7, r8, r9, r10, r11, rf⟩ := cells12 HZ.out.2.1
  go_wp2
  have KK := keepS12 Z (w.heap.size + 1) (.int .i64 4) (.int .i64 0) (.bool false) (.int .i64 0) (.int .i64 0) (.int .i64 0) (.slice none 0 0) (.int .i64 room) (.int .i64 frames) (.int .i64 0) (.slice none 0 0) (.slice none 0 0)
  have HS := stored12 HZ.out.2.1 (.int .i64 4) (.int .i64 0) (.bool false) (.int .i64 0) (.int .i64 0) (.int .i64 0) (.slice none 0 0) (.int .i64 room) (.int .i64 frames) (.int .i64 0) (.slice none 0 0) (.slice none 0 0)
  generalize ((((((((((((Z.setCell ⟨w.heap.size + 1, 0, none⟩ (.int .i64 4)).setCell ⟨w.heap.size + 1, 1, none⟩ (.int .i64 0)).setCell ⟨w.heap.size + 1, 2, none⟩ (.bool false)).setCell ⟨w.heap.size + 1, 3, none⟩ (.int .i64 0)).setCell ⟨w.heap.size + 1, 4, none⟩ (.int .i64 0)).setCell ⟨w.heap.size + 1, 5, none⟩ (.int .i64 0)).setCell ⟨w.heap.size + 1, 6, none⟩ (.slice none 0 0)).setCell ⟨w.heap.size + 1, 7, none⟩ (.int .i64 room)).setCell ⟨w.heap.size + 1, 8, none⟩ (.int .i64 frames)).setCell ⟨w.heap.size + 1, 9, none⟩ (.int .i64 0)).setCell ⟨w.heap.size + 1, 10, none⟩ (.slice none 0 0)).setCell ⟨w.heap.size + 1, 11, none⟩ (.slice none 0 0)) = W7 at KK HS ⊢
  refine bodyPost_ret (results_act rfl _ _ (w.heap.size + 1) _ _ _ _ _ _ _ _ _ _ _ _ rfl (show W7.heap[w.heap.size + 1]? = _ from HS)) rfl ?_
  have KB := ((Keep.of_below HZ.out.2.2.2).trans KK (fun x _ e => by omega)).to_below (Nat.le_refl _)
  exact ⟨none, 0, none, 0, none, 0, rfl, ⟨By.nil _ _, ML.nil _ _ _ _, ML.nil _ _ _ _⟩, KB⟩
set_option maxHeartbeats 4000000 in
theorem rp_5 (cm : Cmd) (room frames nn : Int) (fa : List Fa) (fu : List Int) (A1 A2 A3 : Option Addr) (m1 m2 m3 c1 c2 c3 : Nat) (F : Nat → Prop) (w : World) (h : AM w F ⟨5, cm, room, frames, nn, fa, fu⟩ (.slice A1 m1 c1) (.slice A2 m2 c2) (.slice A3 m3 c3)) :
    Calls Try.prog 29 #[.agg #[.int .i64 5, .int .i64 cm.do_, .bool cm.loc, .int .i64 cm.idx, .int .i64 cm.gen, .int .i64 cm.comp, .slice A1 m1 c1, .int .i64 room, .int .i64 frames, .int .i64 nn, .slice A2 m2 c2, .slice A3 m3 c3]] w (APost w (fun b => F b ∨ w.heap.size ≤ b) (plainA ⟨5, cm, room, frames, nn, fa, fu⟩)) := by
  rw [plainA_5 rfl]
  have HA := Lib.hid (show AM w (fun b => F b ∧ b < w.heap.size) _ _ _ _ from h.mono (fun b hb hF => ⟨hF, hb⟩))
  clear h
  go_enter Try.func29, Try.ntmps29
  go_upto_region 2 with fail
  refine wp_world (S := PB w [.int .i64 5, .int .i64 cm.do_, .bool cm.loc, .int .i64 cm.idx, .int .i64 cm.gen, .int .i64 cm.comp, .slice A1 m1 c1, .int .i64 room, .int .i64 frames, .int .i64 nn, .slice A2 m2 c2, .slice A3 m3 c3] [.int .i64 5, .int .i64 0, .bool false, .int .i64 0, .int .i64 0, .int .i64 0, .slice none 0 0, .int .i64 0, .int .i64 0, .int .i64 0, .slice none 0 0, .slice none 0 0]) ⟨?c0, ?c1, ?c2, ?c3⟩ ?_
  case c0 => exact (heap_alloc_old _ _ (by simp; omega)).trans ((heap_alloc_old _ _ (by simp)).trans (heap_alloc_new w _))
  case c1 => exact (heap_alloc_old _ _ (by simp)).trans (heap_alloc_at _ _ _ (by simp))
  case c2 => exact heap_alloc_at _ _ _ (by simp)
  case c3 => exact (by repeat first | exact Below.refl _ _ | refine Below.setCell ?_ (by first | omega | (simp; done) | (simp; omega)) _ | refine Below.alloc ?_ (by first | omega | (simp; done) | (simp; omega)) _ | refine Below.drew ?_ | refine below_drewN ?_ _ | assumption)
  intro X hX
  have HX := Lib.hid hX
  clear hX
  obtain ⟨x0, x1, x2, x3, x4, x5, x6, x7, x8, x9, x10, x11, xf⟩ := cells12 HX.out.1
  obtain ⟨y0, y1, y2, y3, y4, y5, y6, y7, y8, y9, y10, y11, yf⟩ := cells12 HX.out.2.2.1
  obtain ⟨r0, r1, r2, r3, r4, r5, r6, r7, r8, r9, r10, r11, rf⟩ := cells12 HX.out.2.1
  go_upto_region 8 with fail
  refine wp_world (S := PB w [.int .i64 5, .int .i64 cm.do_, .bool cm.loc, .int .i64 cm.idx, .int .i64 cm.gen, .int .i64 cm.comp, .slice A1 m1 c1, .int .i64 room, .int .i64 frames, .int .i64 nn, .slice A2 m2 c2, .slice A3 m3 c3] [.int .i64 5, .int .i64 0, .bool false, .int .i64 0, .int .i64 0, .int .i64 0, .slice none 0 0, .int .i64 0, .int .i64 0, .int .i64 nn, .slice none 0 0, .slice none 0 0]) (HX.out.set_ 9 (.int .i64 nn)) ?_
  intro Z hZ
  have HZ := Lib.hid hZ
  clear hZ
  clear x0 x1 x2 x3 x4 x5 x6 x7 x8 x9 x10 x11 xf y0 y1 y2 y3 y4 y5 y6 y7 y8 y9 y10 y11 yf r0 r1 r2 r3 r4 r5 r6 r7 r8 r9 r10 r11 rf
  obtain ⟨x0, x1, x2, x3, x4, x5, x6, x7, x8, x9, x10, x11, xf⟩ := cells12 HZ.out.1
  obtain ⟨y0, y1, y2, y3, y4, y5, y6, y7, y8, y9, y10, y11, yf⟩ := cells12 HZ.out.2.2.1
  obtain ⟨r0, r1, r2, r3, r4, r5, r6, r7, r8, r9, r10, r11, rf⟩ := cells12 HZ.out.2.1
  go_wp2
  have KK := keepS12 Z (w.heap.size + 1) (.int .i64 5) (.int .i64 0) (.bool false) (.int .i64 0) (.int .i64 0) (.int .i64 0) (.slice none 0 0) (.int .i64 0) (.int .i64 0) (.int .i64 nn) (.slice none 0 0) (.slice none 0 0)
  have HS := stored12 HZ.out.2.1 (.int .i64 5) (.int .i64 0) (.bool false) (.int .i64 0) (.int .i64 0) (.int .i64 0) (.slice none 0 0) (.int .i64 0) (.int .i64 0) (.int .i64 nn) (.slice none 0 0) (.slice none 0 0)
  generalize ((((((((((((Z.setCell ⟨w.heap.size + 1, 0, none⟩ (.int .i64 5)).setCell ⟨w.heap.size + 1, 1, none⟩ (.int .i64 0)).setCell ⟨w.heap.size + 1, 2, none⟩ (.bool false)).setCell ⟨w.heap.size + 1, 3, none⟩ (.int .i64 0)).setCell ⟨w.heap.size + 1, 4, none⟩ (.int .i64 0)).setCell ⟨w.heap.size + 1, 5, none⟩ (.int .i64 0)).setCell ⟨w.heap.size + 1, 6, none⟩ (.slice none 0 0)).setCell ⟨w.heap.size + 1, 7, none⟩ (.int .i64 0)).setCell ⟨w.heap.size + 1, 8, none⟩ (.int .i64 0)).setCell ⟨w.heap.size + 1, 9, none⟩ (.int .i64 nn)).setCell ⟨w.heap.size + 1, 10, none⟩ (.slice none 0 0)).setCell ⟨w.heap.size + 1, 11, none⟩ (.slice none 0 0)) = W7 at KK HS ⊢
  refine bodyPost_ret (results_act rfl _ _ (w.heap.size + 1) _ _ _ _ _ _ _ _ _ _ _ _ rfl (show W7.heap[w.heap.size + 1]? = _ from HS)) rfl ?_
  have KB := ((Keep.of_below HZ.out.2.2.2).trans KK (fun x _ e => by omega)).to_below (Nat.le_refl _)
  exact ⟨none, 0, none, 0, none, 0, rfl, ⟨By.nil _ _, ML.nil _ _ _ _, ML.nil _ _ _ _⟩, KB⟩
set_option maxHeartbeats 4000000 in
theorem rp_6 (cm : Cmd) (room frames nn : Int) (fa : List Fa) (fu : List Int) (A1 A2 A3 : Option Addr) (m1 m2 m3 c1 c2 c3 : Nat) (F : Nat → Prop) (w : World) (h : AM w F ⟨6, cm, room, frames, nn, fa, fu⟩ (.slice A1 m1 c1) (.slice A2 m2 c2) (.slice A3 m3 c3)) :
    Calls Try.prog 29 #[.agg #[.int .i64 6, .int .i64 cm.do_, .bool cm.loc, .int .i64 cm.idx, .int .i64 cm.gen, .int .i64 cm.comp, .slice A1 m1 c1, .int .i64 room, .int .i64 frames, .int .i64 nn, .slice A2 m2 c2, .slice A3 m3 c3]] w (APost w (fun b => F b ∨ w.heap.size ≤ b) (plainA ⟨6, cm, room, frames, nn, fa, fu⟩)) := by
  rw [plainA_6 rfl]
  have HA := Lib.hid (show AM w (fun b => F b ∧ b < w.heap.size) _ _ _ _ from h.mono (fun b hb hF => ⟨hF, hb⟩))
  clear h
  go_enter Try.func29, Try.ntmps29
  go_upto_region 2 with fail
  refine wp_world (S := PB w [.int .i64 6, .int .i64 cm.do_, .bool cm.loc, .int .i64 cm.idx, .int .i64 cm.gen, .int .i64 cm.comp, .slice A1 m1 c1, .int .i64 room, .int .i64 frames, .int .i64 nn, .slice A2 m2 c2, .slice A3 m3 c3] [.int .i64 6, .int .i64 0, .bool false, .int .i64 0, .int .i64 0, .int .i64 0, .slice none 0 0, .int .i64 0, .int .i64 0, .int .i64 0, .slice none 0 0, .slice none 0 0]) ⟨?c0, ?c1, ?c2, ?c3⟩ ?_
  case c0 => exact (heap_alloc_old _ _ (by simp; omega)).trans ((heap_alloc_old _ _ (by simp)).trans (heap_alloc_new w _))
  case c1 => exact (heap_alloc_old _ _ (by simp)).trans (heap_alloc_at _ _ _ (by simp))
  case c2 => exact heap_alloc_at _ _ _ (by simp)
  case c3 => exact (by repeat first | exact Below.refl _ _ | refine Below.setCell ?_ (by first | omega | (simp; done) | (simp; omega)) _ | refine Below.alloc ?_ (by first | omega | (simp; done) | (simp; omega)) _ | refine Below.drew ?_ | refine below_drewN ?_ _ | assumption)
  intro X hX
  have HX := Lib.hid hX
  clear hX
  obtain ⟨x0, x1, x2, x3, x4, x5, x6, x7, x8, x9, x10, x11, xf⟩ := cells12 HX.out.1
  obtain ⟨y0, y1, y2, y3, y4, y5, y6, y7, y8, y9, y10, y11, yf⟩ := cells12 HX.out.2.2.1
  obtain ⟨r0, r1, r2, r3, r4, r5, r6, r7, r8, r9, r10, r11, rf⟩ := cells12 HX.out.2.1
  go_upto_region 11 with fail
  refine wp_world (S := PB w [.int .i64 6, .int .i64 cm.do_, .bool cm.loc, .int .i64 cm.idx, .int .i64 cm.gen, .int .i64 cm.comp, .slice A1 m1 c1, .int .i64 room, .int .i64 frames, .int .i64 nn, .slice A2 m2 c2, .slice A3 m3 c3] [.int .i64 6, .int .i64 0, .bool false, .int .i64 0, .int .i64 0, .int .i64 0, .slice none 0 0, .int .i64 0, .int .i64 0, .int .i64 0, .slice A2 m2 c2, .slice A3 m3 c3]) ((HX.out.set_ 10 (.slice A2 m2 c2)).set_ 11 (.slice A3 m3 c3)) ?_
  intro Z hZ
  have HZ := Lib.hid hZ
  clear hZ
  clear x0 x1 x2 x3 x4 x5 x6 x7 x8 x9 x10 x11 xf y0 y1 y2 y3 y4 y5 y6 y7 y8 y9 y10 y11 yf r0 r1 r2 r3 r4 r5 r6 r7 r8 r9 r10 r11 rf
  obtain ⟨x0, x1, x2, x3, x4, x5, x6, x7, x8, x9, x10, x11, xf⟩ := cells12 HZ.out.1
  obtain ⟨y0, y1, y2, y3, y4, y5, y6, y7, y8, y9, y10, y11, yf⟩ := cells12 HZ.out.2.2.1
  obtain ⟨r0, r1, r2, r3, r4, r5, r6, r7, r8, r9, r10, r11, rf⟩ := cells12 HZ.out.2.1
  go_wp2
  have KK := keepS12 Z (w.heap.size + 1) (.int .i64 6) (.int .i64 0) (.bool false) (.int .i64 0) (.int .i64 0) (.int .i64 0) (.slice none 0 0) (.int .i64 0) (.int .i64 0) (.int .i64 0) (.slice A2 m2 c2) (.slice A3 m3 c3)
  have HS := stored12 HZ.out.2.1 (.int .i64 6) (.int .i64 0) (.bool false) (.int .i64 0) (.int .i64 0) (.int .i64 0) (.slice none 0 0) (.int .i64 0) (.int .i64 0) (.int .i64 0) (.slice A2 m2 c2) (.slice A3 m3 c3)
  generalize ((((((((((((Z.setCell ⟨w.heap.size + 1, 0, none⟩ (.int .i64 6)).setCell ⟨w.heap.size + 1, 1, none⟩ (.int .i64 0)).setCell ⟨w.heap.size + 1, 2, none⟩ (.bool false)).setCell ⟨w.heap.size + 1, 3, none⟩ (.int .i64 0)).setCell ⟨w.heap.size + 1, 4, none⟩ (.int .i64 0)).setCell ⟨w.heap.size + 1, 5, none⟩ (.int .i64 0)).setCell ⟨w.heap.size + 1, 6, none⟩ (.slice none 0 0)).setCell ⟨w.heap.size + 1, 7, none⟩ (.int .i64 0)).setCell ⟨w.heap.size + 1, 8, none⟩ (.int .i64 0)).setCell ⟨w.heap.size + 1, 9, none⟩ (.int .i64 0)).setCell ⟨w.heap.size + 1, 10, none⟩ (.slice A2 m2 c2)).setCell ⟨w.heap.size + 1, 11, none⟩ (.slice A3 m3 c3)) = W7 at KK HS ⊢
  refine bodyPost_ret (results_act rfl _ _ (w.heap.size + 1) _ _ _ _ _ _ _ _ _ _ _ _ rfl (show W7.heap[w.heap.size + 1]? = _ from HS)) rfl ?_
  have KB := ((Keep.of_below HZ.out.2.2.2).trans KK (fun x _ e => by omega)).to_below (Nat.le_refl _)
  obtain ⟨_, _, e2⟩ := HA.out.2.1.form
  obtain ⟨_, _, e3⟩ := HA.out.2.2.form
  injection e2 with _ e2 _
  injection e3 with _ e3 _
  have e2 : m2 = fa.length := e2
  have e3 : m3 = fu.length := e3
  subst e2
  subst e3
  have kb := Keep.of_below KB
  refine ⟨none, 0, A2, c2, A3, c3, rfl, ⟨By.nil _ _, ?_, ?_⟩, KB⟩
  · exact (HA.out.2.1.keep kb (fun b _ hb e => by omega)).mono (fun b _ hb => .inl hb.1)
  · exact (HA.out.2.2.keep kb (fun b _ hb e => by omega)).mono (fun b _ hb => .inl hb.1)
set_option maxHeartbeats 4000000 in
theorem sp_o (d : Int) (cm : Cmd) (room frames nn : Int) (fa : List Fa) (fu : List Int) (A1 A2 A3 : Option Addr) (m1 m2 m3 c1 c2 c3 : Nat) (F : Nat → Prop) (w : World) (z0 : d ≠ 0) (z4 : d ≠ 4) (z5 : d ≠ 5) (z6 : d ≠ 6) (h : AM w F ⟨d, cm, room, frames, nn, fa, fu⟩ (.slice A1 m1 c1) (.slice A2 m2 c2) (.slice A3 m3 c3)) :
    Calls Try.prog 28 #[.agg #[.int .i64 d, .int .i64 cm.do_, .bool cm.loc, .int .i64 cm.idx, .int .i64 cm.gen, .int .i64 cm.comp, .slice A1 m1 c1, .int .i64 room, .int .i64 frames, .int .i64 nn, .slice A2 m2 c2, .slice A3 m3 c3]] w (APost w (fun b => F b ∨ w.heap.size ≤ b) (plainA ⟨d, cm, room, frames, nn, fa, fu⟩)) := by
  rw [plainA_o z0 z4 z5 z6]
  have n0 : (d == 0) = false := by simpa using z0
  have n4 : (d == 4) = false := by simpa using z4
  have n5 : (d == 5) = false := by simpa using z5
  have n6 : (d == 6) = false := by simpa using z6
  have HA := Lib.hid (show AM w (fun b => F b ∧ b < w.heap.size) _ _ _ _ from h.mono (fun b hb hF => ⟨hF, hb⟩))
  clear h
  go_enter Try.func28, Try.ntmps28
  go_upto_region 2 with fail
  refine wp_world (S := PB w [.int .i64 d, .int .i64 cm.do_, .bool cm.loc, .int .i64 cm.idx, .int .i64 cm.gen, .int .i64 cm.comp, .slice A1 m1 c1, .int .i64 room, .int .i64 frames, .int .i64 nn, .slice A2 m2 c2, .slice A3 m3 c3] [.int .i64 d, .int .i64 0, .bool false, .int .i64 0, .int .i64 0, .int .i64 0, .slice none 0 0, .int .i64 0, .int .i64 0, .int .i64 0, .slice none 0 0, .slice none 0 0]) ⟨?c0, ?c1, ?c2, ?c3⟩ ?_
  case c0 => exact (heap_alloc_old _ _ (by simp; omega)).trans ((heap_alloc_old _ _ (by simp)).trans (heap_alloc_new w _))
  case c1 => exact (heap_alloc_old _ _ (by simp)).trans (heap_alloc_at _ _ _ (by simp))
  case c2 => exact heap_alloc_at _ _ _ (by simp)
  case c3 => exact (by repeat first | exact Below.refl _ _ | refine Below.setCell ?_ (by first | omega | (simp; done) | (simp; omega)) _ | refine Below.alloc ?_ (by first | omega | (simp; done) | (simp; omega)) _ | refine Below.drew ?_ | refine below_drewN ?_ _ | assumption)
  intro X hX
  have HX := Lib.hid hX
  clear hX
  obtain ⟨x0, x1, x2, x3, x4, x5, x6, x7, x8, x9, x10, x11, xf⟩ := cells12 HX.out.1
  obtain ⟨y0, y1, y2, y3, y4, y5, y6, y7, y8, y9, y10, y11, yf⟩ := cells12 HX.out.2.2.1
  obtain ⟨r0, r1, r2, r3, r4, r5, r6, r7, r8, r9, r10, r11, rf⟩ := cells12 HX.out.2.1
  go_wp2
  have KK := keepS12 X (w.heap.size + 1) (.int .i64 d) (.int .i64 0) (.bool false) (.int .i64 0) (.int .i64 0) (.int .i64 0) (.slice none 0 0) (.int .i64 0) (.int .i64 0) (.int .i64 0) (.slice none 0 0) (.slice none 0 0)
  have HS := stored12 HX.out.2.1 (.int .i64 d) (.int .i64 0) (.bool false) (.int .i64 0) (.int .i64 0) (.int .i64 0) (.slice none 0 0) (.int .i64 0) (.int .i64 0) (.int .i64 0) (.slice none 0 0) (.slice none 0 0)
  generalize ((((((((((((X.setCell ⟨w.heap.size + 1, 0, none⟩ (.int .i64 d)).setCell ⟨w.heap.size + 1, 1, none⟩ (.int .i64 0)).setCell ⟨w.heap.size + 1, 2, none⟩ (.bool false)).setCell ⟨w.heap.size + 1, 3, none⟩ (.int .i64 0)).setCell ⟨w.heap.size + 1, 4, none⟩ (.int .i64 0)).setCell ⟨w.heap.size + 1, 5, none⟩ (.int .i64 0)).setCell ⟨w.heap.size + 1, 6, none⟩ (.slice none 0 0)).setCell ⟨w.heap.size + 1, 7, none⟩ (.int .i64 0)).setCell ⟨w.heap.size + 1, 8, none⟩ (.int .i64 0)).setCell ⟨w.heap.size + 1, 9, none⟩ (.int .i64 0)).setCell ⟨w.heap.size + 1, 10, none⟩ (.slice none 0 0)).setCell ⟨w.heap.size + 1, 11, none⟩ (.slice none 0 0)) = W7 at KK HS ⊢
  refine bodyPost_ret (results_act rfl _ _ (w.heap.size + 1) _ _ _ _ _ _ _ _ _ _ _ _ rfl (show W7.heap[w.heap.size + 1]? = _ from HS)) rfl ?_
  have KB := ((Keep.of_below HX.out.2.2.2).trans KK (fun x _ e => by omega)).to_below (Nat.le_refl _)
  exact ⟨none, 0, none, 0, none, 0, rfl, ⟨By.nil _ _, ML.nil _ _ _ _, ML.nil _ _ _ _⟩, KB⟩
set_option maxHeartbeats 4000000 in
theorem sp_4 (cm : Cmd) (room frames nn : Int) (fa : List Fa) (fu : List Int) (A1 A2 A3 : Option Addr) (m1 m2 m3 c1 c2 c3 : Nat) (F : Nat → Prop) (w : World) (h : AM w F ⟨4, cm, room, frames, nn, fa, fu⟩ (.slice A1 m1 c1) (.slice A2 m2 c2) (.slice A3 m3 c3)) :
    Calls Try.prog 28 #[.agg #[.int .i64 4, .int .i64 cm.do_, .bool cm.loc, .int .i64 cm.idx, .int .i64 cm.gen, .int .i64 cm.comp, .slice A1 m1 c1, .int .i64 room, .int .i64 frames, .int .i64 nn, .slice A2 m2 c2, .slice A3 m3 c3]] w (APost w (fun b => F b ∨ w.heap.size ≤ b) (plainA ⟨4, cm, room, frames, nn, fa, fu⟩)) := by
  rw [plainA_4 rfl]
  have HA := Lib.hid (show AM w (fun b => F b ∧ b < w.heap.size) _ _ _ _ from h.mono (fun b hb hF => ⟨hF, hb⟩))
  clear h
  go_enter Try.func28, Try.ntmps28
  go_upto_region 2 with fail
  refine wp_world (S := PB w [.int .i64 4, .int .i64 cm.do_, .bool cm.loc, .int .i64 cm.idx, .int .i64 cm.gen, .int .i64 cm.comp, .slice A1 m1 c1, .int .i64 room, .int .i64 frames, .int .i64 nn, .slice A2 m2 c2, .slice A3 m3 c3] [.int .i64 4, .int .i64 0, .bool false, .int .i64 0, .int .i64 0, .int .i64 0, .slice none 0 0, .int .i64 0, .int .i64 0, .int .i64 0, .slice none 0 0, .slice none 0 0]) ⟨?c0, ?c1, ?c2, ?c3⟩ ?_
  case c0 => exact (heap_alloc_old _ _ (by simp; omega)).trans ((heap_alloc_old _ _ (by simp)).trans (heap_alloc_new w _))
  case c1 => exact (heap_alloc_old _ _ (by simp)).trans (heap_alloc_at _ _ _ (by simp))
  case c2 => exact heap_alloc_at _ _ _ (by simp)
  case c3 => exact (by repeat first | exact Below.refl _ _ | refine Below.setCell ?_ (by first | omega | (simp; done) | (simp; omega)) _ | refine Below.alloc ?_ (by first | omega | (simp; done) | (simp; omega)) _ | refine Below.drew ?_ | refine below_drewN ?_ _ | assumption)
  intro X hX
  have HX := Lib.hid hX
  clear hX
  obtain ⟨x0, x1, x2, x3, x4, x5, x6, x7, x8, x9, x10, x11, xf⟩ := cells12 HX.out.1
  obtain ⟨y0, y1, y2, y3, y4, y5, y6, y7, y8, y9, y10, y11, yf⟩ := cells12 HX.out.2.2.1
  obtain ⟨r0, r1, r2, r3, r4, r5, r6, r7, r8, r9, r10, r11, rf⟩ := cells12 HX.out.2.1
  go_upto_region 11 with fail
  refine wp_world (S := PB w [.int .i64 4, .int .i64 cm.do_, .bool cm.loc, .int .i64 cm.idx, .int .i64 cm.gen, .int .i64 cm.comp, .slice A1 m1 c1, .int .i64 room, .int .i64 frames, .int .i64 nn, .slice A2 m2 c2, .slice A3 m3 c3] [.int .i64 4, .int .i64 0, .bool false, .int .i64 0, .int .i64 0, .int .i64 0, .slice none 0 0, .int .i64 room, .int .i64 frames, .int .i64 0, .slice none 0 0, .slice none 0 0]) ((HX.out.set_ 7 (.int .i64 room)).set_ 8 (.int .i64 frames)) ?_
  intro Z hZ
  have HZ := Lib.hid hZ
  clear hZ
  clear x0 x1 x2 x3 x4 x5 x6 x7 x8 x9 x10 x11 xf y0 y1 y2 y3 y4 y5 y6 y7 y8 y9 y10 y11 yf r0 r1 r2 r3 r4 r5 r6 r7 r8 r9 r10 r11 rf
  obtain ⟨x0, x1, x2, x3, x4, x5, x6, x7, x8, x9, x10, x11, xf⟩ := cells12 HZ.out.1
  obtain ⟨y0, y1, y2, y3, y4, y5, y6, y7, y8, y9, y10, y11, yf⟩ := cells12 HZ.out.2.2.1
  obtain ⟨r0, r1, r2, r3, r4, r5, r6, r7, r8, r9, r10, r11, rf⟩ := cells12 HZ.out.2.1
  go_wp2
  have KK := keepS12 Z (w.heap.size + 1) (.int .i64 4) (.int .i64 0) (.bool false) (.int .i64 0) (.int .i64 0) (.int .i64 0) (.slice none 0 0) (.int .i64 room) (.int .i64 frames) (.int .i64 0) (.slice none 0 0) (.slice none 0 0)
  have HS := stored12 HZ.out.2.1 (.int .i64 4) (.int .i64 0) (.bool false) (.int .i64 0) (.int .i64 0) (.int .i64 0) (.slice none 0 0) (.int .i64 room) (.int .i64 frames) (.int .i64 0) (.slice none 0 0) (.slice none 0 0)
  generalize ((((((((((((Z.setCell ⟨w.heap.size + 1, 0, none⟩ (.int .i64 4)).setCell ⟨w.heap.size + 1, 1, none⟩ (.int .i64 0)).setCell ⟨w.heap.size + 1, 2, none⟩ (.bool false)).setCell ⟨w.heap.size + 1, 3, none⟩ (.int .i64 0)).setCell ⟨w.heap.size + 1, 4, none⟩ (.int .i64 0)).setCell ⟨w.heap.size + 1, 5, none⟩ (.int .i64 0)).setCell ⟨w.heap.size + 1, 6, none⟩ (.slice none 0 0)).setCell ⟨w.heap.size + 1, 7, none⟩ (.int .i64 room)).setCell ⟨w.heap.size + 1, 8, none⟩ (.int .i64 frames)).setCell ⟨w.heap.size + 1, 9, none⟩ (.int .i64 0)).setCell ⟨w.heap.size + 1, 10, none⟩ (.slice none 0 0)).setCell ⟨w.heap.size + 1, 11, none⟩ (.slice none 0 0)) = W7 at KK HS ⊢
  refine bodyPost_ret (results_act rfl _ _ (w.heap.size + 1) _ _ _ _ _ _ _ _ _ _ _ _ rfl (show W7.heap[w.heap.size + 1]? = _ from HS)) rfl ?_
  have KB := ((Keep.of_below HZ.out.2.2.2).trans KK (fun x _ e => by omega)).to_below (Nat.le_refl _)
  exact ⟨none, 0, none, 0, none, 0, rfl, ⟨By.nil _ _, ML.nil _ _ _ _, ML.nil _ _ _ _⟩, KB⟩
set_option maxHeartbeats 4000000 in
theorem sp_5 (cm : Cmd) (room frames nn : Int) (fa : List Fa) (fu : List Int) (A1 A2 A3 : Option Addr) (m1 m2 m3 c1 c2 c3 : Nat) (F : Nat → Prop) (w : World) (h : AM w F ⟨5, cm, room, frames, nn, fa, fu⟩ (.slice A1 m1 c1) (.slice A2 m2 c2) (.slice A3 m3 c3)) :
    Calls Try.prog 28 #[.agg #[.int .i64 5, .int .i64 cm.do_, .bool cm.loc, .int .i64 cm.idx, .int .i64 cm.gen, .int .i64 cm.comp, .slice A1 m1 c1, .int .i64 room, .int .i64 frames, .int .i64 nn, .slice A2 m2 c2, .slice A3 m3 c3]] w (APost w (fun b => F b ∨ w.heap.size ≤ b) (plainA ⟨5, cm, room, frames, nn, fa, fu⟩)) := by
  rw [plainA_5 rfl]
  have HA := Lib.hid (show AM w (fun b => F b ∧ b < w.heap.size) _ _ _ _ from h.mono (fun b hb hF => ⟨hF, hb⟩))
  clear h
  go_enter Try.func28, Try.ntmps28
  go_upto_region 2 with fail
  refine wp_world (S := PB w [.int .i64 5, .int .i64 cm.do_, .bool cm.loc, .int .i64 cm.idx, .int .i64 cm.gen, .int .i64 cm.comp, .slice A1 m1 c1, .int .i64 room, .int .i64 frames, .int .i64 nn, .slice A2 m2 c2, .slice A3 m3 c3] [.int .i64 5, .int .i64 0, .bool false, .int .i64 0, .int .i64 0, .int .i64 0, .slice none 0 0, .int .i64 0, .int .i64 0, .int .i64 0, .slice none 0 0, .slice none 0 0]) ⟨?c0, ?c1, ?c2, ?c3⟩ ?_
  case c0 => exact (heap_alloc_old _ _ (by simp; omega)).trans ((heap_alloc_old _ _ (by simp)).trans (heap_alloc_new w _))
  case c1 => exact (heap_alloc_old _ _ (by simp)).trans (heap_alloc_at _ _ _ (by simp))
  case c2 => exact heap_alloc_at _ _ _ (by simp)
  case c3 => exact (by repeat first | exact Below.refl _ _ | refine Below.setCell ?_ (by first | omega | (simp; done) | (simp; omega)) _ | refine Below.alloc ?_ (by first | omega | (simp; done) | (simp; omega)) _ | refine Below.drew ?_ | refine below_drewN ?_ _ | assumption)
  intro X hX
  have HX := Lib.hid hX
  clear hX
  obtain ⟨x0, x1, x2, x3, x4, x5, x6, x7, x8, x9, x10, x11, xf⟩ := cells12 HX.out.1
  obtain ⟨y0, y1, y2, y3, y4, y5, y6, y7, y8, y9, y10, y11, yf⟩ := cells12 HX.out.2.2.1
  obtain ⟨r0, r1, r2, r3, r4, r5, r6, r7, r8, r9, r10, r11, rf⟩ := cells12 HX.out.2.1
  go_upto_region 11 with fail
  refine wp_world (S := PB w [.int .i64 5, .int .i64 cm.do_, .bool cm.loc, .int .i64 cm.idx, .int .i64 cm.gen, .int .i64 cm.comp, .slice A1 m1 c1, .int .i64 room, .int .i64 frames, .int .i64 nn, .slice A2 m2 c2, .slice A3 m3 c3] [.int .i64 5, .int .i64 0, .bool false, .int .i64 0, .int .i64 0, .int .i64 0, .slice none 0 0, .int .i64 0, .int .i64 0, .int .i64 nn, .slice none 0 0, .slice none 0 0]) (HX.out.set_ 9 (.int .i64 nn)) ?_
  intro Z hZ
  have HZ := Lib.hid hZ
  clear hZ
  clear x0 x1 x2 x3 x4 x5 x6 x7 x8 x9 x10 x11 xf y0 y1 y2 y3 y4 y5 y6 y7 y8 y9 y10 y11 yf r0 r1 r2 r3 r4 r5 r6 r7 r8 r9 r10 r11 rf
  obtain ⟨x0, x1, x2, x3, x4, x5, x6, x7, x8, x9, x10, x11, xf⟩ := cells12 HZ.out.1
  obtain ⟨y0, y1, y2, y3, y4, y5, y6, y7, y8, y9, y10, y11, yf⟩ := cells12 HZ.out.2.2.1
  obtain ⟨r0, r1, r2, r3, r4, r5, r6, r7, r8, r9, r10, r11, rf⟩ := cells12 HZ.out.2.1
  go_wp2
  have KK := keepS12 Z (w.heap.size + 1) (.int .i64 5) (.int .i64 0) (.bool false) (.int .i64 0) (.int .i64 0) (.int .i64 0) (.slice none 0 0) (.int .i64 0) (.int .i64 0) (.int .i64 nn) (.slice none 0 0) (.slice none 0 0)
  have HS := stored12 HZ.out.2.1 (.int .i64 5) (.int .i64 0) (.bool false) (.int .i64 0) (.int .i64 0) (.int .i64 0) (.slice none 0 0) (.int .i64 0) (.int .i64 0) (.int .i64 nn) (.slice none 0 0) (.slice none 0 0)
  generalize ((((((((((((Z.setCell ⟨w.heap.size + 1, 0, none⟩ (.int .i64 5)).setCell ⟨w.heap.size + 1, 1, none⟩ (.int .i64 0)).setCell ⟨w.heap.size + 1, 2, none⟩ (.bool false)).setCell ⟨w.heap.size + 1, 3, none⟩ (.int .i64 0)).setCell ⟨w.heap.size + 1, 4, none⟩ (.int .i64 0)).setCell ⟨w.heap.size + 1, 5, none⟩ (.int .i64 0)).setCell ⟨w.heap.size + 1, 6, none⟩ (.slice none 0 0)).setCell ⟨w.heap.size + 1, 7, none⟩ (.int .i64 0)).setCell ⟨w.heap.size + 1, 8, none⟩ (.int .i64 0)).setCell ⟨w.heap.size + 1, 9, none⟩ (.int .i64 nn)).setCell ⟨w.heap.size + 1, 10, none⟩ (.slice none 0 0)).setCell ⟨w.heap.size + 1, 11, none⟩ (.slice none 0 0)) = W7 at KK HS ⊢
  refine bodyPost_ret (results_act rfl _ _ (w.heap.size + 1) _ _ _ _ _ _ _ _ _ _ _ _ rfl (show W7.heap[w.heap.size + 1]? = _ from HS)) rfl ?_
  have KB := ((Keep.of_below HZ.out.2.2.2).trans KK (fun x _ e => by omega)).to_below (Nat.le_refl _)
  exact ⟨none, 0, none, 0, none, 0, rfl, ⟨By.nil _ _, ML.nil _ _ _ _, ML.nil _ _ _ _⟩, KB⟩
set_option maxHeartbeats 4000000 in
theorem sp_0 (cm : Cmd) (room frames nn : Int) (fa : List Fa) (fu : List Int) (A1 A2 A3 : Option Addr) (m1 m2 m3 c1 c2 c3 : Nat) (F : Nat → Prop) (w : World) (hn : cm.l.length ≤ 140737488355328) (h : AM w F ⟨0, cm, room, frames, nn, fa, fu⟩ (.slice A1 m1 c1) (.slice A2 m2 c2) (.slice A3 m3 c3)) :
    Calls Try.prog 28 #[.agg #[.int .i64 0, .int .i64 cm.do_, .bool cm.loc, .int .i64 cm.idx, .int .i64 cm.gen, .int .i64 cm.comp, .slice A1 m1 c1, .int .i64 room, .int .i64 frames, .int .i64 nn, .slice A2 m2 c2, .slice A3 m3 c3]] w (APost w (fun b => F b ∨ w.heap.size ≤ b) (plainA ⟨0, cm, room, frames, nn, fa, fu⟩)) := by
  rw [plainA_0 rfl]
  have PC := Lib.hid (fun W (hk : Keep (fun _ => False) w W) => pplain_any cm _ (fun b => F b ∧ b < w.heap.size) W ((h.1.mono (fun b hb hF => ⟨hF, hb⟩)).keep hk (fun _ _ _ h => h)) hn)
  have HA := Lib.hid (show AM w (fun b => F b ∧ b < w.heap.size) _ _ _ _ from h.mono (fun b hb hF => ⟨hF, hb⟩))
  clear h
  go_enter Try.func28, Try.ntmps28
  go_upto_region 2 with fail
  refine wp_world (S := PB w [.int .i64 0, .int .i64 cm.do_, .bool cm.loc, .int .i64 cm.idx, .int .i64 cm.gen, .int .i64 cm.comp, .slice A1 m1 c1, .int .i64 room, .int .i64 frames, .int .i64 nn, .slice A2 m2 c2, .slice A3 m3 c3] [.int .i64 0, .int .i64 0, .bool false, .int .i64 0, .int .i64 0, .int .i64 0, .slice none 0 0, .int .i64 0, .int .i64 0, .int .i64 0, .slice none 0 0, .slice none 0 0]) ⟨?c0, ?c1, ?c2, ?c3⟩ ?_
  case c0 => exact (heap_alloc_old _ _ (by simp; omega)).trans ((heap_alloc_old _ _ (by simp)).trans (heap_alloc_new w _))
  case c1 => exact (heap_alloc_old _ _ (by simp)).trans (heap_alloc_at _ _ _ (by simp))
  case c2 => exact heap_alloc_at _ _ _ (by simp)
  case c3 => exact (by repeat first | exact Below.refl _ _ | refine Below.setCell ?_ (by first | omega | (simp; done) | (simp; omega)) _ | refine Below.alloc ?_ (by first | omega | (simp; done) | (simp; omega)) _ | refine Below.drew ?_ | refine below_drewN ?_ _ | assumption)
  intro X hX
  have HX := Lib.hid hX
  clear hX
  obtain ⟨x0, x1, x2, x3, x4, x5, x6, x7, x8, x9, x10, x11, xf⟩ := cells12 HX.out.1
  obtain ⟨y0, y1, y2, y3, y4, y5, y6, y7, y8, y9, y10, y11, yf⟩ := cells12 HX.out.2.2.1
  obtain ⟨r0, r1, r2, r3, r4, r5, r6, r7, r8, r9, r10, r11, rf⟩ := cells12 HX.out.2.1
  go_wp2_with fail
  have P1 := PC.out X (Keep.of_below' HX.out.2.2.2)
  unfold cmdV at P1
  with_reducible refine P1.mono ?_
  rintro e w1 ⟨A4, c4, rfl, hy4, hb4⟩
  unfold cmdV
  have H1 := Lib.hid (HX.out.keep (S := fun _ => False) (Keep.of_below' hb4) (fun _ h => h.elim))
  have hsz := (Array.getElem?_eq_some_iff.1 HX.out.2.2.1).1
  have Y4 := Lib.hid (show By w1 (GP w F) (.slice A4 (plainC cm).l.length c4) (plainC cm).l from hy4.mono (fun b _ h => by
    first
      | (rcases h with h | h
         · exact .inl h
         · exact .inr (by omega))
      | exact .inr (by omega)))
  clear hsz
  clear hb4 hy4 P1
  clear x0 x1 x2 x3 x4 x5 x6 x7 x8 x9 x10 x11 xf y0 y1 y2 y3 y4 y5 y6 y7 y8 y9 y10 y11 yf r0 r1 r2 r3 r4 r5 r6 r7 r8 r9 r10 r11 rf
  obtain ⟨x0, x1, x2, x3, x4, x5, x6, x7, x8, x9, x10, x11, xf⟩ := cells12 H1.out.1
  obtain ⟨y0, y1, y2, y3, y4, y5, y6, y7, y8, y9, y10, y11, yf⟩ := cells12 H1.out.2.2.1
  obtain ⟨r0, r1, r2, r3, r4, r5, r6, r7, r8, r9, r10, r11, rf⟩ := cells12 H1.out.2.1
  go_upto_region 11 with fail
  refine wp_world (S := fun Z => PB w [.int .i64 0, .int .i64 cm.do_, .bool cm.loc, .int .i64 cm.idx, .int .i64 cm.gen, .int .i64 cm.comp, .slice A1 m1 c1, .int .i64 room, .int .i64 frames, .int .i64 nn, .slice A2 m2 c2, .slice A3 m3 c3] [.int .i64 0, .int .i64 (plainC cm).do_, .bool (plainC cm).loc, .int .i64 (plainC cm).idx, .int .i64 (plainC cm).gen, .int .i64 (plainC cm).comp, .slice A4 (plainC cm).l.length c4, .int .i64 0, .int .i64 0, .int .i64 0, .slice none 0 0, .slice none 0 0] Z ∧ By Z (GP w F) (.slice A4 (plainC cm).l.length c4) (plainC cm).l) ⟨((((((H1.out.set_ 1 (.int .i64 (plainC cm).do_)).set_ 2 (.bool (plainC cm).loc)).set_ 3 (.int .i64 (plainC cm).idx)).set_ 4 (.int .i64 (plainC cm).gen)).set_ 5 (.int .i64 (plainC cm).comp)).set_ 6 (.slice A4 (plainC cm).l.length c4)), gp_keep (R := w.heap.size + 2) Y4.out ((((((keep1 _ _ _ _).trans (keep1 _ _ _ _) (fun _ _ h => h)).trans (keep1 _ _ _ _) (fun _ _ h => h)).trans (keep1 _ _ _ _) (fun _ _ h => h)).trans (keep1 _ _ _ _) (fun _ _ h => h)).trans (keep1 _ _ _ _) (fun _ _ h => h)) (by omega)⟩ ?_
  intro Z hZ
  have HZ := Lib.hid hZ
  have HZ1 := Lib.hid hZ.1
  clear hZ
  clear x0 x1 x2 x3 x4 x5 x6 x7 x8 x9 x10 x11 xf y0 y1 y2 y3 y4 y5 y6 y7 y8 y9 y10 y11 yf r0 r1 r2 r3 r4 r5 r6 r7 r8 r9 r10 r11 rf
  obtain ⟨x0, x1, x2, x3, x4, x5, x6, x7, x8, x9, x10, x11, xf⟩ := cells12 HZ.out.1.1
  obtain ⟨y0, y1, y2, y3, y4, y5, y6, y7, y8, y9, y10, y11, yf⟩ := cells12 HZ.out.1.2.2.1
  obtain ⟨r0, r1, r2, r3, r4, r5, r6, r7, r8, r9, r10, r11, rf⟩ := cells12 HZ.out.1.2.1
  go_wp2
  have KK := keepS12 Z (w.heap.size + 1) (.int .i64 0) (.int .i64 (plainC cm).do_) (.bool (plainC cm).loc) (.int .i64 (plainC cm).idx) (.int .i64 (plainC cm).gen) (.int .i64 (plainC cm).comp) (.slice A4 (plainC cm).l.length c4) (.int .i64 0) (.int .i64 0) (.int .i64 0) (.slice none 0 0) (.slice none 0 0)
  have HS := stored12 HZ1.out.2.1 (.int .i64 0) (.int .i64 (plainC cm).do_) (.bool (plainC cm).loc) (.int .i64 (plainC cm).idx) (.int .i64 (plainC cm).gen) (.int .i64 (plainC cm).comp) (.slice A4 (plainC cm).l.length c4) (.int .i64 0) (.int .i64 0) (.int .i64 0) (.slice none 0 0) (.slice none 0 0)
  generalize ((((((((((((Z.setCell ⟨w.heap.size + 1, 0, none⟩ (.int .i64 0)).setCell ⟨w.heap.size + 1, 1, none⟩ (.int .i64 (plainC cm).do_)).setCell ⟨w.heap.size + 1, 2, none⟩ (.bool (plainC cm).loc)).setCell ⟨w.heap.size + 1, 3, none⟩ (.int .i64 (plainC cm).idx)).setCell ⟨w.heap.size + 1, 4, none⟩ (.int .i64 (plainC cm).gen)).setCell ⟨w.heap.size + 1, 5, none⟩ (.int .i64 (plainC cm).comp)).setCell ⟨w.heap.size + 1, 6, none⟩ (.slice A4 (plainC cm).l.length c4)).setCell ⟨w.heap.size + 1, 7, none⟩ (.int .i64 0)).setCell ⟨w.heap.size + 1, 8, none⟩ (.int .i64 0)).setCell ⟨w.heap.size + 1, 9, none⟩ (.int .i64 0)).setCell ⟨w.heap.size + 1, 10, none⟩ (.slice none 0 0)).setCell ⟨w.heap.size + 1, 11, none⟩ (.slice none 0 0)) = W7 at KK HS ⊢
  refine bodyPost_ret (results_act rfl _ _ (w.heap.size + 1) _ _ _ _ _ _ _ _ _ _ _ _ rfl (show W7.heap[w.heap.size + 1]? = _ from HS)) rfl ?_
  have KB := ((Keep.of_below HZ1.out.2.2.2).trans KK (fun x _ e => by omega)).to_below (Nat.le_refl _)
  exact ⟨A4, c4, none, 0, none, 0, rfl, ⟨gp_out (gp_keep (R := w.heap.size + 1) HZ.out.2 KK (by omega)), ML.nil _ _ _ _, ML.nil _ _ _ _⟩, KB⟩
end Go.Proofs.Ythkgchlndfcmpaa
namespace Go.Proofs.Ythkgchlndfcmpaa
open Go.RowKit
set_option maxRecDepth 100000
set_option linter.unusedVariables false
set_option linter.unusedSimpArgs false

theorem keepset {R B k : Nat} {w w1 : World} {z : Value} (h : Keep (fun b => b = R) w w1) (e : B = R) : Keep (fun b => b = R) w (w1.setCell ⟨B, k, none⟩ z) := Keep.setCell h (.inr e) _
theorem cl_step {α : Type} {f : α → List Value} {m : Nat} {w X V w4 : World} {F : Nat → Prop} {u : Value} {l : List α} (hX : w.heap.size + 2 < X.heap.size) (hk : Keep (fun b => b = w.heap.size + 2) X V) (hy : ML f m w4 (fun b => V.heap.size ≤ b) u l) (hb : Below V.heap.size V w4) :
    Keep (fun b => b = w.heap.size + 2) X w4 ∧ (∀ W', Keep (fun b => b = w.heap.size + 2) w4 W' → ML f m W' (GP w F) u l) ∧ Keep (fun b => b = w.heap.size + 2) V w4 :=
  ⟨hk.trans (Keep.of_below' hb) (fun _ _ h => h.elim), fun W' h => (hy.mono (fun b _ hb2 => .inr (by have := hk.size; omega))).keep h (fun b _ hb2 e => by
    have := hk.size
    unfold GP at hb2
    rcases hb2 with hb2 | hb2 <;> omega), (Keep.of_below' hb).mono (fun _ _ h => h.elim)⟩
set_option maxHeartbeats 4000000 in
theorem sp_6 (cm : Cmd) (room frames nn : Int) (fa : List Fa) (fu : List Int) (A1 A2 A3 : Option Addr) (m1 m2 m3 c1 c2 c3 : Nat) (F : Nat → Prop) (w : World) (hn : fa.length ≤ 1000000 ∧ fu.length ≤ 1000000) (h : AM w F ⟨6, cm, room, frames, nn, fa, fu⟩ (.slice A1 m1 c1) (.slice A2 m2 c2) (.slice A3 m3 c3)) :
    Calls Try.prog 28 #[.agg #[.int .i64 6, .int .i64 cm.do_, .bool cm.loc, .int .i64 cm.idx, .int .i64 cm.gen, .int .i64 cm.comp, .slice A1 m1 c1, .int .i64 room, .int .i64 frames, .int .i64 nn, .slice A2 m2 c2, .slice A3 m3 c3]] w (APost w (fun b => F b ∨ w.heap.size ≤ b) (plainA ⟨6, cm, room, frames, nn, fa, fu⟩)) := by
  rw [plainA_6 rfl]
  have HA := Lib.hid (show AM w (fun b => F b ∧ b < w.heap.size) _ _ _ _ from h.mono (fun b hb hF => ⟨hF, hb⟩))
  clear h
  have HN := Lib.hid hn
  clear hn
  go_enter Try.func28, Try.ntmps28
  go_upto_region 2 with fail
  refine wp_world (S := PB w [.int .i64 6, .int .i64 cm.do_, .bool cm.loc, .int .i64 cm.idx, .int .i64 cm.gen, .int .i64 cm.comp, .slice A1 m1 c1, .int .i64 room, .int .i64 frames, .int .i64 nn, .slice A2 m2 c2, .slice A3 m3 c3] [.int .i64 6, .int .i64 0, .bool false, .int .i64 0, .int .i64 0, .int .i64 0, .slice none 0 0, .int .i64 0, .int .i64 0, .int .i64 0, .slice none 0 0, .slice none 0 0]) ⟨?c0, ?c1, ?c2, ?c3⟩ ?_
  case c0 => exact (heap_alloc_old _ _ (by simp; omega)).trans ((heap_alloc_old _ _ (by simp)).trans (heap_alloc_new w _))
  case c1 => exact (heap_alloc_old _ _ (by simp)).trans (heap_alloc_at _ _ _ (by simp))
  case c2 => exact heap_alloc_at _ _ _ (by simp)
  case c3 => exact (by repeat first | exact Below.refl _ _ | refine Below.setCell ?_ (by first | omega | (simp; done) | (simp; omega)) _ | refine Below.alloc ?_ (by first | omega | (simp; done) | (simp; omega)) _ | refine Below.drew ?_ | refine below_drewN ?_ _ | assumption)
  intro X hX
  have HX := Lib.hid hX
  clear hX
  obtain ⟨x0, x1, x2, x3, x4, x5, x6, x7, x8, x9, x10, x11, xf⟩ := cells12 HX.out.1
  obtain ⟨y0, y1, y2, y3, y4, y5, y6, y7, y8, y9, y10, y11, yf⟩ := cells12 HX.out.2.2.1
  obtain ⟨r0, r1, r2, r3, r4, r5, r6, r7, r8, r9, r10, r11, rf⟩ := cells12 HX.out.2.1
  have CF := Lib.hid (fun W (hk : Keep (fun b => b = w.heap.size + 2) X W) => clone_f fa _ (fun b => F b ∧ b < w.heap.size) W (HA.out.2.1.keep ((Keep.of_below HX.out.2.2.2).trans hk (fun x _ e => by omega)) (fun b _ hb e => by omega)) (by have := HN.out; omega))
  have CI := Lib.hid (fun W (hk : Keep (fun b => b = w.heap.size + 2) X W) => clone_i fu _ (fun b => F b ∧ b < w.heap.size) W (HA.out.2.2.keep ((Keep.of_below HX.out.2.2.2).trans hk (fun x _ e => by omega)) (fun b _ hb e => by omega)) (by have := HN.out; omega))
  have hsz := (Array.getElem?_eq_some_iff.1 HX.out.2.2.1).1
  go_upto_region 10 with fail
  go_region_law (first
    | (go_loud (go_simp; go_at_call 77; refine (CF.out _ (by exact (by repeat first | assumption | exact Keep.refl _ _ | refine Keep.drew ?_ | refine keepset ?_ (by omega)))).mono ?_; rintro e w4 ⟨A4, c4, rfl, hy4, hb4⟩; have q4 := cl_step (w := w) (X := X) (F := F) (by omega) (by exact (by repeat first | assumption | exact Keep.refl _ _ | refine Keep.drew ?_ | refine keepset ?_ (by omega))) hy4 hb4; clear hy4; obtain ⟨k4, Y4, kb4⟩ := q4; (first | (have P4 : PB w [.int .i64 6, .int .i64 cm.do_, .bool cm.loc, .int .i64 cm.idx, .int .i64 cm.gen, .int .i64 cm.comp, .slice A1 m1 c1, .int .i64 room, .int .i64 frames, .int .i64 nn, .slice A2 m2 c2, .slice A3 m3 c3] [.int .i64 6, .int .i64 0, .bool false, .int .i64 0, .int .i64 0, .int .i64 0, .slice none 0 0, .int .i64 0, .int .i64 0, .int .i64 0, .slice none 0 0, .slice none 0 0] w4 := (by exact (by repeat first | exact HX.out | refine PB.keep ?_ (Keep.of_below' (by assumption)) (fun _ h => h.elim) | refine PB.keep ?_ ((Keep.refl (fun _ => False) _).drew) (fun _ h => h.elim) | refine PB.set_ ?_ _ _))) | (have P4 : PB w [.int .i64 6, .int .i64 cm.do_, .bool cm.loc, .int .i64 cm.idx, .int .i64 cm.gen, .int .i64 cm.comp, .slice A1 m1 c1, .int .i64 room, .int .i64 frames, .int .i64 nn, .slice A2 m2 c2, .slice A3 m3 c3] [.int .i64 6, .int .i64 0, .bool false, .int .i64 0, .int .i64 0, .int .i64 0, .slice none 0 0, .int .i64 0, .int .i64 0, .int .i64 0, .slice none 0 0, .slice A5 fu.length c5] w4 := (by show PB w [.int .i64 6, .int .i64 cm.do_, .bool cm.loc, .int .i64 cm.idx, .int .i64 cm.gen, .int .i64 cm.comp, .slice A1 m1 c1, .int .i64 room, .int .i64 frames, .int .i64 nn, .slice A2 m2 c2, .slice A3 m3 c3] ([.int .i64 6, .int .i64 0, .bool false, .int .i64 0, .int .i64 0, .int .i64 0, .slice none 0 0, .int .i64 0, .int .i64 0, .int .i64 0, .slice none 0 0, .slice none 0 0].set 11 (.slice A5 fu.length c5)) w4; exact (by repeat first | exact HX.out | refine PB.keep ?_ (Keep.of_below' (by assumption)) (fun _ h => h.elim) | refine PB.keep ?_ ((Keep.refl (fun _ => False) _).drew) (fun _ h => h.elim) | refine PB.set_ ?_ _ _))) | fail); clear x0 x1 x2 x3 x4 x5 x6 x7 x8 x9 x10 x11 xf y0 y1 y2 y3 y4 y5 y6 y7 y8 y9 y10 y11 yf r0 r1 r2 r3 r4 r5 r6 r7 r8 r9 r10 r11 rf; obtain ⟨x0, x1, x2, x3, x4, x5, x6, x7, x8, x9, x10, x11, xf⟩ := cells12 P4.1; obtain ⟨y0, y1, y2, y3, y4, y5, y6, y7, y8, y9, y10, y11, yf⟩ := cells12 P4.2.2.1; obtain ⟨r0, r1, r2, r3, r4, r5, r6, r7, r8, r9, r10, r11, rf⟩ := cells12 P4.2.1))
    | (go_loud (go_simp; go_at_call 78; refine (CI.out _ (by exact (by repeat first | assumption | exact Keep.refl _ _ | refine Keep.drew ?_ | refine keepset ?_ (by omega)))).mono ?_; rintro e w5 ⟨A5, c5, rfl, hy5, hb5⟩; have q5 := cl_step (w := w) (X := X) (F := F) (by omega) (by exact (by repeat first | assumption | exact Keep.refl _ _ | refine Keep.drew ?_ | refine keepset ?_ (by omega))) hy5 hb5; clear hy5; obtain ⟨k5, Y5, kb5⟩ := q5; (first | (have P5 : PB w [.int .i64 6, .int .i64 cm.do_, .bool cm.loc, .int .i64 cm.idx, .int .i64 cm.gen, .int .i64 cm.comp, .slice A1 m1 c1, .int .i64 room, .int .i64 frames, .int .i64 nn, .slice A2 m2 c2, .slice A3 m3 c3] [.int .i64 6, .int .i64 0, .bool false, .int .i64 0, .int .i64 0, .int .i64 0, .slice none 0 0, .int .i64 0, .int .i64 0, .int .i64 0, .slice none 0 0, .slice none 0 0] w5 := (by exact (by repeat first | exact HX.out | refine PB.keep ?_ (Keep.of_below' (by assumption)) (fun _ h => h.elim) | refine PB.keep ?_ ((Keep.refl (fun _ => False) _).drew) (fun _ h => h.elim) | refine PB.set_ ?_ _ _))) | (have P5 : PB w [.int .i64 6, .int .i64 cm.do_, .bool cm.loc, .int .i64 cm.idx, .int .i64 cm.gen, .int .i64 cm.comp, .slice A1 m1 c1, .int .i64 room, .int .i64 frames, .int .i64 nn, .slice A2 m2 c2, .slice A3 m3 c3] [.int .i64 6, .int .i64 0, .bool false, .int .i64 0, .int .i64 0, .int .i64 0, .slice none 0 0, .int .i64 0, .int .i64 0, .int .i64 0, .slice A4 fa.length c4, .slice none 0 0] w5 := (by show PB w [.int .i64 6, .int .i64 cm.do_, .bool cm.loc, .int .i64 cm.idx, .int .i64 cm.gen, .int .i64 cm.comp, .slice A1 m1 c1, .int .i64 room, .int .i64 frames, .int .i64 nn, .slice A2 m2 c2, .slice A3 m3 c3] ([.int .i64 6, .int .i64 0, .bool false, .int .i64 0, .int .i64 0, .int .i64 0, .slice none 0 0, .int .i64 0, .int .i64 0, .int .i64 0, .slice none 0 0, .slice none 0 0].set 10 (.slice A4 fa.length c4)) w5; exact (by repeat first | exact HX.out | refine PB.keep ?_ (Keep.of_below' (by assumption)) (fun _ h => h.elim) | refine PB.keep ?_ ((Keep.refl (fun _ => False) _).drew) (fun _ h => h.elim) | refine PB.set_ ?_ _ _))) | fail); clear x0 x1 x2 x3 x4 x5 x6 x7 x8 x9 x10 x11 xf y0 y1 y2 y3 y4 y5 y6 y7 y8 y9 y10 y11 yf r0 r1 r2 r3 r4 r5 r6 r7 r8 r9 r10 r11 rf; obtain ⟨x0, x1, x2, x3, x4, x5, x6, x7, x8, x9, x10, x11, xf⟩ := cells12 P5.1; obtain ⟨y0, y1, y2, y3, y4, y5, y6, y7, y8, y9, y10, y11, yf⟩ := cells12 P5.2.2.1; obtain ⟨r0, r1, r2, r3, r4, r5, r6, r7, r8, r9, r10, r11, rf⟩ := cells12 P5.2.1))
    | fail)
  all_goals
    go_upto_region 11 with fail
    refine wp_world (S := fun Z => PB w [.int .i64 6, .int .i64 cm.do_, .bool cm.loc, .int .i64 cm.idx, .int .i64 cm.gen, .int .i64 cm.comp, .slice A1 m1 c1, .int .i64 room, .int .i64 frames, .int .i64 nn, .slice A2 m2 c2, .slice A3 m3 c3] [.int .i64 6, .int .i64 0, .bool false, .int .i64 0, .int .i64 0, .int .i64 0, .slice none 0 0, .int .i64 0, .int .i64 0, .int .i64 0, .slice A4 fa.length c4, .slice A5 fu.length c5] Z ∧ ML fcells 2 Z (GP w F) (.slice A4 fa.length c4) fa ∧ ML icells 1 Z (GP w F) (.slice A5 fu.length c5) fu) ⟨?c1, Y4 _ (by exact (by repeat first | exact Keep.refl _ _ | refine Keep.drew ?_ | refine keepset ?_ (by omega) | refine Keep.trans ?_ kb4 (fun _ _ h => h) | refine Keep.trans ?_ kb5 (fun _ _ h => h))), Y5 _ (by exact (by repeat first | exact Keep.refl _ _ | refine Keep.drew ?_ | refine keepset ?_ (by omega) | refine Keep.trans ?_ kb4 (fun _ _ h => h) | refine Keep.trans ?_ kb5 (fun _ _ h => h)))⟩ ?_
    case c1 =>
      first
        | (show PB w [.int .i64 6, .int .i64 cm.do_, .bool cm.loc, .int .i64 cm.idx, .int .i64 cm.gen, .int .i64 cm.comp, .slice A1 m1 c1, .int .i64 room, .int .i64 frames, .int .i64 nn, .slice A2 m2 c2, .slice A3 m3 c3] (([.int .i64 6, .int .i64 0, .bool false, .int .i64 0, .int .i64 0, .int .i64 0, .slice none 0 0, .int .i64 0, .int .i64 0, .int .i64 0, .slice none 0 0, .slice none 0 0].set 10 (.slice A4 fa.length c4)).set 11 (.slice A5 fu.length c5)) _
           exact (by repeat first | exact HX.out | refine PB.keep ?_ (Keep.of_below' (by assumption)) (fun _ h => h.elim) | refine PB.keep ?_ ((Keep.refl (fun _ => False) _).drew) (fun _ h => h.elim) | refine PB.set_ ?_ _ _))
        | (show PB w [.int .i64 6, .int .i64 cm.do_, .bool cm.loc, .int .i64 cm.idx, .int .i64 cm.gen, .int .i64 cm.comp, .slice A1 m1 c1, .int .i64 room, .int .i64 frames, .int .i64 nn, .slice A2 m2 c2, .slice A3 m3 c3] (([.int .i64 6, .int .i64 0, .bool false, .int .i64 0, .int .i64 0, .int .i64 0, .slice none 0 0, .int .i64 0, .int .i64 0, .int .i64 0, .slice none 0 0, .slice none 0 0].set 11 (.slice A5 fu.length c5)).set 10 (.slice A4 fa.length c4)) _
           exact (by repeat first | exact HX.out | refine PB.keep ?_ (Keep.of_below' (by assumption)) (fun _ h => h.elim) | refine PB.keep ?_ ((Keep.refl (fun _ => False) _).drew) (fun _ h => h.elim) | refine PB.set_ ?_ _ _))
    intro Z hZ
    have HZ := Lib.hid hZ
    have HZ1 := Lib.hid hZ.1
    clear hZ Y4 Y5 k4 k5 kb4 kb5 hb4 hb5 P4 P5
    clear x0 x1 x2 x3 x4 x5 x6 x7 x8 x9 x10 x11 xf y0 y1 y2 y3 y4 y5 y6 y7 y8 y9 y10 y11 yf r0 r1 r2 r3 r4 r5 r6 r7 r8 r9 r10 r11 rf
    obtain ⟨x0, x1, x2, x3, x4, x5, x6, x7, x8, x9, x10, x11, xf⟩ := cells12 HZ1.out.1
    obtain ⟨y0, y1, y2, y3, y4, y5, y6, y7, y8, y9, y10, y11, yf⟩ := cells12 HZ1.out.2.2.1
    obtain ⟨r0, r1, r2, r3, r4, r5, r6, r7, r8, r9, r10, r11, rf⟩ := cells12 HZ1.out.2.1
    go_wp2
    have KK := keepS12 Z (w.heap.size + 1) (.int .i64 6) (.int .i64 0) (.bool false) (.int .i64 0) (.int .i64 0) (.int .i64 0) (.slice none 0 0) (.int .i64 0) (.int .i64 0) (.int .i64 0) (.slice A4 fa.length c4) (.slice A5 fu.length c5)
    have HS := stored12 HZ1.out.2.1 (.int .i64 6) (.int .i64 0) (.bool false) (.int .i64 0) (.int .i64 0) (.int .i64 0) (.slice none 0 0) (.int .i64 0) (.int .i64 0) (.int .i64 0) (.slice A4 fa.length c4) (.slice A5 fu.length c5)
    generalize ((((((((((((Z.setCell ⟨w.heap.size + 1, 0, none⟩ (.int .i64 6)).setCell ⟨w.heap.size + 1, 1, none⟩ (.int .i64 0)).setCell ⟨w.heap.size + 1, 2, none⟩ (.bool false)).setCell ⟨w.heap.size + 1, 3, none⟩ (.int .i64 0)).setCell ⟨w.heap.size + 1, 4, none⟩ (.int .i64 0)).setCell ⟨w.heap.size + 1, 5, none⟩ (.int .i64 0)).setCell ⟨w.heap.size + 1, 6, none⟩ (.slice none 0 0)).setCell ⟨w.heap.size + 1, 7, none⟩ (.int .i64 0)).setCell ⟨w.heap.size + 1, 8, none⟩ (.int .i64 0)).setCell ⟨w.heap.size + 1, 9, none⟩ (.int .i64 0)).setCell ⟨w.heap.size + 1, 10, none⟩ (.slice A4 fa.length c4)).setCell ⟨w.heap.size + 1, 11, none⟩ (.slice A5 fu.length c5)) = W7 at KK HS ⊢
    refine bodyPost_ret (results_act rfl _ _ (w.heap.size + 1) _ _ _ _ _ _ _ _ _ _ _ _ rfl (show W7.heap[w.heap.size + 1]? = _ from HS)) rfl ?_
    have KB := ((Keep.of_below HZ1.out.2.2.2).trans KK (fun x _ e => by omega)).to_below (Nat.le_refl _)
    exact ⟨none, 0, A4, c4, A5, c5, rfl, ⟨By.nil _ _, gp_mlout (gp_mlkeep (R := w.heap.size + 1) HZ.out.2.1 KK (by omega)), gp_mlout (gp_mlkeep (R := w.heap.size + 1) HZ.out.2.2 KK (by omega))⟩, KB⟩
set_option maxHeartbeats 4000000 in
theorem rp_0 (cm : Cmd) (room frames nn : Int) (fa : List Fa) (fu : List Int) (A1 A2 A3 : Option Addr) (m1 m2 m3 c1 c2 c3 : Nat) (F : Nat → Prop) (w : World) (h : AM w F ⟨0, cm, room, frames, nn, fa, fu⟩ (.slice A1 m1 c1) (.slice A2 m2 c2) (.slice A3 m3 c3)) :
    Calls Try.prog 29 #[.agg #[.int .i64 0, .int .i64 cm.do_, .bool cm.loc, .int .i64 cm.idx, .int .i64 cm.gen, .int .i64 cm.comp, .slice A1 m1 c1, .int .i64 room, .int .i64 frames, .int .i64 nn, .slice A2 m2 c2, .slice A3 m3 c3]] w (APost w (fun b => F b ∨ w.heap.size ≤ b) (plainA ⟨0, cm, room, frames, nn, fa, fu⟩)) := by
  rw [plainA_0 rfl]
  have PC := Lib.hid (fun W (hk : Keep (fun _ => False) w W) => rplain_any cm _ (fun b => F b ∧ b < w.heap.size) W ((h.1.mono (fun b hb hF => ⟨hF, hb⟩)).keep hk (fun _ _ _ h => h)))
  have HA := Lib.hid (show AM w (fun b => F b ∧ b < w.heap.size) _ _ _ _ from h.mono (fun b hb hF => ⟨hF, hb⟩))
  clear h
  go_enter Try.func29, Try.ntmps29
  go_upto_region 2 with fail
  refine wp_world (S := PB w [.int .i64 0, .int .i64 cm.do_, .bool cm.loc, .int .i64 cm.idx, .int .i64 cm.gen, .int .i64 cm.comp, .slice A1 m1 c1, .int .i64 room, .int .i64 frames, .int .i64 nn, .slice A2 m2 c2, .slice A3 m3 c3] [.int .i64 0, .int .i64 0, .bool false, .int .i64 0, .int .i64 0, .int .i64 0, .slice none 0 0, .int .i64 0, .int .i64 0, .int .i64 0, .slice none 0 0, .slice none 0 0]) ⟨?c0, ?c1, ?c2, ?c3⟩ ?_
  case c0 => exact (heap_alloc_old _ _ (by simp; omega)).trans ((heap_alloc_old _ _ (by simp)).trans (heap_alloc_new w _))
  case c1 => exact (heap_alloc_old _ _ (by simp)).trans (heap_alloc_at _ _ _ (by simp))
  case c2 => exact heap_alloc_at _ _ _ (by simp)
  case c3 => exact (by repeat first | exact Below.refl _ _ | refine Below.setCell ?_ (by first | omega | (simp; done) | (simp; omega)) _ | refine Below.alloc ?_ (by first | omega | (simp; done) | (simp; omega)) _ | refine Below.drew ?_ | refine below_drewN ?_ _ | assumption)
  intro X hX
  have HX := Lib.hid hX
  clear hX
  obtain ⟨x0, x1, x2, x3, x4, x5, x6, x7, x8, x9, x10, x11, xf⟩ := cells12 HX.out.1
  obtain ⟨y0, y1, y2, y3, y4, y5, y6, y7, y8, y9, y10, y11, yf⟩ := cells12 HX.out.2.2.1
  obtain ⟨r0, r1, r2, r3, r4, r5, r6, r7, r8, r9, r10, r11, rf⟩ := cells12 HX.out.2.1
  go_wp2_with fail
  have P1 := PC.out X (Keep.of_below' HX.out.2.2.2)
  unfold cmdV at P1
  with_reducible refine P1.mono ?_
  rintro e w1 ⟨A4, c4, rfl, hy4, hb4⟩
  unfold cmdV
  have H1 := Lib.hid (HX.out.keep (S := fun _ => False) (Keep.of_below' hb4) (fun _ h => h.elim))
  have hsz := (Array.getElem?_eq_some_iff.1 HX.out.2.2.1).1
  have Y4 := Lib.hid (show By w1 (GP w F) (.slice A4 (plainC cm).l.length c4) (plainC cm).l from hy4.mono (fun b _ h => by
    first
      | (rcases h with h | h
         · exact .inl h
         · exact .inr (by omega))
      | exact .inr (by omega)))
  clear hsz
  clear hb4 hy4 P1
  clear x0 x1 x2 x3 x4 x5 x6 x7 x8 x9 x10 x11 xf y0 y1 y2 y3 y4 y5 y6 y7 y8 y9 y10 y11 yf r0 r1 r2 r3 r4 r5 r6 r7 r8 r9 r10 r11 rf
  obtain ⟨x0, x1, x2, x3, x4, x5, x6, x7, x8, x9, x10, x11, xf⟩ := cells12 H1.out.1
  obtain ⟨y0, y1, y2, y3, y4, y5, y6, y7, y8, y9, y10, y11, yf⟩ := cells12 H1.out.2.2.1
  obtain ⟨r0, r1, r2, r3, r4, r5, r6, r7, r8, r9, r10, r11, rf⟩ := cells12 H1.out.2.1
  go_upto_region 4 with fail
  refine wp_world (S := fun Z => PB w [.int .i64 0, .int .i64 cm.do_, .bool cm.loc, .int .i64 cm.idx, .int .i64 cm.gen, .int .i64 cm.comp, .slice A1 m1 c1, .int .i64 room, .int .i64 frames, .int .i64 nn, .slice A2 m2 c2, .slice A3 m3 c3] [.int .i64 0, .int .i64 (plainC cm).do_, .bool (plainC cm).loc, .int .i64 (plainC cm).idx, .int .i64 (plainC cm).gen, .int .i64 (plainC cm).comp, .slice A4 (plainC cm).l.length c4, .int .i64 0, .int .i64 0, .int .i64 0, .slice none 0 0, .slice none 0 0] Z ∧ By Z (GP w F) (.slice A4 (plainC cm).l.length c4) (plainC cm).l) ⟨((((((H1.out.set_ 1 (.int .i64 (plainC cm).do_)).set_ 2 (.bool (plainC cm).loc)).set_ 3 (.int .i64 (plainC cm).idx)).set_ 4 (.int .i64 (plainC cm).gen)).set_ 5 (.int .i64 (plainC cm).comp)).set_ 6 (.slice A4 (plainC cm).l.length c4)), gp_keep (R := w.heap.size + 2) Y4.out ((((((keep1 _ _ _ _).trans (keep1 _ _ _ _) (fun _ _ h => h)).trans (keep1 _ _ _ _) (fun _ _ h => h)).trans (keep1 _ _ _ _) (fun _ _ h => h)).trans (keep1 _ _ _ _) (fun _ _ h => h)).trans (keep1 _ _ _ _) (fun _ _ h => h)) (by omega)⟩ ?_
  intro Z hZ
  have HZ := Lib.hid hZ
  have HZ1 := Lib.hid hZ.1
  clear hZ
  clear x0 x1 x2 x3 x4 x5 x6 x7 x8 x9 x10 x11 xf y0 y1 y2 y3 y4 y5 y6 y7 y8 y9 y10 y11 yf r0 r1 r2 r3 r4 r5 r6 r7 r8 r9 r10 r11 rf
  obtain ⟨x0, x1, x2, x3, x4, x5, x6, x7, x8, x9, x10, x11, xf⟩ := cells12 HZ.out.1.1
  obtain ⟨y0, y1, y2, y3, y4, y5, y6, y7, y8, y9, y10, y11, yf⟩ := cells12 HZ.out.1.2.2.1
  obtain ⟨r0, r1, r2, r3, r4, r5, r6, r7, r8, r9, r10, r11, rf⟩ := cells12 HZ.out.1.2.1
  go_wp2
  have KK := keepS12 Z (w.heap.size + 1) (.int .i64 0) (.int .i64 (plainC cm).do_) (.bool (plainC cm).loc) (.int .i64 (plainC cm).idx) (.int .i64 (plainC cm).gen) (.int .i64 (plainC cm).comp) (.slice A4 (plainC cm).l.length c4) (.int .i64 0) (.int .i64 0) (.int .i64 0) (.slice none 0 0) (.slice none 0 0)
  have HS := stored12 HZ1.out.2.1 (.int .i64 0) (.int .i64 (plainC cm).do_) (.bool (plainC cm).loc) (.int .i64 (plainC cm).idx) (.int .i64 (plainC cm).gen) (.int .i64 (plainC cm).comp) (.slice A4 (plainC cm).l.length c4) (.int .i64 0) (.int .i64 0) (.int .i64 0) (.slice none 0 0) (.slice none 0 0)
  generalize ((((((((((((Z.setCell ⟨w.heap.size + 1, 0, none⟩ (.int .i64 0)).setCell ⟨w.heap.size + 1, 1, none⟩ (.int .i64 (plainC cm).do_)).setCell ⟨w.heap.size + 1, 2, none⟩ (.bool (plainC cm).loc)).setCell ⟨w.heap.size + 1, 3, none⟩ (.int .i64 (plainC cm).idx)).setCell ⟨w.heap.size + 1, 4, none⟩ (.int .i64 (plainC cm).gen)).setCell ⟨w.heap.size + 1, 5, none⟩ (.int .i64 (plainC cm).comp)).setCell ⟨w.heap.size + 1, 6, none⟩ (.slice A4 (plainC cm).l.length c4)).setCell ⟨w.heap.size + 1, 7, none⟩ (.int .i64 0)).setCell ⟨w.heap.size + 1, 8, none⟩ (.int .i64 0)).setCell ⟨w.heap.size + 1, 9, none⟩ (.int .i64 0)).setCell ⟨w.heap.size + 1, 10, none⟩ (.slice none 0 0)).setCell ⟨w.heap.size + 1, 11, none⟩ (.slice none 0 0)) = W7 at KK HS ⊢
  refine bodyPost_ret (results_act rfl _ _ (w.heap.size + 1) _ _ _ _ _ _ _ _ _ _ _ _ rfl (show W7.heap[w.heap.size + 1]? = _ from HS)) rfl ?_
  have KB := ((Keep.of_below HZ1.out.2.2.2).trans KK (fun x _ e => by omega)).to_below (Nat.le_refl _)
  exact ⟨A4, c4, none, 0, none, 0, rfl, ⟨gp_out (gp_keep (R := w.heap.size + 1) HZ.out.2 KK (by omega)), ML.nil _ _ _ _, ML.nil _ _ _ _⟩, KB⟩
end Go.Proofs.Ythkgchlndfcmpaa
namespace Go.Proofs.Ythkgchlndfcmpaa
open Go.RowKit
set_option maxRecDepth 100000
set_option linter.unusedVariables false

theorem smallA_plain {x : Ac} (h : smallA x) : smallA (plainA x) := by
  obtain ⟨d, cm, room, frames, nn, fa, fu⟩ := x
  obtain ⟨h1, h2, h3⟩ := h
  simp only at h1 h2 h3
  unfold plainA
  split
  · have := plainC_len cm
    refine ⟨?_, Nat.zero_le _, Nat.zero_le _⟩
    show (plainC cm).l.length ≤ _
    omega
  · split
    · exact ⟨Nat.zero_le _, Nat.zero_le _, Nat.zero_le _⟩
    · split
      · exact ⟨Nat.zero_le _, Nat.zero_le _, Nat.zero_le _⟩
      · split
        · exact ⟨Nat.zero_le _, h2, h3⟩
        · exact ⟨Nat.zero_le _, Nat.zero_le _, Nat.zero_le _⟩
theorem rplainA_any (x : Ac) (u1 u2 u3 : Value) (F : Nat → Prop) (w : World) (h : AM w F x u1 u2 u3) :
    Calls Try.prog 29 #[actV x u1 u2 u3] w (APost w (fun b => F b ∨ w.heap.size ≤ b) (plainA x)) := by
  obtain ⟨A1, c1, e1, -⟩ := h.1
  obtain ⟨A2, c2, e2⟩ := h.2.1.form
  obtain ⟨A3, c3, e3⟩ := h.2.2.form
  subst e1 e2 e3
  obtain ⟨d, cm, room, frames, nn, fa, fu⟩ := x
  by_cases h0 : d = 0
  · subst h0; exact rp_0 cm room frames nn fa fu A1 A2 A3 _ _ _ c1 c2 c3 F w h
  by_cases h4 : d = 4
  · subst h4; exact rp_4 cm room frames nn fa fu A1 A2 A3 _ _ _ c1 c2 c3 F w h
  by_cases h5 : d = 5
  · subst h5; exact rp_5 cm room frames nn fa fu A1 A2 A3 _ _ _ c1 c2 c3 F w h
  by_cases h6 : d = 6
  · subst h6; exact rp_6 cm room frames nn fa fu A1 A2 A3 _ _ _ c1 c2 c3 F w h
  · exact rp_o d cm room frames nn fa fu A1 A2 A3 _ _ _ c1 c2 c3 F w h0 h4 h5 h6 h
theorem splainA_any (x : Ac) (u1 u2 u3 : Value) (F : Nat → Prop) (w : World) (h : AM w F x u1 u2 u3) (hs : smallA x) :
    Calls Try.prog 28 #[actV x u1 u2 u3] w (APost w (fun b => F b ∨ w.heap.size ≤ b) (plainA x)) := by
  obtain ⟨A1, c1, e1, -⟩ := h.1
  obtain ⟨A2, c2, e2⟩ := h.2.1.form
  obtain ⟨A3, c3, e3⟩ := h.2.2.form
  subst e1 e2 e3
  obtain ⟨d, cm, room, frames, nn, fa, fu⟩ := x
  by_cases h0 : d = 0
  · subst h0; exact sp_0 cm room frames nn fa fu A1 A2 A3 _ _ _ c1 c2 c3 F w (by have := hs.1; simp only at this; omega) h
  by_cases h4 : d = 4
  · subst h4; exact sp_4 cm room frames nn fa fu A1 A2 A3 _ _ _ c1 c2 c3 F w h
  by_cases h5 : d = 5
  · subst h5; exact sp_5 cm room frames nn fa fu A1 A2 A3 _ _ _ c1 c2 c3 F w h
  by_cases h6 : d = 6
  · subst h6; exact sp_6 cm room frames nn fa fu A1 A2 A3 _ _ _ c1 c2 c3 F w hs.2 h
  · exact sp_o d cm room frames nn fa fu A1 A2 A3 _ _ _ c1 c2 c3 F w h0 h4 h5 h6 h
end Go.Proofs.Ythkgchlndfcmpaa

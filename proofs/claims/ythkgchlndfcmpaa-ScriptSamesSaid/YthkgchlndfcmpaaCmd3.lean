/- Contracts of cmd.Plain where bytes are cloned; of cmd.Plain and vivariumref13.Plain whatever the command. -/
import Derived.Test.YthkgchlndfcmpaaCmd2
namespace Go.Proofs.Ythkgchlndfcmpaa
open Go.RowKit
set_option maxRecDepth 100000
set_option linter.unusedVariables false

theorem pplain_not (d idx gen comp : Int) (loc : Bool) (l : List UInt8) (v : Value) (F : Nat → Prop) (w : World) (hk : knownC d = false) (hv : By w F v l) (hn : l.length ≤ 140737488355328) :
    Calls Try.prog 76 #[.agg #[.int .i64 d, .bool loc, .int .i64 idx, .int .i64 gen, .int .i64 comp, v]] w fun e w' => ∃ A' c', e = .returned (.agg #[.int .i64 d, .bool loc, .int .i64 idx, .int .i64 gen, .int .i64 comp, .slice A' l.length c']) ∧ By w' (fun b => w.heap.size ≤ b) (.slice A' l.length c') l ∧ Below w.heap.size w w' := by
  have K := Lib.hid (known_any d)
  rw [hk] at K
  have CL := Lib.hid (fun w' (hb : Keep (fun _ => False) w w') => bclone_any l v F w' (hv.keep hb (fun _ _ _ h => h)) hn)
  clear hk
  obtain ⟨A, c, rfl, _, _, _, _⟩ := hv
  have FIN := Lib.hid (show ∀ (w0 w1 w' : World) (A' : Option Addr) (c' : Nat), Keep (fun _ => False) w w0 → w.heap.size + 2 ≤ w0.heap.size → Own w1 w0.heap.size 5 1 (.slice A' l.length c') l.length (bv l) → Below w0.heap.size w0 w1 → Keep (fun b => b = w.heap.size ∨ b = w.heap.size + 1) w1 w' →
      By w' (fun b => w.heap.size ≤ b) (.slice A' l.length c') l ∧ Below w.heap.size w w' from fun w0 w1 w' A' c' k0 hz ho hb1 hk => by
    refine ⟨((sl_by ho.sl).keep hk (fun b _ h e => by omega)).mono (fun b _ h => by omega), ?_⟩
    exact (k0.to_below'.trans (hb1.mono (by omega))).trans (hk.below (by have := hb1.size; omega) (fun x hx e => by omega)))
  generalize hll : l.length = n at *
  clear hll hn
  go_enter Try.func76, Try.ntmps76
  go_wp2_with fail
  refine (K.out _).mono ?_
  rintro e w1 ⟨rfl, rfl⟩
  go_wp2_with fail
  refine (CL.out _ (by exact (by repeat first | exact Keep.refl _ _ | refine Keep.alloc ?_ _ | refine Keep.drew ?_ | refine Keep.drewN ?_ _))).mono ?_
  rintro e w1 ⟨u, rfl, ho, hb1⟩
  have b0 : w1.heap[w.heap.size]? = some (.cells #[.int .i64 d, .bool loc, .int .i64 idx, .int .i64 gen, .int .i64 comp, .slice A n c] 39 (0, 0)) := (hb1.block _ (by first | omega | (simp; done) | (simp; omega))).trans (by (try simp only [heap_drew']); (try simp only [World.heap_drewN]); repeat (first | exact heap_alloc_at _ _ _ (by first | rfl | simp) | rw [Below.heap_alloc _ _ _ (by first | (simp; done) | (simp; omega))]))
  have b1 : w1.heap[w.heap.size + 1]? = some (.cells #[.int .i64 0, .bool false, .int .i64 0, .int .i64 0, .int .i64 0, .slice none 0 0] 39 (0, 0)) := (hb1.block _ (by first | omega | (simp; done) | (simp; omega))).trans (by (try simp only [heap_drew']); (try simp only [World.heap_drewN]); repeat (first | exact heap_alloc_at _ _ _ (by first | rfl | simp) | rw [Below.heap_alloc _ _ _ (by first | (simp; done) | (simp; omega))]))
  obtain ⟨A', c', rfl, _⟩ := ho.form
  have FF := Lib.hid (fun w' => FIN.out _ w1 w' A' c' (by exact (by repeat first | exact Keep.refl _ _ | refine Keep.alloc ?_ _ | refine Keep.drew ?_ | refine Keep.drewN ?_ _)) (by simp) ho hb1)
  have HB := Lib.hid (And.intro b0 b1)
  obtain ⟨x0, x1, x2, x3, x4, x5, xf⟩ := cells6 b0
  obtain ⟨y0, y1, y2, y3, y4, y5, yf⟩ := cells6 b1
  have aw : ∀ (X : World) (i o : Nat) (u : Value), (X.setCell ⟨w.heap.size, i, none⟩ u).cell? ⟨w.heap.size + 1, o, none⟩ = X.cell? ⟨w.heap.size + 1, o, none⟩ := fun X i o u => cell_away (by omega) u
  have af : ∀ (X : World) (i o : Nat) (u : Value), (X.setCell ⟨w.heap.size, i, none⟩ u).frozen? ⟨w.heap.size + 1, o, none⟩ = X.frozen? ⟨w.heap.size + 1, o, none⟩ := fun X i o u => frozen_away (by omega) u
  clear ho hb1 b0 b1 FIN CL
  go_wp2
  have hW : (w1.setCell ⟨w.heap.size, 5, none⟩ (.slice A' n c')).heap[w.heap.size + 1]? = _ := (Below.heap_setCell w1 ⟨w.heap.size, 5, none⟩ _ _ (fun e => by have : w.heap.size + 1 = w.heap.size := e; omega)).trans HB.out.2
  obtain ⟨z0, z1, z2, z3, z4, z5, zf⟩ := cells6 (stored6 hW (.int .i64 d) (.bool loc) (.int .i64 idx) (.int .i64 gen) (.int .i64 comp) (.slice A' n c'))
  refine bodyPost_ret (v := .agg #[.int .i64 d, .bool loc, .int .i64 idx, .int .i64 gen, .int .i64 comp, .slice A' n c']) (by simp [results, Try.results76, go_sem, z0, z1, z2, z3, z4, z5]) rfl ⟨A', c', rfl, FF.out _ ?_⟩
  exact Keep.trans (S := fun b => b = w.heap.size ∨ b = w.heap.size + 1) (T := fun b => b = w.heap.size + 1) (Keep.setCell (p := ⟨w.heap.size, 5, none⟩) (Keep.refl _ _) (.inr (.inl rfl)) _) (keepS6 _ _ _ _ _ _ _ _) (fun x _ e => .inr e)

set_option maxHeartbeats 1000000 in
theorem pplain_2t (idx gen comp : Int) (l : List UInt8) (v : Value) (F : Nat → Prop) (w : World) (hv : By w F v l) (hn : l.length ≤ 140737488355328) :
    Calls Try.prog 76 #[.agg #[.int .i64 2, .bool true, .int .i64 idx, .int .i64 gen, .int .i64 comp, v]] w fun e w' => ∃ A' c', e = .returned (.agg #[.int .i64 2, .bool true, .int .i64 idx, .int .i64 0, .int .i64 comp, .slice A' l.length c']) ∧ By w' (fun b => w.heap.size ≤ b) (.slice A' l.length c') l ∧ Below w.heap.size w w' := by
  have K := Lib.hid (known_any 2)
  rw [show knownC 2 = true from rfl] at K
  have CL := Lib.hid (fun w' (hb : Keep (fun _ => False) w w') => bclone_any l v F w' (hv.keep hb (fun _ _ _ h => h)) hn)
  obtain ⟨A, c, rfl, _, _, _, _⟩ := hv
  have FIN := Lib.hid (show ∀ (w0 w1 w' : World) (A' : Option Addr) (c' : Nat), Keep (fun _ => False) w w0 → w.heap.size + 3 ≤ w0.heap.size → Own w1 w0.heap.size 5 1 (.slice A' l.length c') l.length (bv l) → Below w0.heap.size w0 w1 → Keep (fun b => b = w.heap.size + 1 ∨ b = w.heap.size + 1 + 1) w1 w' →
      By w' (fun b => w.heap.size ≤ b) (.slice A' l.length c') l ∧ Below w.heap.size w w' from fun w0 w1 w' A' c' k0 hz ho hb1 hk => by
    refine ⟨((sl_by ho.sl).keep hk (fun b _ h e => by omega)).mono (fun b _ h => by omega), ?_⟩
    exact (k0.to_below'.trans (hb1.mono (by omega))).trans (hk.below (by have := hb1.size; omega) (fun x hx e => by omega)))
  generalize hll : l.length = n at *
  clear hll hn
  go_enter Try.func76, Try.ntmps76
  go_wp2_with fail
  refine (K.out _).mono ?_
  rintro e w1 ⟨rfl, rfl⟩
  go_wp2_with fail
  refine (CL.out _ (by exact (by repeat first | exact Keep.refl _ _ | refine Keep.alloc ?_ _ | refine Keep.drew ?_ | refine Keep.drewN ?_ _))).mono ?_
  rintro e w1 ⟨u, rfl, ho, hb1⟩
  have b0 : w1.heap[w.heap.size]? = some (.cells #[.int .i64 2, .bool true, .int .i64 idx, .int .i64 gen, .int .i64 comp, .slice A n c] 39 (0, 0)) := (hb1.block _ (by first | omega | (simp; done) | (simp; omega))).trans (by (try simp only [heap_drew']); (try simp only [World.heap_drewN]); repeat (first | exact heap_alloc_at _ _ _ (by first | rfl | simp) | rw [Below.heap_alloc _ _ _ (by first | (simp; done) | (simp; omega))]))
  have b1 : w1.heap[w.heap.size + 1]? = some (.cells #[.int .i64 0, .bool false, .int .i64 0, .int .i64 0, .int .i64 0, .slice none 0 0] 39 (0, 0)) := (hb1.block _ (by first | omega | (simp; done) | (simp; omega))).trans (by (try simp only [heap_drew']); (try simp only [World.heap_drewN]); repeat (first | exact heap_alloc_at _ _ _ (by first | rfl | simp) | rw [Below.heap_alloc _ _ _ (by first | (simp; done) | (simp; omega))]))
  have b2 : w1.heap[w.heap.size + 1 + 1]? = some (.cells #[.int .i64 2, .bool false, .int .i64 0, .int .i64 0, .int .i64 0, .slice none 0 0] 39 (0, 0)) := (hb1.block _ (by first | omega | (simp; done) | (simp; omega))).trans (by (try simp only [heap_drew']); (try simp only [World.heap_drewN]); repeat (first | exact heap_alloc_at _ _ _ (by first | rfl | simp) | rw [Below.heap_alloc _ _ _ (by first | (simp; done) | (simp; omega))]))
  obtain ⟨A', c', rfl, _⟩ := ho.form
  have FF := Lib.hid (fun w' => FIN.out _ w1 w' A' c' (by exact (by repeat first | exact Keep.refl _ _ | refine Keep.alloc ?_ _ | refine Keep.drew ?_ | refine Keep.drewN ?_ _)) (by simp) ho hb1)
  have HB := Lib.hid (And.intro b0 (And.intro b1 b2))
  obtain ⟨x0, x1, x2, x3, x4, x5, xf⟩ := cells6 b0
  obtain ⟨y0, y1, y2, y3, y4, y5, yf⟩ := cells6 b1
  obtain ⟨z0, z1, z2, z3, z4, z5, zf⟩ := cells6 b2
  have aw0 : ∀ (X : World) (i o : Nat) (u : Value), (X.setCell ⟨w.heap.size + 1 + 1, i, none⟩ u).cell? ⟨w.heap.size, o, none⟩ = X.cell? ⟨w.heap.size, o, none⟩ := fun X i o u => cell_away (by omega) u
  have aw1 : ∀ (X : World) (i o : Nat) (u : Value), (X.setCell ⟨w.heap.size + 1 + 1, i, none⟩ u).cell? ⟨w.heap.size + 1, o, none⟩ = X.cell? ⟨w.heap.size + 1, o, none⟩ := fun X i o u => cell_away (by omega) u
  have af1 : ∀ (X : World) (i o : Nat) (u : Value), (X.setCell ⟨w.heap.size + 1 + 1, i, none⟩ u).frozen? ⟨w.heap.size + 1, o, none⟩ = X.frozen? ⟨w.heap.size + 1, o, none⟩ := fun X i o u => frozen_away (by omega) u
  clear ho hb1 b0 b1 b2 FIN CL
  go_wp2
  go_region
  have kY : Keep (fun b => b = w.heap.size + 1 + 1) w1 (((((w1.setCell ⟨w.heap.size + 1 + 1, 5, none⟩ (.slice A' n c')).setCell ⟨w.heap.size + 1 + 1, 4, none⟩ (.int .i64 comp)).setCell ⟨w.heap.size + 1 + 1, 1, none⟩ (.bool true)).setCell ⟨w.heap.size + 1 + 1, 2, none⟩ (.int .i64 idx)).setCell ⟨w.heap.size + 1 + 1, 3, none⟩ (.int .i64 gen)).drew := Keep.drew (Keep.setCell (S := fun b => b = w.heap.size + 1 + 1) (p := ⟨w.heap.size + 1 + 1, 3, none⟩) (Keep.setCell (S := fun b => b = w.heap.size + 1 + 1) (p := ⟨w.heap.size + 1 + 1, 2, none⟩) (Keep.setCell (S := fun b => b = w.heap.size + 1 + 1) (p := ⟨w.heap.size + 1 + 1, 1, none⟩) (Keep.setCell (S := fun b => b = w.heap.size + 1 + 1) (p := ⟨w.heap.size + 1 + 1, 4, none⟩) (Keep.setCell (S := fun b => b = w.heap.size + 1 + 1) (p := ⟨w.heap.size + 1 + 1, 5, none⟩) (Keep.refl _ _) (.inr rfl) _) (.inr rfl) _) (.inr rfl) _) (.inr rfl) _) (.inr rfl) _)
  have e2 : (((((w1.setCell ⟨w.heap.size + 1 + 1, 5, none⟩ (.slice A' n c')).setCell ⟨w.heap.size + 1 + 1, 4, none⟩ (.int .i64 comp)).setCell ⟨w.heap.size + 1 + 1, 1, none⟩ (.bool true)).setCell ⟨w.heap.size + 1 + 1, 2, none⟩ (.int .i64 idx)).setCell ⟨w.heap.size + 1 + 1, 3, none⟩ (.int .i64 gen)).drew.heap[w.heap.size + 1 + 1]? = some (.cells #[.int .i64 2, .bool true, .int .i64 idx, .int .i64 gen, .int .i64 comp, .slice A' n c'] 39 (0, 0)) := (heap_setCell_same ((((w1.setCell ⟨w.heap.size + 1 + 1, 5, none⟩ (.slice A' n c')).setCell ⟨w.heap.size + 1 + 1, 4, none⟩ (.int .i64 comp)).setCell ⟨w.heap.size + 1 + 1, 1, none⟩ (.bool true)).setCell ⟨w.heap.size + 1 + 1, 2, none⟩ (.int .i64 idx)) (w.heap.size + 1 + 1) 3 _ _ (.int .i64 gen) (heap_setCell_same (((w1.setCell ⟨w.heap.size + 1 + 1, 5, none⟩ (.slice A' n c')).setCell ⟨w.heap.size + 1 + 1, 4, none⟩ (.int .i64 comp)).setCell ⟨w.heap.size + 1 + 1, 1, none⟩ (.bool true)) (w.heap.size + 1 + 1) 2 _ _ (.int .i64 idx) (heap_setCell_same ((w1.setCell ⟨w.heap.size + 1 + 1, 5, none⟩ (.slice A' n c')).setCell ⟨w.heap.size + 1 + 1, 4, none⟩ (.int .i64 comp)) (w.heap.size + 1 + 1) 1 _ _ (.bool true) (heap_setCell_same (w1.setCell ⟨w.heap.size + 1 + 1, 5, none⟩ (.slice A' n c')) (w.heap.size + 1 + 1) 4 _ _ (.int .i64 comp) (heap_setCell_same w1 (w.heap.size + 1 + 1) 5 _ _ (.slice A' n c') HB.out.2.2)))))
  have e1 := (kY.block (w.heap.size + 1) (Array.getElem?_eq_some_iff.1 HB.out.2.1).1 (fun e => by have : w.heap.size + 1 = w.heap.size + 1 + 1 := e; omega)).trans HB.out.2.1
  have e0 := (kY.block (w.heap.size) (Array.getElem?_eq_some_iff.1 HB.out.1).1 (fun e => by have : w.heap.size = w.heap.size + 1 + 1 := e; omega)).trans HB.out.1
  have K3 := Lib.hid kY
  have E3 := Lib.hid (And.intro e0 (And.intro e1 e2))
  clear kY e0 e1 e2 x0 x1 x2 x3 x4 x5 xf y0 y1 y2 y3 y4 y5 yf z0 z1 z2 z3 z4 z5 zf
  generalize (((((w1.setCell ⟨w.heap.size + 1 + 1, 5, none⟩ (.slice A' n c')).setCell ⟨w.heap.size + 1 + 1, 4, none⟩ (.int .i64 comp)).setCell ⟨w.heap.size + 1 + 1, 1, none⟩ (.bool true)).setCell ⟨w.heap.size + 1 + 1, 2, none⟩ (.int .i64 idx)).setCell ⟨w.heap.size + 1 + 1, 3, none⟩ (.int .i64 gen)).drew = w3 at K3 E3 ⊢
  obtain ⟨x0, x1, x2, x3, x4, x5, xf⟩ := cells6 E3.out.1
  obtain ⟨y0, y1, y2, y3, y4, y5, yf⟩ := cells6 E3.out.2.1
  obtain ⟨z0, z1, z2, z3, z4, z5, zf⟩ := cells6 E3.out.2.2
  go_wp2
  have hY : (w3.setCell ⟨w.heap.size + 1 + 1, 3, none⟩ (.int .i64 0)).heap[w.heap.size + 1]? = _ := (Below.heap_setCell w3 ⟨w.heap.size + 1 + 1, 3, none⟩ _ _ (fun e => by have : w.heap.size + 1 = w.heap.size + 1 + 1 := e; omega)).trans E3.out.2.1
  obtain ⟨r0, r1, r2, r3, r4, r5, rf⟩ := cells6 (stored6 hY (.int .i64 2) (.bool true) (.int .i64 idx) (.int .i64 0) (.int .i64 comp) (.slice A' n c'))
  have k2 : Keep (fun b => b = w.heap.size + 1 + 1) w1 (w3.setCell ⟨w.heap.size + 1 + 1, 3, none⟩ (.int .i64 0)) := Keep.trans (S := fun b => b = w.heap.size + 1 + 1) (T := fun b => b = w.heap.size + 1 + 1) K3.out (Keep.setCell (S := fun b => b = w.heap.size + 1 + 1) (p := ⟨w.heap.size + 1 + 1, 3, none⟩) (Keep.refl _ _) (.inr rfl) _) (fun _ _ h => h)
  have kF := Keep.trans (S := fun b => b = w.heap.size + 1 ∨ b = w.heap.size + 1 + 1) (T := fun b => b = w.heap.size + 1) (k2.mono (fun b _ e => .inr e)) (keepS6 _ (w.heap.size + 1) (.int .i64 2) (.bool true) (.int .i64 idx) (.int .i64 0) (.int .i64 comp) (.slice A' n c')) (fun b _ e => .inl e)
  refine bodyPost_ret (v := .agg #[.int .i64 2, .bool true, .int .i64 idx, .int .i64 0, .int .i64 comp, .slice A' n c']) (by simp [results, Try.results76, go_sem, r0, r1, r2, r3, r4, r5]) rfl ⟨A', c', rfl, FF.out _ kF⟩

set_option maxHeartbeats 1000000 in
theorem pplain_2f (idx gen comp : Int) (l : List UInt8) (v : Value) (F : Nat → Prop) (w : World) (hv : By w F v l) (hn : l.length ≤ 140737488355328) :
    Calls Try.prog 76 #[.agg #[.int .i64 2, .bool false, .int .i64 idx, .int .i64 gen, .int .i64 comp, v]] w fun e w' => ∃ A' c', e = .returned (.agg #[.int .i64 2, .bool false, .int .i64 idx, .int .i64 gen, .int .i64 comp, .slice A' l.length c']) ∧ By w' (fun b => w.heap.size ≤ b) (.slice A' l.length c') l ∧ Below w.heap.size w w' := by
  have K := Lib.hid (known_any 2)
  rw [show knownC 2 = true from rfl] at K
  have CL := Lib.hid (fun w' (hb : Keep (fun _ => False) w w') => bclone_any l v F w' (hv.keep hb (fun _ _ _ h => h)) hn)
  obtain ⟨A, c, rfl, _, _, _, _⟩ := hv
  have FIN := Lib.hid (show ∀ (w0 w1 w' : World) (A' : Option Addr) (c' : Nat), Keep (fun _ => False) w w0 → w.heap.size + 3 ≤ w0.heap.size → Own w1 w0.heap.size 5 1 (.slice A' l.length c') l.length (bv l) → Below w0.heap.size w0 w1 → Keep (fun b => b = w.heap.size + 1 ∨ b = w.heap.size + 1 + 1) w1 w' →
      By w' (fun b => w.heap.size ≤ b) (.slice A' l.length c') l ∧ Below w.heap.size w w' from fun w0 w1 w' A' c' k0 hz ho hb1 hk => by
    refine ⟨((sl_by ho.sl).keep hk (fun b _ h e => by omega)).mono (fun b _ h => by omega), ?_⟩
    exact (k0.to_below'.trans (hb1.mono (by omega))).trans (hk.below (by have := hb1.size; omega) (fun x hx e => by omega)))
  generalize hll : l.length = n at *
  clear hll hn
  go_enter Try.func76, Try.ntmps76
  go_wp2_with fail
  refine (K.out _).mono ?_
  rintro e w1 ⟨rfl, rfl⟩
  go_wp2_with fail
  refine (CL.out _ (by exact (by repeat first | exact Keep.refl _ _ | refine Keep.alloc ?_ _ | refine Keep.drew ?_ | refine Keep.drewN ?_ _))).mono ?_
  rintro e w1 ⟨u, rfl, ho, hb1⟩
  have b0 : w1.heap[w.heap.size]? = some (.cells #[.int .i64 2, .bool false, .int .i64 idx, .int .i64 gen, .int .i64 comp, .slice A n c] 39 (0, 0)) := (hb1.block _ (by first | omega | (simp; done) | (simp; omega))).trans (by (try simp only [heap_drew']); (try simp only [World.heap_drewN]); repeat (first | exact heap_alloc_at _ _ _ (by first | rfl | simp) | rw [Below.heap_alloc _ _ _ (by first | (simp; done) | (simp; omega))]))
  have b1 : w1.heap[w.heap.size + 1]? = some (.cells #[.int .i64 0, .bool false, .int .i64 0, .int .i64 0, .int .i64 0, .slice none 0 0] 39 (0, 0)) := (hb1.block _ (by first | omega | (simp; done) | (simp; omega))).trans (by (try simp only [heap_drew']); (try simp only [World.heap_drewN]); repeat (first | exact heap_alloc_at _ _ _ (by first | rfl | simp) | rw [Below.heap_alloc _ _ _ (by first | (simp; done) | (simp; omega))]))
  have b2 : w1.heap[w.heap.size + 1 + 1]? = some (.cells #[.int .i64 2, .bool false, .int .i64 0, .int .i64 0, .int .i64 0, .slice none 0 0] 39 (0, 0)) := (hb1.block _ (by first | omega | (simp; done) | (simp; omega))).trans (by (try simp only [heap_drew']); (try simp only [World.heap_drewN]); repeat (first | exact heap_alloc_at _ _ _ (by first | rfl | simp) | rw [Below.heap_alloc _ _ _ (by first | (simp; done) | (simp; omega))]))
  obtain ⟨A', c', rfl, _⟩ := ho.form
  have FF := Lib.hid (fun w' => FIN.out _ w1 w' A' c' (by exact (by repeat first | exact Keep.refl _ _ | refine Keep.alloc ?_ _ | refine Keep.drew ?_ | refine Keep.drewN ?_ _)) (by simp) ho hb1)
  have HB := Lib.hid (And.intro b0 (And.intro b1 b2))
  obtain ⟨x0, x1, x2, x3, x4, x5, xf⟩ := cells6 b0
  obtain ⟨y0, y1, y2, y3, y4, y5, yf⟩ := cells6 b1
  obtain ⟨z0, z1, z2, z3, z4, z5, zf⟩ := cells6 b2
  have aw0 : ∀ (X : World) (i o : Nat) (u : Value), (X.setCell ⟨w.heap.size + 1 + 1, i, none⟩ u).cell? ⟨w.heap.size, o, none⟩ = X.cell? ⟨w.heap.size, o, none⟩ := fun X i o u => cell_away (by omega) u
  have aw1 : ∀ (X : World) (i o : Nat) (u : Value), (X.setCell ⟨w.heap.size + 1 + 1, i, none⟩ u).cell? ⟨w.heap.size + 1, o, none⟩ = X.cell? ⟨w.heap.size + 1, o, none⟩ := fun X i o u => cell_away (by omega) u
  have af1 : ∀ (X : World) (i o : Nat) (u : Value), (X.setCell ⟨w.heap.size + 1 + 1, i, none⟩ u).frozen? ⟨w.heap.size + 1, o, none⟩ = X.frozen? ⟨w.heap.size + 1, o, none⟩ := fun X i o u => frozen_away (by omega) u
  clear ho hb1 b0 b1 b2 FIN CL
  go_wp2
  go_region
  have kY : Keep (fun b => b = w.heap.size + 1 + 1) w1 (((((w1.setCell ⟨w.heap.size + 1 + 1, 5, none⟩ (.slice A' n c')).setCell ⟨w.heap.size + 1 + 1, 4, none⟩ (.int .i64 comp)).setCell ⟨w.heap.size + 1 + 1, 1, none⟩ (.bool false)).setCell ⟨w.heap.size + 1 + 1, 2, none⟩ (.int .i64 idx)).setCell ⟨w.heap.size + 1 + 1, 3, none⟩ (.int .i64 gen)).drew := Keep.drew (Keep.setCell (S := fun b => b = w.heap.size + 1 + 1) (p := ⟨w.heap.size + 1 + 1, 3, none⟩) (Keep.setCell (S := fun b => b = w.heap.size + 1 + 1) (p := ⟨w.heap.size + 1 + 1, 2, none⟩) (Keep.setCell (S := fun b => b = w.heap.size + 1 + 1) (p := ⟨w.heap.size + 1 + 1, 1, none⟩) (Keep.setCell (S := fun b => b = w.heap.size + 1 + 1) (p := ⟨w.heap.size + 1 + 1, 4, none⟩) (Keep.setCell (S := fun b => b = w.heap.size + 1 + 1) (p := ⟨w.heap.size + 1 + 1, 5, none⟩) (Keep.refl _ _) (.inr rfl) _) (.inr rfl) _) (.inr rfl) _) (.inr rfl) _) (.inr rfl) _)
  have e2 : (((((w1.setCell ⟨w.heap.size + 1 + 1, 5, none⟩ (.slice A' n c')).setCell ⟨w.heap.size + 1 + 1, 4, none⟩ (.int .i64 comp)).setCell ⟨w.heap.size + 1 + 1, 1, none⟩ (.bool false)).setCell ⟨w.heap.size + 1 + 1, 2, none⟩ (.int .i64 idx)).setCell ⟨w.heap.size + 1 + 1, 3, none⟩ (.int .i64 gen)).drew.heap[w.heap.size + 1 + 1]? = some (.cells #[.int .i64 2, .bool false, .int .i64 idx, .int .i64 gen, .int .i64 comp, .slice A' n c'] 39 (0, 0)) := (heap_setCell_same ((((w1.setCell ⟨w.heap.size + 1 + 1, 5, none⟩ (.slice A' n c')).setCell ⟨w.heap.size + 1 + 1, 4, none⟩ (.int .i64 comp)).setCell ⟨w.heap.size + 1 + 1, 1, none⟩ (.bool false)).setCell ⟨w.heap.size + 1 + 1, 2, none⟩ (.int .i64 idx)) (w.heap.size + 1 + 1) 3 _ _ (.int .i64 gen) (heap_setCell_same (((w1.setCell ⟨w.heap.size + 1 + 1, 5, none⟩ (.slice A' n c')).setCell ⟨w.heap.size + 1 + 1, 4, none⟩ (.int .i64 comp)).setCell ⟨w.heap.size + 1 + 1, 1, none⟩ (.bool false)) (w.heap.size + 1 + 1) 2 _ _ (.int .i64 idx) (heap_setCell_same ((w1.setCell ⟨w.heap.size + 1 + 1, 5, none⟩ (.slice A' n c')).setCell ⟨w.heap.size + 1 + 1, 4, none⟩ (.int .i64 comp)) (w.heap.size + 1 + 1) 1 _ _ (.bool false) (heap_setCell_same (w1.setCell ⟨w.heap.size + 1 + 1, 5, none⟩ (.slice A' n c')) (w.heap.size + 1 + 1) 4 _ _ (.int .i64 comp) (heap_setCell_same w1 (w.heap.size + 1 + 1) 5 _ _ (.slice A' n c') HB.out.2.2)))))
  have e1 := (kY.block (w.heap.size + 1) (Array.getElem?_eq_some_iff.1 HB.out.2.1).1 (fun e => by have : w.heap.size + 1 = w.heap.size + 1 + 1 := e; omega)).trans HB.out.2.1
  have e0 := (kY.block (w.heap.size) (Array.getElem?_eq_some_iff.1 HB.out.1).1 (fun e => by have : w.heap.size = w.heap.size + 1 + 1 := e; omega)).trans HB.out.1
  have K3 := Lib.hid kY
  have E3 := Lib.hid (And.intro e0 (And.intro e1 e2))
  clear kY e0 e1 e2 x0 x1 x2 x3 x4 x5 xf y0 y1 y2 y3 y4 y5 yf z0 z1 z2 z3 z4 z5 zf
  generalize (((((w1.setCell ⟨w.heap.size + 1 + 1, 5, none⟩ (.slice A' n c')).setCell ⟨w.heap.size + 1 + 1, 4, none⟩ (.int .i64 comp)).setCell ⟨w.heap.size + 1 + 1, 1, none⟩ (.bool false)).setCell ⟨w.heap.size + 1 + 1, 2, none⟩ (.int .i64 idx)).setCell ⟨w.heap.size + 1 + 1, 3, none⟩ (.int .i64 gen)).drew = w3 at K3 E3 ⊢
  obtain ⟨x0, x1, x2, x3, x4, x5, xf⟩ := cells6 E3.out.1
  obtain ⟨y0, y1, y2, y3, y4, y5, yf⟩ := cells6 E3.out.2.1
  obtain ⟨z0, z1, z2, z3, z4, z5, zf⟩ := cells6 E3.out.2.2
  go_wp2
  have hY : w3.heap[w.heap.size + 1]? = _ := E3.out.2.1
  obtain ⟨r0, r1, r2, r3, r4, r5, rf⟩ := cells6 (stored6 hY (.int .i64 2) (.bool false) (.int .i64 idx) (.int .i64 gen) (.int .i64 comp) (.slice A' n c'))
  have k2 := K3.out
  have kF := Keep.trans (S := fun b => b = w.heap.size + 1 ∨ b = w.heap.size + 1 + 1) (T := fun b => b = w.heap.size + 1) (k2.mono (fun b _ e => .inr e)) (keepS6 _ (w.heap.size + 1) (.int .i64 2) (.bool false) (.int .i64 idx) (.int .i64 gen) (.int .i64 comp) (.slice A' n c')) (fun b _ e => .inl e)
  refine bodyPost_ret (v := .agg #[.int .i64 2, .bool false, .int .i64 idx, .int .i64 gen, .int .i64 comp, .slice A' n c']) (by simp [results, Try.results76, go_sem, r0, r1, r2, r3, r4, r5]) rfl ⟨A', c', rfl, FF.out _ kF⟩
end Go.Proofs.Ythkgchlndfcmpaa

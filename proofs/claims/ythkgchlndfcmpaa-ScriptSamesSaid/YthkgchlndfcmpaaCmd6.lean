/- Contract of cmd.Same, whatever the commands. -/
import Derived.Test.YthkgchlndfcmpaaCmd5
namespace Go.Proofs.Ythkgchlndfcmpaa
open Go.RowKit
set_option maxRecDepth 100000
set_option linter.unusedVariables false

set_option maxHeartbeats 8000000 in
theorem psame_any (a b : Cmd) (u v : Value) (F G : Nat → Prop) (w : World) (hu : By w F u a.l) (hv : By w G v b.l) (ha : a.l.length ≤ 140737488355328) (hb : b.l.length ≤ 140737488355328) :
    Calls Try.prog 82 #[cmdV a u, cmdV b v] w fun e w' => e = .returned (.bool (sameC a b)) ∧ Below w.heap.size w w' := by
  have PA := Lib.hid (fun W (hk : Keep (fun _ => False) w W) => pplain_any a u F W (hu.keep hk (fun _ _ _ h => h)) ha)
  have PB := Lib.hid (fun W (hk : Keep (fun _ => False) w W) => pplain_any b v G W (hv.keep hk (fun _ _ _ h => h)) hb)
  obtain ⟨A, c, rfl, _, _, _, _⟩ := hu
  obtain ⟨B, d, rfl, _, _, _, _⟩ := hv
  unfold cmdV at *
  unfold sameC
  generalize plainC a = a' at *
  generalize plainC b = b' at *
  generalize a.l.length = n at *
  generalize b.l.length = m at *
  clear ha hb
  obtain ⟨z, hz⟩ : ∃ z, z = exactC a' b' := ⟨_, rfl⟩
  rw [← hz]
  by_cases h1 : ¬ a'.do_ = b'.do_
  · have Z := Lib.hid (show z = false by rw [hz]; simp [exactC, h1])
    have e9 : (a'.do_ == b'.do_) = false := by rw [beq_eq_false_iff_ne]; exact h1
    clear hz
    go_enter Try.func82, Try.ntmps82
    have aw0 : ∀ (X : World) (i o : Nat) (u : Value), (X.setCell ⟨w.heap.size, i, none⟩ u).cell? ⟨w.heap.size + 1, o, none⟩ = X.cell? ⟨w.heap.size + 1, o, none⟩ := fun X i o u => cell_away (by omega) u
    have af0 : ∀ (X : World) (i o : Nat) (u : Value), (X.setCell ⟨w.heap.size, i, none⟩ u).frozen? ⟨w.heap.size + 1, o, none⟩ = X.frozen? ⟨w.heap.size + 1, o, none⟩ := fun X i o u => frozen_away (by omega) u
    have aw1 : ∀ (X : World) (i o : Nat) (u : Value), (X.setCell ⟨w.heap.size + 1, i, none⟩ u).cell? ⟨w.heap.size, o, none⟩ = X.cell? ⟨w.heap.size, o, none⟩ := fun X i o u => cell_away (by omega) u
    have af1 : ∀ (X : World) (i o : Nat) (u : Value), (X.setCell ⟨w.heap.size + 1, i, none⟩ u).frozen? ⟨w.heap.size, o, none⟩ = X.frozen? ⟨w.heap.size, o, none⟩ := fun X i o u => frozen_away (by omega) u
    go_wp2
    go_region_with (first
      | (go_at_call 76; (with_reducible refine (PA.out _ ?_).mono ?_); (exact (by repeat first | exact Keep.refl _ _ | refine Keep.alloc ?_ _ | refine Keep.drew ?_ | refine Keep.drewN ?_ _)); rintro e w1 ⟨A1, c1, rfl, hby1, hb1⟩; unfold cmdV; have b0 : w1.heap[w.heap.size]? = some (.cells #[.int .i64 a.do_, .bool a.loc, .int .i64 a.idx, .int .i64 a.gen, .int .i64 a.comp, .slice A n c] 39 (0, 0)) := (hb1.block _ (by first | omega | (simp; done) | (simp; omega))).trans (by (try simp only [heap_drew']); (try simp only [World.heap_drewN]); repeat (first | exact heap_alloc_at _ _ _ (by first | rfl | simp) | rw [Below.heap_alloc _ _ _ (by first | (simp; done) | (simp; omega))])); have b1 : w1.heap[w.heap.size + 1]? = some (.cells #[.int .i64 b.do_, .bool b.loc, .int .i64 b.idx, .int .i64 b.gen, .int .i64 b.comp, .slice B m d] 39 (0, 0)) := (hb1.block _ (by first | omega | (simp; done) | (simp; omega))).trans (by (try simp only [heap_drew']); (try simp only [World.heap_drewN]); repeat (first | exact heap_alloc_at _ _ _ (by first | rfl | simp) | rw [Below.heap_alloc _ _ _ (by first | (simp; done) | (simp; omega))])); obtain ⟨y0, y1, y2, y3, y4, y5, yf⟩ := cells6 b1; have H1 := Lib.hid (And.intro hby1 (And.intro b0 (And.intro b1 (show Keep (fun _ => False) w w1 from Keep.trans (T := fun _ => False) (by repeat first | exact Keep.refl _ _ | refine Keep.alloc ?_ _ | refine Keep.drew ?_ | refine Keep.drewN ?_ _) (Keep.of_below' hb1) (fun _ _ h => h))))); clear hby1 b0 b1 hb1 PA)
      | (go_at_call 76; (refine (PB.out _ ?_).mono ?_); (exact Keep.trans (T := fun _ => False) H1.out.2.2.2 (by exact (by repeat first | exact Keep.refl _ _ | refine Keep.alloc ?_ _ | refine Keep.drew ?_ | refine Keep.drewN ?_ _)) (fun _ _ h => h)); rintro e w2 ⟨A2, c2, rfl, hby2, hb2⟩; unfold cmdV; have b0 := (hb2.block _ (Array.getElem?_eq_some_iff.1 H1.out.2.1).1).trans H1.out.2.1; have b1 := (hb2.block _ (Array.getElem?_eq_some_iff.1 H1.out.2.2.1).1).trans H1.out.2.2.1; clear y0 y1 y2 y3 y4 y5 yf; obtain ⟨x0, x1, x2, x3, x4, x5, xf⟩ := cells6 b0; obtain ⟨y0, y1, y2, y3, y4, y5, yf⟩ := cells6 b1; have H2 := Lib.hid (And.intro hby2 (And.intro b0 (And.intro b1 hb2))); clear hby2 b0 b1 hb2 PB)
      | fail)
    all_goals
      clear x0 x1 x2 x3 x4 x5 xf y0 y1 y2 y3 y4 y5 yf aw0 af0 aw1 af1
      have kA := keepS6 w2 w.heap.size (.int .i64 a'.do_) (.bool a'.loc) (.int .i64 a'.idx) (.int .i64 a'.gen) (.int .i64 a'.comp) (.slice A1 a'.l.length c1)
      have eB := (kA.block (w.heap.size + 1) (Array.getElem?_eq_some_iff.1 H2.out.2.2.1).1 (fun e => by have : w.heap.size + 1 = w.heap.size := e; omega)).trans H2.out.2.2.1
      have kB := keepS6 ((((((w2.setCell ⟨w.heap.size, 0, none⟩ (.int .i64 a'.do_)).setCell ⟨w.heap.size, 1, none⟩ (.bool a'.loc)).setCell ⟨w.heap.size, 2, none⟩ (.int .i64 a'.idx)).setCell ⟨w.heap.size, 3, none⟩ (.int .i64 a'.gen)).setCell ⟨w.heap.size, 4, none⟩ (.int .i64 a'.comp)).setCell ⟨w.heap.size, 5, none⟩ (.slice A1 a'.l.length c1)) (w.heap.size + 1) (.int .i64 b'.do_) (.bool b'.loc) (.int .i64 b'.idx) (.int .i64 b'.gen) (.int .i64 b'.comp) (.slice A2 b'.l.length c2)
      have fB := stored6 eB (.int .i64 b'.do_) (.bool b'.loc) (.int .i64 b'.idx) (.int .i64 b'.gen) (.int .i64 b'.comp) (.slice A2 b'.l.length c2)
      have fA0 := stored6 H2.out.2.1 (.int .i64 a'.do_) (.bool a'.loc) (.int .i64 a'.idx) (.int .i64 a'.gen) (.int .i64 a'.comp) (.slice A1 a'.l.length c1)
      have fA := (kB.block (w.heap.size) (Array.getElem?_eq_some_iff.1 fA0).1 (fun e => by have : w.heap.size = w.heap.size + 1 := e; omega)).trans fA0
      have K3 := Lib.hid (Keep.trans (S := fun b => b = w.heap.size ∨ b = w.heap.size + 1) (kA.mono (fun b _ e => .inl e)) kB (fun b _ e => .inr e))
      have F3 := Lib.hid (And.intro fA fB)
      clear kA eB kB fB fA0 fA
      generalize hw3 : ((((((((((((w2.setCell ⟨w.heap.size, 0, none⟩ (.int .i64 a'.do_)).setCell ⟨w.heap.size, 1, none⟩ (.bool a'.loc)).setCell ⟨w.heap.size, 2, none⟩ (.int .i64 a'.idx)).setCell ⟨w.heap.size, 3, none⟩ (.int .i64 a'.gen)).setCell ⟨w.heap.size, 4, none⟩ (.int .i64 a'.comp)).setCell ⟨w.heap.size, 5, none⟩ (.slice A1 a'.l.length c1)).setCell ⟨w.heap.size + 1, 0, none⟩ (.int .i64 b'.do_)).setCell ⟨w.heap.size + 1, 1, none⟩ (.bool b'.loc)).setCell ⟨w.heap.size + 1, 2, none⟩ (.int .i64 b'.idx)).setCell ⟨w.heap.size + 1, 3, none⟩ (.int .i64 b'.gen)).setCell ⟨w.heap.size + 1, 4, none⟩ (.int .i64 b'.comp)).setCell ⟨w.heap.size + 1, 5, none⟩ (.slice A2 b'.l.length c2)) = w3 at K3 F3 ⊢
      clear hw3
      obtain ⟨x0, x1, x2, x3, x4, x5, xf⟩ := cells6 F3.out.1
      obtain ⟨y0, y1, y2, y3, y4, y5, yf⟩ := cells6 F3.out.2
      have BL := Lib.hid (show Below w.heap.size w w3 from by
        have h1 := (Keep.trans (S := fun b => w.heap.size ≤ b) (H1.out.2.2.2.mono (fun _ _ h => h.elim)) (Keep.of_below H2.out.2.2.2 |>.mono (fun b _ h => by have := H1.out.2.2.2.size; omega)) (fun _ _ h => h)).to_below (Nat.le_refl _)
        exact h1.trans (K3.out.below h1.size (fun x hx e => by omega)))
      go_wp2
      go_ret
      exact ⟨ret_bool Z.out.symm, BL.out⟩
  have h1 := Decidable.not_not.1 h1
  have G1 := Lib.hid h1
  clear h1
  by_cases h2 : ¬ a'.loc = b'.loc
  · have Z := Lib.hid (show z = false by rw [hz]; simp [exactC, h2])
    have e9 : (a'.loc == b'.loc) = false := by rw [beq_eq_false_iff_ne]; exact h2
    have q1 : (a'.do_ == b'.do_) = true := by rw [beq_iff_eq]; exact G1.out
    clear hz
    go_enter Try.func82, Try.ntmps82
    have aw0 : ∀ (X : World) (i o : Nat) (u : Value), (X.setCell ⟨w.heap.size, i, none⟩ u).cell? ⟨w.heap.size + 1, o, none⟩ = X.cell? ⟨w.heap.size + 1, o, none⟩ := fun X i o u => cell_away (by omega) u
    have af0 : ∀ (X : World) (i o : Nat) (u : Value), (X.setCell ⟨w.heap.size, i, none⟩ u).frozen? ⟨w.heap.size + 1, o, none⟩ = X.frozen? ⟨w.heap.size + 1, o, none⟩ := fun X i o u => frozen_away (by omega) u
    have aw1 : ∀ (X : World) (i o : Nat) (u : Value), (X.setCell ⟨w.heap.size + 1, i, none⟩ u).cell? ⟨w.heap.size, o, none⟩ = X.cell? ⟨w.heap.size, o, none⟩ := fun X i o u => cell_away (by omega) u
    have af1 : ∀ (X : World) (i o : Nat) (u : Value), (X.setCell ⟨w.heap.size + 1, i, none⟩ u).frozen? ⟨w.heap.size, o, none⟩ = X.frozen? ⟨w.heap.size, o, none⟩ := fun X i o u => frozen_away (by omega) u
    go_wp2
    go_region_with (first
      | (go_at_call 76; (with_reducible refine (PA.out _ ?_).mono ?_); (exact (by repeat first | exact Keep.refl _ _ | refine Keep.alloc ?_ _ | refine Keep.drew ?_ | refine Keep.drewN ?_ _)); rintro e w1 ⟨A1, c1, rfl, hby1, hb1⟩; unfold cmdV; have b0 : w1.heap[w.heap.size]? = some (.cells #[.int .i64 a.do_, .bool a.loc, .int .i64 a.idx, .int .i64 a.gen, .int .i64 a.comp, .slice A n c] 39 (0, 0)) := (hb1.block _ (by first | omega | (simp; done) | (simp; omega))).trans (by (try simp only [heap_drew']); (try simp only [World.heap_drewN]); repeat (first | exact heap_alloc_at _ _ _ (by first | rfl | simp) | rw [Below.heap_alloc _ _ _ (by first | (simp; done) | (simp; omega))])); have b1 : w1.heap[w.heap.size + 1]? = some (.cells #[.int .i64 b.do_, .bool b.loc, .int .i64 b.idx, .int .i64 b.gen, .int .i64 b.comp, .slice B m d] 39 (0, 0)) := (hb1.block _ (by first | omega | (simp; done) | (simp; omega))).trans (by (try simp only [heap_drew']); (try simp only [World.heap_drewN]); repeat (first | exact heap_alloc_at _ _ _ (by first | rfl | simp) | rw [Below.heap_alloc _ _ _ (by first | (simp; done) | (simp; omega))])); obtain ⟨y0, y1, y2, y3, y4, y5, yf⟩ := cells6 b1; have H1 := Lib.hid (And.intro hby1 (And.intro b0 (And.intro b1 (show Keep (fun _ => False) w w1 from Keep.trans (T := fun _ => False) (by repeat first | exact Keep.refl _ _ | refine Keep.alloc ?_ _ | refine Keep.drew ?_ | refine Keep.drewN ?_ _) (Keep.of_below' hb1) (fun _ _ h => h))))); clear hby1 b0 b1 hb1 PA)
      | (go_at_call 76; (refine (PB.out _ ?_).mono ?_); (exact Keep.trans (T := fun _ => False) H1.out.2.2.2 (by exact (by repeat first | exact Keep.refl _ _ | refine Keep.alloc ?_ _ | refine Keep.drew ?_ | refine Keep.drewN ?_ _)) (fun _ _ h => h)); rintro e w2 ⟨A2, c2, rfl, hby2, hb2⟩; unfold cmdV; have b0 := (hb2.block _ (Array.getElem?_eq_some_iff.1 H1.out.2.1).1).trans H1.out.2.1; have b1 := (hb2.block _ (Array.getElem?_eq_some_iff.1 H1.out.2.2.1).1).trans H1.out.2.2.1; clear y0 y1 y2 y3 y4 y5 yf; obtain ⟨x0, x1, x2, x3, x4, x5, xf⟩ := cells6 b0; obtain ⟨y0, y1, y2, y3, y4, y5, yf⟩ := cells6 b1; have H2 := Lib.hid (And.intro hby2 (And.intro b0 (And.intro b1 hb2))); clear hby2 b0 b1 hb2 PB)
      | fail)
    all_goals
      clear x0 x1 x2 x3 x4 x5 xf y0 y1 y2 y3 y4 y5 yf aw0 af0 aw1 af1
      have kA := keepS6 w2 w.heap.size (.int .i64 a'.do_) (.bool a'.loc) (.int .i64 a'.idx) (.int .i64 a'.gen) (.int .i64 a'.comp) (.slice A1 a'.l.length c1)
      have eB := (kA.block (w.heap.size + 1) (Array.getElem?_eq_some_iff.1 H2.out.2.2.1).1 (fun e => by have : w.heap.size + 1 = w.heap.size := e; omega)).trans H2.out.2.2.1
      have kB := keepS6 ((((((w2.setCell ⟨w.heap.size, 0, none⟩ (.int .i64 a'.do_)).setCell ⟨w.heap.size, 1, none⟩ (.bool a'.loc)).setCell ⟨w.heap.size, 2, none⟩ (.int .i64 a'.idx)).setCell ⟨w.heap.size, 3, none⟩ (.int .i64 a'.gen)).setCell ⟨w.heap.size, 4, none⟩ (.int .i64 a'.comp)).setCell ⟨w.heap.size, 5, none⟩ (.slice A1 a'.l.length c1)) (w.heap.size + 1) (.int .i64 b'.do_) (.bool b'.loc) (.int .i64 b'.idx) (.int .i64 b'.gen) (.int .i64 b'.comp) (.slice A2 b'.l.length c2)
      have fB := stored6 eB (.int .i64 b'.do_) (.bool b'.loc) (.int .i64 b'.idx) (.int .i64 b'.gen) (.int .i64 b'.comp) (.slice A2 b'.l.length c2)
      have fA0 := stored6 H2.out.2.1 (.int .i64 a'.do_) (.bool a'.loc) (.int .i64 a'.idx) (.int .i64 a'.gen) (.int .i64 a'.comp) (.slice A1 a'.l.length c1)
      have fA := (kB.block (w.heap.size) (Array.getElem?_eq_some_iff.1 fA0).1 (fun e => by have : w.heap.size = w.heap.size + 1 := e; omega)).trans fA0
      have K3 := Lib.hid (Keep.trans (S := fun b => b = w.heap.size ∨ b = w.heap.size + 1) (kA.mono (fun b _ e => .inl e)) kB (fun b _ e => .inr e))
      have F3 := Lib.hid (And.intro fA fB)
      clear kA eB kB fB fA0 fA
      generalize hw3 : ((((((((((((w2.setCell ⟨w.heap.size, 0, none⟩ (.int .i64 a'.do_)).setCell ⟨w.heap.size, 1, none⟩ (.bool a'.loc)).setCell ⟨w.heap.size, 2, none⟩ (.int .i64 a'.idx)).setCell ⟨w.heap.size, 3, none⟩ (.int .i64 a'.gen)).setCell ⟨w.heap.size, 4, none⟩ (.int .i64 a'.comp)).setCell ⟨w.heap.size, 5, none⟩ (.slice A1 a'.l.length c1)).setCell ⟨w.heap.size + 1, 0, none⟩ (.int .i64 b'.do_)).setCell ⟨w.heap.size + 1, 1, none⟩ (.bool b'.loc)).setCell ⟨w.heap.size + 1, 2, none⟩ (.int .i64 b'.idx)).setCell ⟨w.heap.size + 1, 3, none⟩ (.int .i64 b'.gen)).setCell ⟨w.heap.size + 1, 4, none⟩ (.int .i64 b'.comp)).setCell ⟨w.heap.size + 1, 5, none⟩ (.slice A2 b'.l.length c2)) = w3 at K3 F3 ⊢
      clear hw3
      obtain ⟨x0, x1, x2, x3, x4, x5, xf⟩ := cells6 F3.out.1
      obtain ⟨y0, y1, y2, y3, y4, y5, yf⟩ := cells6 F3.out.2
      have BL := Lib.hid (show Below w.heap.size w w3 from by
        have h1 := (Keep.trans (S := fun b => w.heap.size ≤ b) (H1.out.2.2.2.mono (fun _ _ h => h.elim)) (Keep.of_below H2.out.2.2.2 |>.mono (fun b _ h => by have := H1.out.2.2.2.size; omega)) (fun _ _ h => h)).to_below (Nat.le_refl _)
        exact h1.trans (K3.out.below h1.size (fun x hx e => by omega)))
      go_wp2
      go_ret
      exact ⟨ret_bool Z.out.symm, BL.out⟩
  have h2 := Decidable.not_not.1 h2
  have G2 := Lib.hid h2
  clear h2
  by_cases h3 : ¬ a'.idx = b'.idx
  · have Z := Lib.hid (show z = false by rw [hz]; simp [exactC, h3])
    have e9 : (a'.idx == b'.idx) = false := by rw [beq_eq_false_iff_ne]; exact h3
    have q1 : (a'.do_ == b'.do_) = true := by rw [beq_iff_eq]; exact G1.out
    have q2 : (a'.loc == b'.loc) = true := by rw [beq_iff_eq]; exact G2.out
    clear hz
    go_enter Try.func82, Try.ntmps82
    have aw0 : ∀ (X : World) (i o : Nat) (u : Value), (X.setCell ⟨w.heap.size, i, none⟩ u).cell? ⟨w.heap.size + 1, o, none⟩ = X.cell? ⟨w.heap.size + 1, o, none⟩ := fun X i o u => cell_away (by omega) u
    have af0 : ∀ (X : World) (i o : Nat) (u : Value), (X.setCell ⟨w.heap.size, i, none⟩ u).frozen? ⟨w.heap.size + 1, o, none⟩ = X.frozen? ⟨w.heap.size + 1, o, none⟩ := fun X i o u => frozen_away (by omega) u
    have aw1 : ∀ (X : World) (i o : Nat) (u : Value), (X.setCell ⟨w.heap.size + 1, i, none⟩ u).cell? ⟨w.heap.size, o, none⟩ = X.cell? ⟨w.heap.size, o, none⟩ := fun X i o u => cell_away (by omega) u
    have af1 : ∀ (X : World) (i o : Nat) (u : Value), (X.setCell ⟨w.heap.size + 1, i, none⟩ u).frozen? ⟨w.heap.size, o, none⟩ = X.frozen? ⟨w.heap.size, o, none⟩ := fun X i o u => frozen_away (by omega) u
    go_wp2
    go_region_with (first
      | (go_at_call 76; (with_reducible refine (PA.out _ ?_).mono ?_); (exact (by repeat first | exact Keep.refl _ _ | refine Keep.alloc ?_ _ | refine Keep.drew ?_ | refine Keep.drewN ?_ _)); rintro e w1 ⟨A1, c1, rfl, hby1, hb1⟩; unfold cmdV; have b0 : w1.heap[w.heap.size]? = some (.cells #[.int .i64 a.do_, .bool a.loc, .int .i64 a.idx, .int .i64 a.gen, .int .i64 a.comp, .slice A n c] 39 (0, 0)) := (hb1.block _ (by first | omega | (simp; done) | (simp; omega))).trans (by (try simp only [heap_drew']); (try simp only [World.heap_drewN]); repeat (first | exact heap_alloc_at _ _ _ (by first | rfl | simp) | rw [Below.heap_alloc _ _ _ (by first | (simp; done) | (simp; omega))])); have b1 : w1.heap[w.heap.size + 1]? = some (.cells #[.int .i64 b.do_, .bool b.loc, .int .i64 b.idx, .int .i64 b.gen, .int .i64 b.comp, .slice B m d] 39 (0, 0)) := (hb1.block _ (by first | omega | (simp; done) | (simp; omega))).trans (by (try simp only [heap_drew']); (try simp only [World.heap_drewN]); repeat (first | exact heap_alloc_at _ _ _ (by first | rfl | simp) | rw [Below.heap_alloc _ _ _ (by first | (simp; done) | (simp; omega))])); obtain ⟨y0, y1, y2, y3, y4, y5, yf⟩ := cells6 b1; have H1 := Lib.hid (And.intro hby1 (And.intro b0 (And.intro b1 (show Keep (fun _ => False) w w1 from Keep.trans (T := fun _ => False) (by repeat first | exact Keep.refl _ _ | refine Keep.alloc ?_ _ | refine Keep.drew ?_ | refine Keep.drewN ?_ _) (Keep.of_below' hb1) (fun _ _ h => h))))); clear hby1 b0 b1 hb1 PA)
      | (go_at_call 76; (refine (PB.out _ ?_).mono ?_); (exact Keep.trans (T := fun _ => False) H1.out.2.2.2 (by exact (by repeat first | exact Keep.refl _ _ | refine Keep.alloc ?_ _ | refine Keep.drew ?_ | refine Keep.drewN ?_ _)) (fun _ _ h => h)); rintro e w2 ⟨A2, c2, rfl, hby2, hb2⟩; unfold cmdV; have b0 := (hb2.block _ (Array.getElem?_eq_some_iff.1 H1.out.2.1).1).trans H1.out.2.1; have b1 := (hb2.block _ (Array.getElem?_eq_some_iff.1 H1.out.2.2.1).1).trans H1.out.2.2.1; clear y0 y1 y2 y3 y4 y5 yf; obtain ⟨x0, x1, x2, x3, x4, x5, xf⟩ := cells6 b0; obtain ⟨y0, y1, y2, y3, y4, y5, yf⟩ := cells6 b1; have H2 := Lib.hid (And.intro hby2 (And.intro b0 (And.intro b1 hb2))); clear hby2 b0 b1 hb2 PB)
      | fail)
    all_goals
      clear x0 x1 x2 x3 x4 x5 xf y0 y1 y2 y3 y4 y5 yf aw0 af0 aw1 af1
      have kA := keepS6 w2 w.heap.size (.int .i64 a'.do_) (.bool a'.loc) (.int .i64 a'.idx) (.int .i64 a'.gen) (.int .i64 a'.comp) (.slice A1 a'.l.length c1)
      have eB := (kA.block (w.heap.size + 1) (Array.getElem?_eq_some_iff.1 H2.out.2.2.1).1 (fun e => by have : w.heap.size + 1 = w.heap.size := e; omega)).trans H2.out.2.2.1
      have kB := keepS6 ((((((w2.setCell ⟨w.heap.size, 0, none⟩ (.int .i64 a'.do_)).setCell ⟨w.heap.size, 1, none⟩ (.bool a'.loc)).setCell ⟨w.heap.size, 2, none⟩ (.int .i64 a'.idx)).setCell ⟨w.heap.size, 3, none⟩ (.int .i64 a'.gen)).setCell ⟨w.heap.size, 4, none⟩ (.int .i64 a'.comp)).setCell ⟨w.heap.size, 5, none⟩ (.slice A1 a'.l.length c1)) (w.heap.size + 1) (.int .i64 b'.do_) (.bool b'.loc) (.int .i64 b'.idx) (.int .i64 b'.gen) (.int .i64 b'.comp) (.slice A2 b'.l.length c2)
      have fB := stored6 eB (.int .i64 b'.do_) (.bool b'.loc) (.int .i64 b'.idx) (.int .i64 b'.gen) (.int .i64 b'.comp) (.slice A2 b'.l.length c2)
      have fA0 := stored6 H2.out.2.1 (.int .i64 a'.do_) (.bool a'.loc) (.int .i64 a'.idx) (.int .i64 a'.gen) (.int .i64 a'.comp) (.slice A1 a'.l.length c1)
      have fA := (kB.block (w.heap.size) (Array.getElem?_eq_some_iff.1 fA0).1 (fun e => by have : w.heap.size = w.heap.size + 1 := e; omega)).trans fA0
      have K3 := Lib.hid (Keep.trans (S := fun b => b = w.heap.size ∨ b = w.heap.size + 1) (kA.mono (fun b _ e => .inl e)) kB (fun b _ e => .inr e))
      have F3 := Lib.hid (And.intro fA fB)
      clear kA eB kB fB fA0 fA
      generalize hw3 : ((((((((((((w2.setCell ⟨w.heap.size, 0, none⟩ (.int .i64 a'.do_)).setCell ⟨w.heap.size, 1, none⟩ (.bool a'.loc)).setCell ⟨w.heap.size, 2, none⟩ (.int .i64 a'.idx)).setCell ⟨w.heap.size, 3, none⟩ (.int .i64 a'.gen)).setCell ⟨w.heap.size, 4, none⟩ (.int .i64 a'.comp)).setCell ⟨w.heap.size, 5, none⟩ (.slice A1 a'.l.length c1)).setCell ⟨w.heap.size + 1, 0, none⟩ (.int .i64 b'.do_)).setCell ⟨w.heap.size + 1, 1, none⟩ (.bool b'.loc)).setCell ⟨w.heap.size + 1, 2, none⟩ (.int .i64 b'.idx)).setCell ⟨w.heap.size + 1, 3, none⟩ (.int .i64 b'.gen)).setCell ⟨w.heap.size + 1, 4, none⟩ (.int .i64 b'.comp)).setCell ⟨w.heap.size + 1, 5, none⟩ (.slice A2 b'.l.length c2)) = w3 at K3 F3 ⊢
      clear hw3
      obtain ⟨x0, x1, x2, x3, x4, x5, xf⟩ := cells6 F3.out.1
      obtain ⟨y0, y1, y2, y3, y4, y5, yf⟩ := cells6 F3.out.2
      have BL := Lib.hid (show Below w.heap.size w w3 from by
        have h1 := (Keep.trans (S := fun b => w.heap.size ≤ b) (H1.out.2.2.2.mono (fun _ _ h => h.elim)) (Keep.of_below H2.out.2.2.2 |>.mono (fun b _ h => by have := H1.out.2.2.2.size; omega)) (fun _ _ h => h)).to_below (Nat.le_refl _)
        exact h1.trans (K3.out.below h1.size (fun x hx e => by omega)))
      go_wp2
      go_ret
      exact ⟨ret_bool Z.out.symm, BL.out⟩
  have h3 := Decidable.not_not.1 h3
  have G3 := Lib.hid h3
  clear h3
  by_cases h4 : ¬ a'.gen = b'.gen
  · have Z := Lib.hid (show z = false by rw [hz]; simp [exactC, h4])
    have e9 : (a'.gen == b'.gen) = false := by rw [beq_eq_false_iff_ne]; exact h4
    have q1 : (a'.do_ == b'.do_) = true := by rw [beq_iff_eq]; exact G1.out
    have q2 : (a'.loc == b'.loc) = true := by rw [beq_iff_eq]; exact G2.out
    have q3 : (a'.idx == b'.idx) = true := by rw [beq_iff_eq]; exact G3.out
    clear hz
    go_enter Try.func82, Try.ntmps82
    have aw0 : ∀ (X : World) (i o : Nat) (u : Value), (X.setCell ⟨w.heap.size, i, none⟩ u).cell? ⟨w.heap.size + 1, o, none⟩ = X.cell? ⟨w.heap.size + 1, o, none⟩ := fun X i o u => cell_away (by omega) u
    have af0 : ∀ (X : World) (i o : Nat) (u : Value), (X.setCell ⟨w.heap.size, i, none⟩ u).frozen? ⟨w.heap.size + 1, o, none⟩ = X.frozen? ⟨w.heap.size + 1, o, none⟩ := fun X i o u => frozen_away (by omega) u
    have aw1 : ∀ (X : World) (i o : Nat) (u : Value), (X.setCell ⟨w.heap.size + 1, i, none⟩ u).cell? ⟨w.heap.size, o, none⟩ = X.cell? ⟨w.heap.size, o, none⟩ := fun X i o u => cell_away (by omega) u
    have af1 : ∀ (X : World) (i o : Nat) (u : Value), (X.setCell ⟨w.heap.size + 1, i, none⟩ u).frozen? ⟨w.heap.size, o, none⟩ = X.frozen? ⟨w.heap.size, o, none⟩ := fun X i o u => frozen_away (by omega) u
    go_wp2
    go_region_with (first
      | (go_at_call 76; (with_reducible refine (PA.out _ ?_).mono ?_); (exact (by repeat first | exact Keep.refl _ _ | refine Keep.alloc ?_ _ | refine Keep.drew ?_ | refine Keep.drewN ?_ _)); rintro e w1 ⟨A1, c1, rfl, hby1, hb1⟩; unfold cmdV; have b0 : w1.heap[w.heap.size]? = some (.cells #[.int .i64 a.do_, .bool a.loc, .int .i64 a.idx, .int .i64 a.gen, .int .i64 a.comp, .slice A n c] 39 (0, 0)) := (hb1.block _ (by first | omega | (simp; done) | (simp; omega))).trans (by (try simp only [heap_drew']); (try simp only [World.heap_drewN]); repeat (first | exact heap_alloc_at _ _ _ (by first | rfl | simp) | rw [Below.heap_alloc _ _ _ (by first | (simp; done) | (simp; omega))])); have b1 : w1.heap[w.heap.size + 1]? = some (.cells #[.int .i64 b.do_, .bool b.loc, .int .i64 b.idx, .int .i64 b.gen, .int .i64 b.comp, .slice B m d] 39 (0, 0)) := (hb1.block _ (by first | omega | (simp; done) | (simp; omega))).trans (by (try simp only [heap_drew']); (try simp only [World.heap_drewN]); repeat (first | exact heap_alloc_at _ _ _ (by first | rfl | simp) | rw [Below.heap_alloc _ _ _ (by first | (simp; done) | (simp; omega))])); obtain ⟨y0, y1, y2, y3, y4, y5, yf⟩ := cells6 b1; have H1 := Lib.hid (And.intro hby1 (And.intro b0 (And.intro b1 (show Keep (fun _ => False) w w1 from Keep.trans (T := fun _ => False) (by repeat first | exact Keep.refl _ _ | refine Keep.alloc ?_ _ | refine Keep.drew ?_ | refine Keep.drewN ?_ _) (Keep.of_below' hb1) (fun _ _ h => h))))); clear hby1 b0 b1 hb1 PA)
      | (go_at_call 76; (refine (PB.out _ ?_).mono ?_); (exact Keep.trans (T := fun _ => False) H1.out.2.2.2 (by exact (by repeat first | exact Keep.refl _ _ | refine Keep.alloc ?_ _ | refine Keep.drew ?_ | refine Keep.drewN ?_ _)) (fun _ _ h => h)); rintro e w2 ⟨A2, c2, rfl, hby2, hb2⟩; unfold cmdV; have b0 := (hb2.block _ (Array.getElem?_eq_some_iff.1 H1.out.2.1).1).trans H1.out.2.1; have b1 := (hb2.block _ (Array.getElem?_eq_some_iff.1 H1.out.2.2.1).1).trans H1.out.2.2.1; clear y0 y1 y2 y3 y4 y5 yf; obtain ⟨x0, x1, x2, x3, x4, x5, xf⟩ := cells6 b0; obtain ⟨y0, y1, y2, y3, y4, y5, yf⟩ := cells6 b1; have H2 := Lib.hid (And.intro hby2 (And.intro b0 (And.intro b1 hb2))); clear hby2 b0 b1 hb2 PB)
      | fail)
    all_goals
      clear x0 x1 x2 x3 x4 x5 xf y0 y1 y2 y3 y4 y5 yf aw0 af0 aw1 af1
      have kA := keepS6 w2 w.heap.size (.int .i64 a'.do_) (.bool a'.loc) (.int .i64 a'.idx) (.int .i64 a'.gen) (.int .i64 a'.comp) (.slice A1 a'.l.length c1)
      have eB := (kA.block (w.heap.size + 1) (Array.getElem?_eq_some_iff.1 H2.out.2.2.1).1 (fun e => by have : w.heap.size + 1 = w.heap.size := e; omega)).trans H2.out.2.2.1
      have kB := keepS6 ((((((w2.setCell ⟨w.heap.size, 0, none⟩ (.int .i64 a'.do_)).setCell ⟨w.heap.size, 1, none⟩ (.bool a'.loc)).setCell ⟨w.heap.size, 2, none⟩ (.int .i64 a'.idx)).setCell ⟨w.heap.size, 3, none⟩ (.int .i64 a'.gen)).setCell ⟨w.heap.size, 4, none⟩ (.int .i64 a'.comp)).setCell ⟨w.heap.size, 5, none⟩ (.slice A1 a'.l.length c1)) (w.heap.size + 1) (.int .i64 b'.do_) (.bool b'.loc) (.int .i64 b'.idx) (.int .i64 b'.gen) (.int .i64 b'.comp) (.slice A2 b'.l.length c2)
      have fB := stored6 eB (.int .i64 b'.do_) (.bool b'.loc) (.int .i64 b'.idx) (.int .i64 b'.gen) (.int .i64 b'.comp) (.slice A2 b'.l.length c2)
      have fA0 := stored6 H2.out.2.1 (.int .i64 a'.do_) (.bool a'.loc) (.int .i64 a'.idx) (.int .i64 a'.gen) (.int .i64 a'.comp) (.slice A1 a'.l.length c1)
      have fA := (kB.block (w.heap.size) (Array.getElem?_eq_some_iff.1 fA0).1 (fun e => by have : w.heap.size = w.heap.size + 1 := e; omega)).trans fA0
      have K3 := Lib.hid (Keep.trans (S := fun b => b = w.heap.size ∨ b = w.heap.size + 1) (kA.mono (fun b _ e => .inl e)) kB (fun b _ e => .inr e))
      have F3 := Lib.hid (And.intro fA fB)
      clear kA eB kB fB fA0 fA
      generalize hw3 : ((((((((((((w2.setCell ⟨w.heap.size, 0, none⟩ (.int .i64 a'.do_)).setCell ⟨w.heap.size, 1, none⟩ (.bool a'.loc)).setCell ⟨w.heap.size, 2, none⟩ (.int .i64 a'.idx)).setCell ⟨w.heap.size, 3, none⟩ (.int .i64 a'.gen)).setCell ⟨w.heap.size, 4, none⟩ (.int .i64 a'.comp)).setCell ⟨w.heap.size, 5, none⟩ (.slice A1 a'.l.length c1)).setCell ⟨w.heap.size + 1, 0, none⟩ (.int .i64 b'.do_)).setCell ⟨w.heap.size + 1, 1, none⟩ (.bool b'.loc)).setCell ⟨w.heap.size + 1, 2, none⟩ (.int .i64 b'.idx)).setCell ⟨w.heap.size + 1, 3, none⟩ (.int .i64 b'.gen)).setCell ⟨w.heap.size + 1, 4, none⟩ (.int .i64 b'.comp)).setCell ⟨w.heap.size + 1, 5, none⟩ (.slice A2 b'.l.length c2)) = w3 at K3 F3 ⊢
      clear hw3
      obtain ⟨x0, x1, x2, x3, x4, x5, xf⟩ := cells6 F3.out.1
      obtain ⟨y0, y1, y2, y3, y4, y5, yf⟩ := cells6 F3.out.2
      have BL := Lib.hid (show Below w.heap.size w w3 from by
        have h1 := (Keep.trans (S := fun b => w.heap.size ≤ b) (H1.out.2.2.2.mono (fun _ _ h => h.elim)) (Keep.of_below H2.out.2.2.2 |>.mono (fun b _ h => by have := H1.out.2.2.2.size; omega)) (fun _ _ h => h)).to_below (Nat.le_refl _)
        exact h1.trans (K3.out.below h1.size (fun x hx e => by omega)))
      go_wp2
      go_ret
      exact ⟨ret_bool Z.out.symm, BL.out⟩
  have h4 := Decidable.not_not.1 h4
  have G4 := Lib.hid h4
  clear h4
  by_cases h5 : ¬ a'.comp = b'.comp
  · have Z := Lib.hid (show z = false by rw [hz]; simp [exactC, h5])
    have e9 : (a'.comp == b'.comp) = false := by rw [beq_eq_false_iff_ne]; exact h5
    have q1 : (a'.do_ == b'.do_) = true := by rw [beq_iff_eq]; exact G1.out
    have q2 : (a'.loc == b'.loc) = true := by rw [beq_iff_eq]; exact G2.out
    have q3 : (a'.idx == b'.idx) = true := by rw [beq_iff_eq]; exact G3.out
    have q4 : (a'.gen == b'.gen) = true := by rw [beq_iff_eq]; exact G4.out
    clear hz
    go_enter Try.func82, Try.ntmps82
    have aw0 : ∀ (X : World) (i o : Nat) (u : Value), (X.setCell ⟨w.heap.size, i, none⟩ u).cell? ⟨w.heap.size + 1, o, none⟩ = X.cell? ⟨w.heap.size + 1, o, none⟩ := fun X i o u => cell_away (by omega) u
    have af0 : ∀ (X : World) (i o : Nat) (u : Value), (X.setCell ⟨w.heap.size, i, none⟩ u).frozen? ⟨w.heap.size + 1, o, none⟩ = X.frozen? ⟨w.heap.size + 1, o, none⟩ := fun X i o u => frozen_away (by omega) u
    have aw1 : ∀ (X : World) (i o : Nat) (u : Value), (X.setCell ⟨w.heap.size + 1, i, none⟩ u).cell? ⟨w.heap.size, o, none⟩ = X.cell? ⟨w.heap.size, o, none⟩ := fun X i o u => cell_away (by omega) u
    have af1 : ∀ (X : World) (i o : Nat) (u : Value), (X.setCell ⟨w.heap.size + 1, i, none⟩ u).frozen? ⟨w.heap.size, o, none⟩ = X.frozen? ⟨w.heap.size, o, none⟩ := fun X i o u => frozen_away (by omega) u
    go_wp2
    go_region_with (first
      | (go_at_call 76; (with_reducible refine (PA.out _ ?_).mono ?_); (exact (by repeat first | exact Keep.refl _ _ | refine Keep.alloc ?_ _ | refine Keep.drew ?_ | refine Keep.drewN ?_ _)); rintro e w1 ⟨A1, c1, rfl, hby1, hb1⟩; unfold cmdV; have b0 : w1.heap[w.heap.size]? = some (.cells #[.int .i64 a.do_, .bool a.loc, .int .i64 a.idx, .int .i64 a.gen, .int .i64 a.comp, .slice A n c] 39 (0, 0)) := (hb1.block _ (by first | omega | (simp; done) | (simp; omega))).trans (by (try simp only [heap_drew']); (try simp only [World.heap_drewN]); repeat (first | exact heap_alloc_at _ _ _ (by first | rfl | simp) | rw [Below.heap_alloc _ _ _ (by first | (simp; done) | (simp; omega))])); have b1 : w1.heap[w.heap.size + 1]? = some (.cells #[.int .i64 b.do_, .bool b.loc, .int .i64 b.idx, .int .i64 b.gen, .int .i64 b.comp, .slice B m d] 39 (0, 0)) := (hb1.block _ (by first | omega | (simp; done) | (simp; omega))).trans (by (try simp only [heap_drew']); (try simp only [World.heap_drewN]); repeat (first | exact heap_alloc_at _ _ _ (by first | rfl | simp) | rw [Below.heap_alloc _ _ _ (by first | (simp; done) | (simp; omega))])); obtain ⟨y0, y1, y2, y3, y4, y5, yf⟩ := cells6 b1; have H1 := Lib.hid (And.intro hby1 (And.intro b0 (And.intro b1 (show Keep (fun _ => False) w w1 from Keep.trans (T := fun _ => False) (by repeat first | exact Keep.refl _ _ | refine Keep.alloc ?_ _ | refine Keep.drew ?_ | refine Keep.drewN ?_ _) (Keep.of_below' hb1) (fun _ _ h => h))))); clear hby1 b0 b1 hb1 PA)
      | (go_at_call 76; (refine (PB.out _ ?_).mono ?_); (exact Keep.trans (T := fun _ => False) H1.out.2.2.2 (by exact (by repeat first | exact Keep.refl _ _ | refine Keep.alloc ?_ _ | refine Keep.drew ?_ | refine Keep.drewN ?_ _)) (fun _ _ h => h)); rintro e w2 ⟨A2, c2, rfl, hby2, hb2⟩; unfold cmdV; have b0 := (hb2.block _ (Array.getElem?_eq_some_iff.1 H1.out.2.1).1).trans H1.out.2.1; have b1 := (hb2.block _ (Array.getElem?_eq_some_iff.1 H1.out.2.2.1).1).trans H1.out.2.2.1; clear y0 y1 y2 y3 y4 y5 yf; obtain ⟨x0, x1, x2, x3, x4, x5, xf⟩ := cells6 b0; obtain ⟨y0, y1, y2, y3, y4, y5, yf⟩ := cells6 b1; have H2 := Lib.hid (And.intro hby2 (And.intro b0 (And.intro b1 hb2))); clear hby2 b0 b1 hb2 PB)
      | fail)
    all_goals
      clear x0 x1 x2 x3 x4 x5 xf y0 y1 y2 y3 y4 y5 yf aw0 af0 aw1 af1
      have kA := keepS6 w2 w.heap.size (.int .i64 a'.do_) (.bool a'.loc) (.int .i64 a'.idx) (.int .i64 a'.gen) (.int .i64 a'.comp) (.slice A1 a'.l.length c1)
      have eB := (kA.block (w.heap.size + 1) (Array.getElem?_eq_some_iff.1 H2.out.2.2.1).1 (fun e => by have : w.heap.size + 1 = w.heap.size := e; omega)).trans H2.out.2.2.1
      have kB := keepS6 ((((((w2.setCell ⟨w.heap.size, 0, none⟩ (.int .i64 a'.do_)).setCell ⟨w.heap.size, 1, none⟩ (.bool a'.loc)).setCell ⟨w.heap.size, 2, none⟩ (.int .i64 a'.idx)).setCell ⟨w.heap.size, 3, none⟩ (.int .i64 a'.gen)).setCell ⟨w.heap.size, 4, none⟩ (.int .i64 a'.comp)).setCell ⟨w.heap.size, 5, none⟩ (.slice A1 a'.l.length c1)) (w.heap.size + 1) (.int .i64 b'.do_) (.bool b'.loc) (.int .i64 b'.idx) (.int .i64 b'.gen) (.int .i64 b'.comp) (.slice A2 b'.l.length c2)
      have fB := stored6 eB (.int .i64 b'.do_) (.bool b'.loc) (.int .i64 b'.idx) (.int .i64 b'.gen) (.int .i64 b'.comp) (.slice A2 b'.l.length c2)
      have fA0 := stored6 H2.out.2.1 (.int .i64 a'.do_) (.bool a'.loc) (.int .i64 a'.idx) (.int .i64 a'.gen) (.int .i64 a'.comp) (.slice A1 a'.l.length c1)
      have fA := (kB.block (w.heap.size) (Array.getElem?_eq_some_iff.1 fA0).1 (fun e => by have : w.heap.size = w.heap.size + 1 := e; omega)).trans fA0
      have K3 := Lib.hid (Keep.trans (S := fun b => b = w.heap.size ∨ b = w.heap.size + 1) (kA.mono (fun b _ e => .inl e)) kB (fun b _ e => .inr e))
      have F3 := Lib.hid (And.intro fA fB)
      clear kA eB kB fB fA0 fA
      generalize hw3 : ((((((((((((w2.setCell ⟨w.heap.size, 0, none⟩ (.int .i64 a'.do_)).setCell ⟨w.heap.size, 1, none⟩ (.bool a'.loc)).setCell ⟨w.heap.size, 2, none⟩ (.int .i64 a'.idx)).setCell ⟨w.heap.size, 3, none⟩ (.int .i64 a'.gen)).setCell ⟨w.heap.size, 4, none⟩ (.int .i64 a'.comp)).setCell ⟨w.heap.size, 5, none⟩ (.slice A1 a'.l.length c1)).setCell ⟨w.heap.size + 1, 0, none⟩ (.int .i64 b'.do_)).setCell ⟨w.heap.size + 1, 1, none⟩ (.bool b'.loc)).setCell ⟨w.heap.size + 1, 2, none⟩ (.int .i64 b'.idx)).setCell ⟨w.heap.size + 1, 3, none⟩ (.int .i64 b'.gen)).setCell ⟨w.heap.size + 1, 4, none⟩ (.int .i64 b'.comp)).setCell ⟨w.heap.size + 1, 5, none⟩ (.slice A2 b'.l.length c2)) = w3 at K3 F3 ⊢
      clear hw3
      obtain ⟨x0, x1, x2, x3, x4, x5, xf⟩ := cells6 F3.out.1
      obtain ⟨y0, y1, y2, y3, y4, y5, yf⟩ := cells6 F3.out.2
      have BL := Lib.hid (show Below w.heap.size w w3 from by
        have h1 := (Keep.trans (S := fun b => w.heap.size ≤ b) (H1.out.2.2.2.mono (fun _ _ h => h.elim)) (Keep.of_below H2.out.2.2.2 |>.mono (fun b _ h => by have := H1.out.2.2.2.size; omega)) (fun _ _ h => h)).to_below (Nat.le_refl _)
        exact h1.trans (K3.out.below h1.size (fun x hx e => by omega)))
      go_wp2
      go_ret
      exact ⟨ret_bool Z.out.symm, BL.out⟩
  have h5 := Decidable.not_not.1 h5
  have G5 := Lib.hid h5
  clear h5
  have Z := Lib.hid (show z = decide (a'.l = b'.l) by rw [hz]; simp [exactC, G1.out, G2.out, G3.out, G4.out, G5.out])
  have q1 : (a'.do_ == b'.do_) = true := by rw [beq_iff_eq]; exact G1.out
  have q2 : (a'.loc == b'.loc) = true := by rw [beq_iff_eq]; exact G2.out
  have q3 : (a'.idx == b'.idx) = true := by rw [beq_iff_eq]; exact G3.out
  have q4 : (a'.gen == b'.gen) = true := by rw [beq_iff_eq]; exact G4.out
  have q5 : (a'.comp == b'.comp) = true := by rw [beq_iff_eq]; exact G5.out
  clear hz
  go_enter Try.func82, Try.ntmps82
  have aw0 : ∀ (X : World) (i o : Nat) (u : Value), (X.setCell ⟨w.heap.size, i, none⟩ u).cell? ⟨w.heap.size + 1, o, none⟩ = X.cell? ⟨w.heap.size + 1, o, none⟩ := fun X i o u => cell_away (by omega) u
  have af0 : ∀ (X : World) (i o : Nat) (u : Value), (X.setCell ⟨w.heap.size, i, none⟩ u).frozen? ⟨w.heap.size + 1, o, none⟩ = X.frozen? ⟨w.heap.size + 1, o, none⟩ := fun X i o u => frozen_away (by omega) u
  have aw1 : ∀ (X : World) (i o : Nat) (u : Value), (X.setCell ⟨w.heap.size + 1, i, none⟩ u).cell? ⟨w.heap.size, o, none⟩ = X.cell? ⟨w.heap.size, o, none⟩ := fun X i o u => cell_away (by omega) u
  have af1 : ∀ (X : World) (i o : Nat) (u : Value), (X.setCell ⟨w.heap.size + 1, i, none⟩ u).frozen? ⟨w.heap.size, o, none⟩ = X.frozen? ⟨w.heap.size, o, none⟩ := fun X i o u => frozen_away (by omega) u
  go_wp2
  go_region_with (first
    | (go_at_call 76; (with_reducible refine (PA.out _ ?_).mono ?_); (exact (by repeat first | exact Keep.refl _ _ | refine Keep.alloc ?_ _ | refine Keep.drew ?_ | refine Keep.drewN ?_ _)); rintro e w1 ⟨A1, c1, rfl, hby1, hb1⟩; unfold cmdV; have b0 : w1.heap[w.heap.size]? = some (.cells #[.int .i64 a.do_, .bool a.loc, .int .i64 a.idx, .int .i64 a.gen, .int .i64 a.comp, .slice A n c] 39 (0, 0)) := (hb1.block _ (by first | omega | (simp; done) | (simp; omega))).trans (by (try simp only [heap_drew']); (try simp only [World.heap_drewN]); repeat (first | exact heap_alloc_at _ _ _ (by first | rfl | simp) | rw [Below.heap_alloc _ _ _ (by first | (simp; done) | (simp; omega))])); have b1 : w1.heap[w.heap.size + 1]? = some (.cells #[.int .i64 b.do_, .bool b.loc, .int .i64 b.idx, .int .i64 b.gen, .int .i64 b.comp, .slice B m d] 39 (0, 0)) := (hb1.block _ (by first | omega | (simp; done) | (simp; omega))).trans (by (try simp only [heap_drew']); (try simp only [World.heap_drewN]); repeat (first | exact heap_alloc_at _ _ _ (by first | rfl | simp) | rw [Below.heap_alloc _ _ _ (by first | (simp; done) | (simp; omega))])); obtain ⟨y0, y1, y2, y3, y4, y5, yf⟩ := cells6 b1; have H1 := Lib.hid (And.intro hby1 (And.intro b0 (And.intro b1 (show Keep (fun _ => False) w w1 from Keep.trans (T := fun _ => False) (by repeat first | exact Keep.refl _ _ | refine Keep.alloc ?_ _ | refine Keep.drew ?_ | refine Keep.drewN ?_ _) (Keep.of_below' hb1) (fun _ _ h => h))))); clear hby1 b0 b1 hb1 PA)
    | (go_at_call 76; (refine (PB.out _ ?_).mono ?_); (exact Keep.trans (T := fun _ => False) H1.out.2.2.2 (by exact (by repeat first | exact Keep.refl _ _ | refine Keep.alloc ?_ _ | refine Keep.drew ?_ | refine Keep.drewN ?_ _)) (fun _ _ h => h)); rintro e w2 ⟨A2, c2, rfl, hby2, hb2⟩; unfold cmdV; have b0 := (hb2.block _ (Array.getElem?_eq_some_iff.1 H1.out.2.1).1).trans H1.out.2.1; have b1 := (hb2.block _ (Array.getElem?_eq_some_iff.1 H1.out.2.2.1).1).trans H1.out.2.2.1; clear y0 y1 y2 y3 y4 y5 yf; obtain ⟨x0, x1, x2, x3, x4, x5, xf⟩ := cells6 b0; obtain ⟨y0, y1, y2, y3, y4, y5, yf⟩ := cells6 b1; have H2 := Lib.hid (And.intro hby2 (And.intro b0 (And.intro b1 hb2))); clear hby2 b0 b1 hb2 PB)
    | fail)
  all_goals
    clear x0 x1 x2 x3 x4 x5 xf y0 y1 y2 y3 y4 y5 yf aw0 af0 aw1 af1
    have kA := keepS6 w2 w.heap.size (.int .i64 a'.do_) (.bool a'.loc) (.int .i64 a'.idx) (.int .i64 a'.gen) (.int .i64 a'.comp) (.slice A1 a'.l.length c1)
    have eB := (kA.block (w.heap.size + 1) (Array.getElem?_eq_some_iff.1 H2.out.2.2.1).1 (fun e => by have : w.heap.size + 1 = w.heap.size := e; omega)).trans H2.out.2.2.1
    have kB := keepS6 ((((((w2.setCell ⟨w.heap.size, 0, none⟩ (.int .i64 a'.do_)).setCell ⟨w.heap.size, 1, none⟩ (.bool a'.loc)).setCell ⟨w.heap.size, 2, none⟩ (.int .i64 a'.idx)).setCell ⟨w.heap.size, 3, none⟩ (.int .i64 a'.gen)).setCell ⟨w.heap.size, 4, none⟩ (.int .i64 a'.comp)).setCell ⟨w.heap.size, 5, none⟩ (.slice A1 a'.l.length c1)) (w.heap.size + 1) (.int .i64 b'.do_) (.bool b'.loc) (.int .i64 b'.idx) (.int .i64 b'.gen) (.int .i64 b'.comp) (.slice A2 b'.l.length c2)
    have fB := stored6 eB (.int .i64 b'.do_) (.bool b'.loc) (.int .i64 b'.idx) (.int .i64 b'.gen) (.int .i64 b'.comp) (.slice A2 b'.l.length c2)
    have fA0 := stored6 H2.out.2.1 (.int .i64 a'.do_) (.bool a'.loc) (.int .i64 a'.idx) (.int .i64 a'.gen) (.int .i64 a'.comp) (.slice A1 a'.l.length c1)
    have fA := (kB.block (w.heap.size) (Array.getElem?_eq_some_iff.1 fA0).1 (fun e => by have : w.heap.size = w.heap.size + 1 := e; omega)).trans fA0
    have K3 := Lib.hid (Keep.trans (S := fun b => b = w.heap.size ∨ b = w.heap.size + 1) (kA.mono (fun b _ e => .inl e)) kB (fun b _ e => .inr e))
    have F3 := Lib.hid (And.intro fA fB)
    clear kA eB kB fB fA0 fA
    generalize hw3 : ((((((((((((w2.setCell ⟨w.heap.size, 0, none⟩ (.int .i64 a'.do_)).setCell ⟨w.heap.size, 1, none⟩ (.bool a'.loc)).setCell ⟨w.heap.size, 2, none⟩ (.int .i64 a'.idx)).setCell ⟨w.heap.size, 3, none⟩ (.int .i64 a'.gen)).setCell ⟨w.heap.size, 4, none⟩ (.int .i64 a'.comp)).setCell ⟨w.heap.size, 5, none⟩ (.slice A1 a'.l.length c1)).setCell ⟨w.heap.size + 1, 0, none⟩ (.int .i64 b'.do_)).setCell ⟨w.heap.size + 1, 1, none⟩ (.bool b'.loc)).setCell ⟨w.heap.size + 1, 2, none⟩ (.int .i64 b'.idx)).setCell ⟨w.heap.size + 1, 3, none⟩ (.int .i64 b'.gen)).setCell ⟨w.heap.size + 1, 4, none⟩ (.int .i64 b'.comp)).setCell ⟨w.heap.size + 1, 5, none⟩ (.slice A2 b'.l.length c2)) = w3 at K3 F3 ⊢
    clear hw3
    obtain ⟨x0, x1, x2, x3, x4, x5, xf⟩ := cells6 F3.out.1
    obtain ⟨y0, y1, y2, y3, y4, y5, yf⟩ := cells6 F3.out.2
    have BL := Lib.hid (show Below w.heap.size w w3 from by
      have h1 := (Keep.trans (S := fun b => w.heap.size ≤ b) (H1.out.2.2.2.mono (fun _ _ h => h.elim)) (Keep.of_below H2.out.2.2.2 |>.mono (fun b _ h => by have := H1.out.2.2.2.size; omega)) (fun _ _ h => h)).to_below (Nat.le_refl _)
      exact h1.trans (K3.out.below h1.size (fun x hx e => by omega)))
    have EQ := Lib.hid (bequal_any a'.l b'.l _ _ _ _ w3 (((H1.out.1.mono (G := fun b => w.heap.size + 2 ≤ b) (fun b _ h => by simp at h; omega)).keep (Keep.of_below' H2.out.2.2.2) (fun _ _ _ h => h)).keep K3.out (fun b _ h e => by omega)) ((H2.out.1.mono (G := fun b => w.heap.size + 2 ≤ b) (fun b _ h => by have := H1.out.2.2.2.size; have := (Array.getElem?_eq_some_iff.1 H1.out.2.2.1).1; omega)).keep K3.out (fun b _ h e => by omega)))
    go_wp2_with (go_at_call 98; refine EQ.out.mono ?_; rintro e w4 ⟨rfl, rfl⟩)
    go_ret
    exact ⟨ret_bool Z.out.symm, BL.out⟩
end Go.Proofs.Ythkgchlndfcmpaa

/- column.Load at the page's example, vivariumlaw08.live. -/
import Derived.Test.YtmlbkenbgajkmaaColA
import Derived.Test.YtmlbkenbgajkmaaLeGetsW
namespace Go.Proofs.Ytmlbkenbgajkmaa
open Go.RowKit
set_option maxRecDepth 100000
set_option linter.unusedVariables false

def exR : List (List UInt8) := [[1, 2], [3, 4], [5, 6]]
def ColNew (w : World) (size : Nat) (R : List (List UInt8)) (p : Nat) (w' : World) : Prop := ∃ Foot, Col w' p Foot size R ∧ Below w.heap.size w w' ∧ ∀ k, Foot k → w.heap.size ≤ k
theorem col_load (v : Value) (F : Nat → Prop) (w : World) (hv : By w F v [1, 2, 3, 4, 5, 6]) :
    Calls Try.prog 71 #[.int .i64 2, .int .i64 3, v] w fun e w' => ∃ p, e = .returned (.tuple #[.pointer (some ⟨p, 0, none⟩), .int .i64 0]) ∧ ColNew w 2 exR p w' := by
  have NW := Lib.hid (col_new 2 w)
  rw [show clampN 2 = 2 from rfl] at NW
  have CL := Lib.hid (fun w' (hb : Below w.heap.size w w') => clone_any [1, 2, 3, 4, 5, 6] v F w' (hv.below hb) (by decide))
  obtain ⟨A, c, rfl, _, _, _, _⟩ := hv
  rw [show ([1, 2, 3, 4, 5, 6] : List UInt8).length = 6 from rfl] at *
  go_enter Try.func71, Try.ntmps71
  go_wp2_with fail
  refine NW.out.mono ?_
  rintro e w1 ⟨p, Foot, rfl, hc, hb, hf⟩
  obtain ⟨vs, hp, hown, hfo⟩ := hc.ex
  have x0 : w1.cell? ⟨p, 0, none⟩ = some vs := by rw [cell_of_row w1 p 0 _ _ _ hp]; rfl
  have x1 : w1.cell? ⟨p, 1, none⟩ = some (.int .i64 0) := by rw [cell_of_row w1 p 1 _ _ _ hp]; rfl
  have x2 : w1.cell? ⟨p, 2, none⟩ = some (.int .i64 2) := by rw [cell_of_row w1 p 2 _ _ _ hp]; rfl
  have C2 := Lib.hid (CL.out w1 hb)
  have HB := Lib.hid (And.intro hb (And.intro hp (hf p hc.at_)))
  clear hc hb hf hp hown hfo NW CL
  go_wp2_with fail
  refine C2.out.mono ?_
  rintro e w2 ⟨u, rfl, ho, hb2⟩
  have hp2 : w2.heap[p]? = _ := (hb2.block p (Array.getElem?_eq_some_iff.1 HB.out.2.1).1).trans HB.out.2.1
  have y0 : w2.cell? ⟨p, 0, none⟩ = some vs := by rw [cell_of_row w2 p 0 _ _ _ hp2]; rfl
  have y1 : w2.cell? ⟨p, 1, none⟩ = some (.int .i64 0) := by rw [cell_of_row w2 p 1 _ _ _ hp2]; rfl
  have yf := fun i => frozen_of_row w2 p i _ _ hp2
  obtain ⟨A3, c3, rfl, _⟩ := ho.form
  have FIN := Lib.hid (show ColNew w 2 exR p ((w2.setCell ⟨p, 0, none⟩ (.slice A3 6 c3)).setCell ⟨p, 1, none⟩ (.int .i64 3)) from by
    have h2 := heap_setCell_same _ p 1 _ _ (.int .i64 3) (heap_setCell_same w2 p 0 _ _ (.slice A3 6 c3) hp2)
    have ks := keep_two w2 p (.slice A3 6 c3) (.int .i64 3)
    have hsz := HB.out.1.size
    have hpl := (Array.getElem?_eq_some_iff.1 hp2).1
    have ho' : Own ((w2.setCell ⟨p, 0, none⟩ (.slice A3 6 c3)).setCell ⟨p, 1, none⟩ (.int .i64 3)) w1.heap.size 5 1 (.slice A3 6 c3) 6 (bv [1, 2, 3, 4, 5, 6]) := ho.keep ks (fun x hx e => (ho.ne_cells hp2 (by decide)) (by rw [hx, e]))
    refine ⟨fun b => b = p ∨ ownB (.slice A3 6 c3) = some b, ⟨⟨_, h2, ho'.mono (Nat.zero_le _), fun k hk => .inr hk⟩, .inl rfl, ?_, by decide, by decide, by decide⟩, ?_, ?_⟩
    · intro k hk
      rcases hk with rfl | hk
      · exact Nat.lt_of_lt_of_le hpl ks.size
      · exact (ho'.ownB k hk).2
    · refine HB.out.1.trans ((hb2.mono hsz).trans ?_)
      exact ks.below (Nat.le_trans hsz hb2.size) (fun x hx e => by have := HB.out.2.2; omega)
    · intro k hk
      rcases hk with rfl | hk
      · exact HB.out.2.2
      · have := (ho.ownB k hk).1; omega)
  clear ho hb2 hp2 HB
  go_wp2
  go_ret2
  exact ⟨_, rfl, FIN.out⟩

theorem live08 (w : World) :
    Calls Try.prog 32 #[] w fun e w' => e = .returned (.bool true) ∧ Below w.heap.size w w' := by
  have B1 := Lib.hid (By.lit w 5 [1, 2, 3, 4, 5, 6] (by decide))
  have LD := Lib.hid (col_load _ _ _ B1.out)
  clear B1
  go_enter Try.func32, Try.ntmps32
  go_wp2_with fail
  refine LD.out.mono ?_
  rintro e w1 ⟨p, rfl, Foot, hc, hb, hf⟩
  have DR := Lib.hid (col_drop hc 0)
  rw [show dropCode exR 0 = 0 from rfl, if_pos rfl, show dropR exR (0 : Int).toNat = [[5, 6], [3, 4]] from rfl] at DR
  have HB := Lib.hid (And.intro hb hf)
  clear hc hb hf LD
  go_wp2_with fail
  refine DR.out.mono ?_
  rintro e w2 ⟨rfl, Foot2, hc2, hk, _⟩
  have BY := Lib.hid (col_bytes hc2)
  rw [show ([[5, 6], [3, 4]] : List (List UInt8)).flatten = [5, 6, 3, 4] from rfl] at BY
  have HK := Lib.hid (show Below w.heap.size w w2 from by
    have h0 : Below w.heap.size w (w.alloc (.cells (bv [1, 2, 3, 4, 5, 6]).toArray 5)) := (Below.refl _ w).alloc (Nat.le_refl _) _
    have h1 := HB.out.1.mono h0.size
    exact (h0.trans h1).trans (hk.below (h0.trans h1).size (fun x hx hF => by have := HB.out.2 x hF; simp at this; omega)))
  clear hc2 hk HB DR
  go_wp2_with (first
    | (go_at_call 36; refine (code_any _ _).mono ?_; rintro e w3 ⟨rfl, rfl⟩)
    | (go_at_call 35; refine BY.out.mono ?_; rintro e w4 ⟨u, rfl, ho, hb4⟩; have S := Lib.hid (same_any [5, 6, 3, 4] [5, 6, 3, 4] u _ _ _ (w4.alloc (.cells (bv [5, 6, 3, 4]).toArray 5)) (ho.by_.alloc _) (By.lit w4 5 [5, 6, 3, 4] (by decide))); rw [decide_eq_true rfl] at S; have H4 := Lib.hid (HK.out.trans (hb4.mono HK.out.size)); clear ho hb4)
    | (go_at_call 16; refine S.out.mono ?_; rintro e w5 ⟨rfl, rfl⟩))
  go_ret
  exact ⟨rfl, H4.out.alloc H4.out.size _⟩
end Go.Proofs.Ytmlbkenbgajkmaa

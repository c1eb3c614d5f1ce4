/- Names and parts that came in. -/
import Derived.Test.YtdeifjnhbdkkgaaGreatDoorTabE
import Derived.Test.YtdeifjnhbdkkgaaGreatDoorArgs
namespace Go.Proofs.YtdeifjnhbdkkgaaGreatDoor
open Go.RowKit
set_option maxRecDepth 100000
set_option linter.unusedVariables false
set_option linter.unusedSimpArgs false

theorem list2_ {α : Type} {l : List α} (h : l.length = 2) : ∃ a b, l = [a, b] := by
  match l, h with
  | [a, b], _ => exact ⟨a, b, rfl⟩
theorem list7_ {α : Type} {l : List α} (h : l.length = 7) : ∃ a b c d e f g, l = [a, b, c, d, e, f, g] := by
  match l, h with
  | [a, b, c, d, e, f, g], _ => exact ⟨a, b, c, d, e, f, g, rfl⟩
section
variable {H : Type} {enc : TypeId × Value → H} {w : World} {base : Nat} {spare : Nat → Bool} {held : Bool} {A : Option Addr} {len cap : Nat} {d : DataW H} {p : List MemPlace}
theorem trod_idZ {n : Nat} {cs : List Value} {x : DataW H × List MemPlace} (hl : cs.length = 2) (h : DataW.trod enc Tryz.prog w base spare held n 85 cs = some x) : ∃ y : IdZ, cs = idC y ∧ (Lit.int .i64 y.ix).wf = true ∧ (Lit.int .i64 y.gen).wf = true := by
  obtain ⟨c0, c1, rfl⟩ := list2_ hl
  have ci : Tryz.prog.cellsOf 3 = 1 := by kernel_rfl
  obtain ⟨xs, m, _, _, _, hlen, hf⟩ := DataW.trod_struct Tryz.underlying85 h
  obtain ⟨y0, y1, rfl⟩ := list2_ hlen
  have h0 : DataW.trod enc Tryz.prog w base spare held m 3 [c0] = some y0 := by simpa [ci] using hf 0 _ rfl
  have h1 : DataW.trod enc Tryz.prog w base spare held m 3 [c1] = some y1 := by simpa [ci] using hf 1 _ rfl
  obtain ⟨a0, e0, _, w0⟩ := DataW.trod_int Tryz.underlying3 h0
  obtain ⟨a1, e1, _, w1⟩ := DataW.trod_int Tryz.underlying3 h1
  simp at e0 e1
  subst e0 e1
  exact ⟨⟨a0, a1⟩, rfl, w0, w1⟩
theorem argIDs (h : DataW.Trod enc Tryz.prog w base spare held 60 (.slice A len cap) d p) : ∃ l : List IdZ, l.length = len ∧ Sl w (fun _ => True) 2 (.slice A len cap) l.length (l.flatMap idC) := by
  haveI : Inhabited IdZ := ⟨⟨0, 0⟩⟩
  have cl : Tryz.prog.cellsOf 85 = 2 := by kernel_rfl
  obtain ⟨l, g1, g2, g3, rfl, g5, g6⟩ := argSt (f := idC) (ok := fun _ => True) idC_len (by decide) Tryz.underlying60 cl (fun n cs x hl hx => by
    obtain ⟨y, hy, _⟩ := trod_idZ hl hx
    exact ⟨y, hy, trivial⟩) h
  exact ⟨l, rfl, A, cap, rfl, g1, g2, g6, g3⟩
theorem trod_part {n : Nat} {cs : List Value} {x : DataW H × List MemPlace} (hl : cs.length = 2) (h : DataW.trod enc Tryz.prog w base spare held n 136 cs = some x) : ∃ (y : PtZ) (u : Value), cs = parN.cells (y, u) ∧ By w (fun _ => True) u y.data := by
  obtain ⟨c0, c1, rfl⟩ := list2_ hl
  have ci : Tryz.prog.cellsOf 3 = 1 := by kernel_rfl
  have cl : Tryz.prog.cellsOf 28 = 1 := by kernel_rfl
  obtain ⟨xs, m, _, _, _, hlen, hf⟩ := DataW.trod_struct Tryz.underlying136 h
  obtain ⟨y0, y1, rfl⟩ := list2_ hlen
  have h0 : DataW.trod enc Tryz.prog w base spare held m 3 [c0] = some y0 := by simpa [ci] using hf 0 _ rfl
  have h1 : DataW.trod enc Tryz.prog w base spare held m 28 [c1] = some y1 := by simpa [cl] using hf 1 _ rfl
  obtain ⟨a0, e0, _, w0⟩ := DataW.trod_int Tryz.underlying3 h0
  obtain ⟨A2, n2, k2, l2, e1, hb, _⟩ := trod_by Tryz.underlying28 Tryz.underlying5 (by kernel_rfl) h1
  simp at e0 e1
  subst e0 e1
  exact ⟨⟨a0, l2⟩, _, rfl, hb⟩
theorem zip_unzip {α β : Type} (l : List (α × β)) : (l.map Prod.fst).zip (l.map Prod.snd) = l := by
  induction l with
  | nil => rfl
  | cons y l ih => simp [ih]
theorem argParts (h : DataW.Trod enc Tryz.prog w base spare held 90 (.slice A len cap) d p) : ∃ l, NS parN w (fun _ => True) (.slice A len cap) l := by
  haveI : Inhabited (PtZ × Value) := ⟨(⟨0, []⟩, undef)⟩
  have cl : Tryz.prog.cellsOf 136 = 2 := by kernel_rfl
  obtain ⟨l, g1, g2, g3, rfl, g5, g6⟩ := argSt (f := parN.cells) (ok := fun y => By w (fun _ => True) y.2 y.1.data) parN.len (by decide) Tryz.underlying90 cl (fun n cs x hl hx => by
    obtain ⟨y, u, e, hb⟩ := trod_part hl hx
    exact ⟨(y, u), e, hb⟩) h
  refine ⟨l.map Prod.fst, l.map Prod.snd, by simp, ?_, fun i x u hx hu => ?_⟩
  · rw [zip_unzip]; exact ⟨A, cap, rfl, g1, g2, g3, g6⟩
  · have h2 : l[i]? = some (x, u) := by rw [← zip_unzip l]; exact List.getElem?_zip_eq_some.2 ⟨hx, hu⟩
    exact g5 _ (List.mem_of_getElem? h2)
end
end Go.Proofs.YtdeifjnhbdkkgaaGreatDoor

/- Names and parts that came in. -/
import Derived.Test.YtglliendhbkkhaaGreatDoorTabE
import Derived.Test.YtglliendhbkkhaaGreatDoorArgs
namespace Go.Proofs.YtglliendhbkkhaaGreatDoor
open Go.RowKit
set_option maxRecDepth 100000
set_option linter.unusedVariables false
set_option linter.unusedSimpArgs false

theorem list2_ {α : Type} {l : List α} (h : l.length = 2) : ∃ a b, l = [a, b] := by
  match l, h with
  | [a, b], _ => exact ⟨a, b, rfl⟩
section
variable {H : Type} {enc : TypeId × Value → H} {w : World} {base : Nat} {spare : Nat → Bool} {held : Bool} {A : Option Addr} {len cap : Nat} {d : DataW H} {p : List MemPlace}
theorem trod_idZ {n : Nat} {cs : List Value} {x : DataW H × List MemPlace} (hl : cs.length = 2) (h : DataW.trod enc Tryz.prog w base spare held n 40 cs = some x) : ∃ y : IdZ, cs = idC y ∧ (Lit.int .i64 y.ix).wf = true ∧ (Lit.int .i64 y.gen).wf = true := by
  obtain ⟨c0, c1, rfl⟩ := list2_ hl
  have ci : Tryz.prog.cellsOf 3 = 1 := by kernel_rfl
  obtain ⟨xs, m, _, _, _, hlen, hf⟩ := DataW.trod_struct Tryz.underlying40 h
  obtain ⟨y0, y1, rfl⟩ := list2_ hlen
  have h0 : DataW.trod enc Tryz.prog w base spare held m 3 [c0] = some y0 := by simpa [ci] using hf 0 _ rfl
  have h1 : DataW.trod enc Tryz.prog w base spare held m 3 [c1] = some y1 := by simpa [ci] using hf 1 _ rfl
  obtain ⟨a0, e0, _, w0⟩ := DataW.trod_int Tryz.underlying3 h0
  obtain ⟨a1, e1, _, w1⟩ := DataW.trod_int Tryz.underlying3 h1
  simp at e0 e1
  subst e0 e1
  exact ⟨⟨a0, a1⟩, rfl, w0, w1⟩
theorem zip_unzip {α β : Type} (l : List (α × β)) : (l.map Prod.fst).zip (l.map Prod.snd) = l := by
  induction l with
  | nil => rfl
  | cons y l ih => simp [ih]
end
end Go.Proofs.YtglliendhbkkhaaGreatDoor

/- A seal that came in. -/
import Derived.Test.YtakchlaoimnnhaaSealL
import Derived.ChangeAlike
import Derived.Lib.SmallJoins
namespace Go.Proofs.Ytakchlaoimnnhaa
open Go.ChangeShapes Go.WideShapes Go.ChangeAt Go.RowKit
set_option maxRecDepth 100000
set_option linter.unusedVariables false

def sealV (y : SV) (u : Value) : Value := .agg #[.int .i64 y.ep, .int .i64 y.no, .int .i64 y.kd, u]
theorem list4 {α : Type} {l : List α} (h : l.length = 4) : ∃ a b c d, l = [a, b, c, d] := by
  match l, h with
  | [a, b, c, d], _ => exact ⟨a, b, c, d, rfl⟩
theorem cellsSeal : Try.prog.cellsOf 50 = 4 := by kernel_rfl
theorem trod_seal {H : Type} {enc : TypeId × Value → H} {w : World} {base : Nat} {spare : Nat → Bool} {held : Bool} {n : Nat} {cs : List Value} {x : DataW H × List MemPlace} (hl : cs.length = 4)
    (h : DataW.trod enc Try.prog w base spare held n 50 cs = some x) : ∃ (y : SV) (u : Value), cs = [.int .i64 y.ep, .int .i64 y.no, .int .i64 y.kd, u] ∧ By w (fun _ => True) u y.bd := by
  obtain ⟨xs, m, _, _, _, hlen, hf⟩ := DataW.trod_struct Try.underlying50 h
  obtain ⟨c0, c1, c2, c3, rfl⟩ := list4 hl
  have ci : Try.prog.cellsOf 3 = 1 := by kernel_rfl
  have cl : Try.prog.cellsOf 22 = 1 := by kernel_rfl
  obtain ⟨y0, y1, y2, y3, rfl⟩ := list4 hlen
  have h0 : DataW.trod enc Try.prog w base spare held m 3 [c0] = some y0 := by simpa [ci] using hf 0 _ rfl
  have h1 : DataW.trod enc Try.prog w base spare held m 3 [c1] = some y1 := by simpa [ci] using hf 1 _ rfl
  have h2 : DataW.trod enc Try.prog w base spare held m 3 [c2] = some y2 := by simpa [ci] using hf 2 _ rfl
  have h3 : DataW.trod enc Try.prog w base spare held m 22 [c3] = some y3 := by simpa [cl] using hf 3 _ rfl
  obtain ⟨a0, e0, _, _⟩ := DataW.trod_int Try.underlying3 h0
  obtain ⟨a1, e1, _, _⟩ := DataW.trod_int Try.underlying3 h1
  obtain ⟨a2, e2, _, _⟩ := DataW.trod_int Try.underlying3 h2
  obtain ⟨A2, n2, k2, l2, e3, hb, _⟩ := trod_by Try.underlying22 Try.underlying5 (by kernel_rfl) h3
  simp at e0 e1 e2 e3
  subst e0 e1 e2 e3
  exact ⟨⟨a0, a1, a2, l2⟩, _, rfl, hb⟩
theorem argSeal {H : Type} {enc : TypeId × Value → H} {w : World} {spare : Nat → Bool} {held : Bool} {v : Value} {r : Reach} {b0 : Nat} {base : Nat} {d : DataW H} {p : List MemPlace} (hv : Value.okWide Try.prog w r b0 50 v)
    (h : DataW.Trod enc Try.prog w base spare held 50 v d p) : ∃ (y : SV) (u : Value), v = sealV y u ∧ By w (fun _ => True) u y.bd := by
  obtain ⟨cs, rfl, hsz⟩ := okWide_struct Try.underlying50 hv
  obtain ⟨fuel, hf⟩ := h
  rw [cellsSeal] at hsz
  obtain ⟨y, u, e, hb⟩ := trod_seal (cs := cs.toList) (by rw [Array.length_toList]; exact hsz) (by simpa [Value.cells] using hf)
  refine ⟨y, u, ?_, hb⟩
  unfold sealV
  rw [← e]
end Go.Proofs.Ytakchlaoimnnhaa

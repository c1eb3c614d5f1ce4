/- A layout in memory; one that came in. -/
import Derived.Test.YtakchlaoimnnhaaProg
import Derived.Test.YtakchlaoimnnhaaCompPl
import Derived.Test.YtakchlaoimnnhaaLe1
import Derived.Test.YtakchlaoimnnhaaArgS
import Derived.Test.YtakchlaoimnnhaaCells
namespace Go.Proofs.Ytakchlaoimnnhaa
open Go.ChangeShapes Go.WideShapes Go.ChangeAt Go.RowKit
set_option maxRecDepth 100000
set_option linter.unusedVariables false

def ccells (x : Cp) : List Value := [.string x.nm, .int .i64 x.sz]
theorem ccells_len (x : Cp) : (ccells x).length = 2 := rfl
def confV (c : Cf) (u : Value) : Value := .agg #[.int .i64 c.log, .int .i64 c.pages, .int .i64 c.ents, .int .i64 c.gens, u]
/-- u holds the components l, in blocks of F. -/
def CL (w : World) (F : Nat → Prop) (u : Value) (l : List Cp) : Prop :=
  ∃ A c, u = .slice A l.length c ∧ l.length ≤ c ∧ c ≤ maxLen ∧ Rd w F A (l.length * 2) (l.flatMap ccells) ∧ (A = none → c = 0)
section
variable {w w' : World} {F G S : Nat → Prop} {u : Value} {l : List Cp}
theorem CL.keep (h : CL w F u l) (hk : Keep S w w') (hs : ∀ b, b < w.heap.size → F b → ¬ S b) : CL w' F u l := by
  obtain ⟨A, c, h1, h2, h3, h4, h5⟩ := h
  exact ⟨A, c, h1, h2, h3, h4.keep hk hs, h5⟩
theorem CL.same (h : CL w F u l) (hk : Keep (fun _ => False) w w') : CL w' F u l := h.keep hk (fun _ _ _ h => h)
theorem CL.nil (w : World) (F : Nat → Prop) : CL w F (.slice none 0 0) [] := ⟨none, 0, rfl, Nat.le_refl _, Nat.zero_le _, by exact Rd.nil _ _ _, fun _ => rfl⟩
theorem CL.at_ {A : Option Addr} {n c : Nat} (h : CL w F (.slice A n c) l) {k : Nat} (hk : k < n) : ∃ b off, A = some ⟨b, off, none⟩ ∧ F b ∧ w.cell? ⟨b, off + k * 2, none⟩ = some (.string (nmAt l k)) ∧ w.cell? ⟨b, off + k * 2 + 1, none⟩ = some (.int .i64 (szAt l k)) := by
  obtain ⟨A', c', e, h2, h3, h4, h5⟩ := h
  injection e with e1 e2 e3
  subst e1 e2
  obtain ⟨b, off, x, e, hF, hx, hc⟩ := flat_cells ccells_len h4 rfl (by omega) hk
  refine ⟨b, off, e, hF, ?_, ?_⟩
  · rw [nmAt_of hx]
    exact hc 0 _ rfl
  · rw [szAt_of hx]
    exact hc 1 _ rfl
end
theorem cellsComp : Try.prog.cellsOf 108 = 2 := by kernel_rfl
theorem cellsConf : Try.prog.cellsOf 66 = 5 := by kernel_rfl
def cpOk (x : Cp) : Prop := x.nm.size ≤ maxLen
theorem argComps {H : Type} {enc : TypeId × Value → H} {w : World} {base : Nat} {spare : Nat → Bool} {held : Bool} {A : Option Addr} {len cap : Nat} {d : DataW H} {p : List MemPlace}
    (h : DataW.Trod enc Try.prog w base spare held 64 (.slice A len cap) d p) : ∃ l, ArgSt ccells 2 cpOk w A len cap l := by
  refine argSt ccells_len (by omega) Try.underlying64 cellsComp (fun n cs x hl hx => ?_) h
  obtain ⟨y0, y1, m, _, _, h0, h1⟩ := trod_struct2 Try.underlying108 hx
  have ci : Try.prog.cellsOf 3 = 1 := by kernel_rfl
  have cs1 : Try.prog.cellsOf 9 = 1 := by kernel_rfl
  simp only [ci, cs1] at h0 h1
  match cs, hl with
  | [c0, c1], _ =>
    obtain ⟨a0, e0, _, w0⟩ := DataW.trod_string Try.underlying9 h0
    obtain ⟨a1, e1, _, w1⟩ := DataW.trod_int Try.underlying3 h1
    simp at e0 e1
    subst e0 e1
    exact ⟨⟨a0, a1⟩, rfl, w0⟩
theorem list5 {α : Type} {l : List α} (h : l.length = 5) : ∃ a b c d e, l = [a, b, c, d, e] := by
  match l, h with
  | [a, b, c, d, e], _ => exact ⟨a, b, c, d, e, rfl⟩
def rngF (c : Cf) : Prop := (Lit.int .i64 c.log).wf = true ∧ (Lit.int .i64 c.pages).wf = true ∧ (Lit.int .i64 c.ents).wf = true ∧ (Lit.int .i64 c.gens).wf = true ∧ ∀ x ∈ c.l, cpOk x
theorem argConf {H : Type} {enc : TypeId × Value → H} {w : World} {spare : Nat → Bool} {held : Bool} {v : Value} {r : Reach} {b0 : Nat} {base : Nat} {d : DataW H} {p : List MemPlace} (hv : Value.okWide Try.prog w r b0 66 v)
    (h : DataW.Trod enc Try.prog w base spare held 66 v d p) : ∃ (y : Cf) (u : Value), v = confV y u ∧ CL w (fun _ => True) u y.l ∧ rngF y := by
  obtain ⟨cs, rfl, hsz⟩ := okWide_struct Try.underlying66 hv
  obtain ⟨fuel, hf⟩ := h
  rw [cellsConf] at hsz
  obtain ⟨xs, m, _, _, _, hlen, hf⟩ := DataW.trod_struct Try.underlying66 hf
  obtain ⟨c0, c1, c2, c3, c4, hcs⟩ := list5 (l := cs.toList) (by rw [Array.length_toList]; exact hsz)
  have hcs' : (Value.agg cs).cells.toList = [c0, c1, c2, c3, c4] := by simpa [Value.cells] using hcs
  rw [hcs'] at hf
  have ci : Try.prog.cellsOf 3 = 1 := by kernel_rfl
  have cl : Try.prog.cellsOf 64 = 1 := by kernel_rfl
  obtain ⟨y0, y1, y2, y3, y4, rfl⟩ := list5 hlen
  have h0 : DataW.trod enc Try.prog w base spare held m 3 [c0] = some y0 := by simpa [ci] using hf 0 _ rfl
  have h1 : DataW.trod enc Try.prog w base spare held m 3 [c1] = some y1 := by simpa [ci] using hf 1 _ rfl
  have h2 : DataW.trod enc Try.prog w base spare held m 3 [c2] = some y2 := by simpa [ci] using hf 2 _ rfl
  have h3 : DataW.trod enc Try.prog w base spare held m 3 [c3] = some y3 := by simpa [ci] using hf 3 _ rfl
  have h4 : DataW.trod enc Try.prog w base spare held m 64 [c4] = some y4 := by simpa [cl] using hf 4 _ rfl
  obtain ⟨a0, e0, _, w0⟩ := DataW.trod_int Try.underlying3 h0
  obtain ⟨a1, e1, _, w1⟩ := DataW.trod_int Try.underlying3 h1
  obtain ⟨a2, e2, _, w2⟩ := DataW.trod_int Try.underlying3 h2
  obtain ⟨a3, e3, _, w3⟩ := DataW.trod_int Try.underlying3 h3
  have h5 : ∃ A n k, c4 = .slice A n k := by
    rcases Deep.open_slice Try.underlying64 h4 with ⟨hcs, _⟩ | ⟨a, l, c, k, n, D, Pl, hcs, _⟩
    · simp at hcs
      exact ⟨_, _, _, hcs⟩
    · simp at hcs
      exact ⟨_, _, _, hcs⟩
  obtain ⟨A, n, k, rfl⟩ := h5
  obtain ⟨l, g1, g2, g3, rfl, g5, g6⟩ := argComps (A := A) (len := n) (cap := k) (d := y4.1) (p := y4.2) ⟨m, by simpa [Value.cells] using h4⟩
  simp at e0 e1 e2 e3
  subst e0 e1 e2 e3
  refine ⟨⟨a0, a1, a2, a3, l⟩, .slice A l.length k, ?_, ⟨A, k, rfl, g1, g2, g3, g6⟩, w0, w1, w2, w3, g5⟩
  unfold confV
  rw [← hcs]
end Go.Proofs.Ytakchlaoimnnhaa

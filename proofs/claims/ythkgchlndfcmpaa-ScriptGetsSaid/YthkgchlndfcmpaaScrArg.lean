/- An act that came in; a slice of acts that came in. -/
import Derived.Test.YthkgchlndfcmpaaScr8
import Derived.Test.YthkgchlndfcmpaaCmdA
namespace Go.Proofs.Ythkgchlndfcmpaa
open Go.ChangeShapes Go.WideShapes Go.ChangeAt Go.RowKit
set_option maxRecDepth 100000
set_option linter.unusedVariables false

def faOk (x : Fa) : Prop := (Lit.int .i64 x.kept).wf = true ∧ (Lit.int .i64 x.torn).wf = true
def inOk (x : Int) : Prop := (Lit.int .i64 x).wf = true
def rngA (x : Ac) : Prop := (Lit.int .i64 x.do_).wf = true ∧ ((Lit.int .i64 x.c.do_).wf = true ∧ (Lit.int .i64 x.c.idx).wf = true ∧ (Lit.int .i64 x.c.gen).wf = true ∧ (Lit.int .i64 x.c.comp).wf = true) ∧ (Lit.int .i64 x.room).wf = true ∧ (Lit.int .i64 x.frames).wf = true ∧ (Lit.int .i64 x.n).wf = true ∧ (∀ f ∈ x.fa, faOk f) ∧ ∀ z ∈ x.fu, inOk z
instance : Inhabited Ac := ⟨⟨0, zeroCm, 0, 0, 0, [], []⟩⟩
theorem cellsFate : Try.prog.cellsOf 100 = 2 := by kernel_rfl
theorem cellsInt : Try.prog.cellsOf 3 = 1 := by kernel_rfl
theorem argFates {H : Type} {enc : TypeId × Value → H} {w : World} {base : Nat} {spare : Nat → Bool} {held : Bool} {A : Option Addr} {len cap : Nat} {d : DataW H} {p : List MemPlace}
    (h : DataW.Trod enc Try.prog w base spare held 42 (.slice A len cap) d p) : ∃ l, ArgSt fcells 2 faOk w A len cap l := by
  refine argSt fcells_len (by omega) Try.underlying42 cellsFate (fun n cs x hl hx => ?_) h
  obtain ⟨y0, y1, m, _, _, h0, h1⟩ := trod_struct2 Try.underlying100 hx
  simp only [cellsInt] at h0 h1
  match cs, hl with
  | [c0, c1], _ =>
    obtain ⟨a0, e0, _, w0⟩ := DataW.trod_int Try.underlying3 h0
    obtain ⟨a1, e1, _, w1⟩ := DataW.trod_int Try.underlying3 h1
    simp at e0 e1
    subst e0 e1
    exact ⟨⟨a0, a1⟩, rfl, w0, w1⟩
theorem argFuses {H : Type} {enc : TypeId × Value → H} {w : World} {base : Nat} {spare : Nat → Bool} {held : Bool} {A : Option Addr} {len cap : Nat} {d : DataW H} {p : List MemPlace}
    (h : DataW.Trod enc Try.prog w base spare held 43 (.slice A len cap) d p) : ∃ l, ArgSt icells 1 inOk w A len cap l := by
  refine argSt icells_len (by omega) Try.underlying43 cellsInt (fun n cs x hl hx => ?_) h
  match cs, hl with
  | [c0], _ =>
    obtain ⟨a0, e0, _, w0⟩ := DataW.trod_int Try.underlying3 hx
    simp at e0
    subst e0
    exact ⟨a0, rfl, w0⟩
theorem argSt_ml {α : Type} {f : α → List Value} {m : Nat} {ok : α → Prop} {w : World} {A : Option Addr} {len cap : Nat} {l : List α} (h : ArgSt f m ok w A len cap l) : ML f m w (fun _ => True) (.slice A len cap) l := by
  obtain ⟨g1, g2, g3, rfl, g5, g6⟩ := h
  exact ⟨A, cap, rfl, g1, g2, g3, g6⟩
theorem list12 {α : Type} {l : List α} (h : l.length = 12) : ∃ a b c d e f g i j k m n, l = [a, b, c, d, e, f, g, i, j, k, m, n] := by
  match l, h with
  | [a, b, c, d, e, f, g, i, j, k, m, n], _ => exact ⟨a, b, c, d, e, f, g, i, j, k, m, n, rfl⟩
theorem cellsAct : Try.prog.cellsOf 45 = 12 := by kernel_rfl
theorem trod_act {H : Type} {enc : TypeId × Value → H} {w : World} {base : Nat} {spare : Nat → Bool} {held : Bool} {n : Nat} {cs : List Value} {x : DataW H × List MemPlace} (hl : cs.length = 12)
    (h : DataW.trod enc Try.prog w base spare held n 45 cs = some x) : ∃ y : Ac × (Value × Value × Value), cs = acL y ∧ AM w (fun _ => True) y.1 y.2.1 y.2.2.1 y.2.2.2 ∧ rngA y.1 := by
  obtain ⟨xs, m, _, _, _, hlen, hf⟩ := DataW.trod_struct Try.underlying45 h
  obtain ⟨c0, c1, c2, c3, c4, c5, c6, c7, c8, c9, c10, c11, rfl⟩ := list12 hl
  have cc : Try.prog.cellsOf 39 = 6 := cellsCmd
  have cp : Try.prog.cellsOf 41 = 2 := by kernel_rfl
  have cf : Try.prog.cellsOf 42 = 1 := by kernel_rfl
  have cl : Try.prog.cellsOf 43 = 1 := by kernel_rfl
  obtain ⟨y0, y1, y2, y3, y4, y5, rfl⟩ := list6 hlen
  have h0 : DataW.trod enc Try.prog w base spare held m 3 [c0] = some y0 := by simpa [cellsInt] using hf 0 _ rfl
  have h1 : DataW.trod enc Try.prog w base spare held m 39 [c1, c2, c3, c4, c5, c6] = some y1 := by simpa [cellsInt, cc] using hf 1 _ rfl
  have h2 : DataW.trod enc Try.prog w base spare held m 41 [c7, c8] = some y2 := by simpa [cellsInt, cc, cp] using hf 2 _ rfl
  have h3 : DataW.trod enc Try.prog w base spare held m 3 [c9] = some y3 := by simpa [cellsInt, cc, cp] using hf 3 _ rfl
  have h4 : DataW.trod enc Try.prog w base spare held m 42 [c10] = some y4 := by simpa [cellsInt, cc, cp, cf] using hf 4 _ rfl
  have h5 : DataW.trod enc Try.prog w base spare held m 43 [c11] = some y5 := by simpa [cellsInt, cc, cp, cf, cl] using hf 5 _ rfl
  obtain ⟨a0, e0, _, w0⟩ := DataW.trod_int Try.underlying3 h0
  obtain ⟨cm, u1, e1, hb, w1⟩ := trod_cmd rfl h1
  obtain ⟨z0, z1, m2, _, _, g0, g1⟩ := trod_struct2 Try.underlying41 h2
  simp only [cellsInt] at g0 g1
  obtain ⟨a2, e2, _, w2⟩ := DataW.trod_int Try.underlying3 g0
  obtain ⟨a3, e3, _, w3⟩ := DataW.trod_int Try.underlying3 g1
  obtain ⟨a4, e4, _, w4⟩ := DataW.trod_int Try.underlying3 h3
  obtain ⟨A5, n5, k5, e5⟩ := Joins.slice_form Try.underlying42 h4
  obtain ⟨A6, n6, k6, e6⟩ := Joins.slice_form Try.underlying43 h5
  simp at e0 e1 e2 e3 e4 e5 e6
  obtain ⟨rfl, rfl, rfl, rfl, rfl, rfl⟩ := e1
  subst e0 e2 e3 e4 e5 e6
  obtain ⟨fa, gf⟩ := argFates (A := A5) (len := n5) (cap := k5) (d := y4.1) (p := y4.2) ⟨m, by simpa [Value.cells] using h4⟩
  obtain ⟨fu, gu⟩ := argFuses (A := A6) (len := n6) (cap := k6) (d := y5.1) (p := y5.2) ⟨m, by simpa [Value.cells] using h5⟩
  exact ⟨(⟨a0, cm, a2, a3, a4, fa, fu⟩, _, _, _), rfl, ⟨hb, argSt_ml gf, argSt_ml gu⟩, w0, w1, w2, w3, w4, gf.2.2.2.2.1, gu.2.2.2.2.1⟩
theorem argAct {H : Type} {enc : TypeId × Value → H} {w : World} {spare : Nat → Bool} {held : Bool} {v : Value} {r : Reach} {b0 : Nat} {base : Nat} {d : DataW H} {p : List MemPlace} (hv : Value.okWide Try.prog w r b0 45 v)
    (h : DataW.Trod enc Try.prog w base spare held 45 v d p) : ∃ (y : Ac) (u1 u2 u3 : Value), v = actV y u1 u2 u3 ∧ AM w (fun _ => True) y u1 u2 u3 ∧ rngA y := by
  obtain ⟨cs, rfl, hsz⟩ := okWide_struct Try.underlying45 hv
  obtain ⟨fuel, hf⟩ := h
  rw [cellsAct] at hsz
  obtain ⟨⟨y, u1, u2, u3⟩, e, hb, hr⟩ := trod_act (cs := cs.toList) (by rw [Array.length_toList]; exact hsz) (by simpa [Value.cells] using hf)
  refine ⟨y, u1, u2, u3, ?_, hb, hr⟩
  unfold acL at e
  unfold actV
  rw [← e]
theorem argActs {H : Type} {enc : TypeId × Value → H} {w : World} {base : Nat} {spare : Nat → Bool} {held : Bool} {A : Option Addr} {len cap : Nat} {d : DataW H} {p : List MemPlace}
    (h : DataW.Trod enc Try.prog w base spare held 47 (.slice A len cap) d p) : ∃ l, AS w (fun _ => True) (.slice A len cap) l ∧ ∀ x ∈ l, rngA x := by
  obtain ⟨l, g1, g2, g3, rfl, g5, g6⟩ := argSt (ok := fun y => AM w (fun _ => True) y.1 y.2.1 y.2.2.1 y.2.2.2 ∧ rngA y.1) acL_len (by omega) Try.underlying47 cellsAct (fun n cs x hl hx => trod_act hl hx) h
  have hz : (l.map Prod.fst).zip (l.map Prod.snd) = l := by
    clear g1 g3 g5 h
    induction l with
    | nil => rfl
    | cons y l ih => simp [ih]
  refine ⟨l.map Prod.fst, ⟨l.map Prod.snd, by simp, ?_, fun i x u hx hu => ?_⟩, fun x hx => ?_⟩
  · rw [hz]; exact ⟨A, cap, rfl, g1, g2, g3, g6⟩
  · have h2 : l[i]? = some (x, u) := by rw [← hz]; exact List.getElem?_zip_eq_some.2 ⟨hx, hu⟩
    exact (g5 _ (List.mem_of_getElem? h2)).1
  · obtain ⟨y, hy, rfl⟩ := List.mem_map.1 hx
    exact (g5 y hy).2
end Go.Proofs.Ythkgchlndfcmpaa

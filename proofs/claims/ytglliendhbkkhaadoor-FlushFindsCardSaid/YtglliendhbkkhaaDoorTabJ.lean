/- vivariumref09.add: what stands around it. -/
import Derived.Test.YtglliendhbkkhaaDoorTabD
import Derived.Test.YtglliendhbkkhaaDoorArgs
namespace Go.Proofs.YtglliendhbkkhaaDoor
open Go.RowKit
set_option maxRecDepth 100000
set_option linter.unusedVariables false
set_option linter.unusedSimpArgs false

/-- A step. -/
structure StZ where
  do_ : Int
  id : IdZ
  parts : List PtZ
  row : Int
  comp : Int
  data : List UInt8
deriving DecidableEq, Inhabited
def stN : Nst StZ (Value × Value) where
  cells p := [.int .i64 p.1.do_, .int .i64 p.1.id.ix, .int .i64 p.1.id.gen, p.2.1, .int .i64 p.1.row, .int .i64 p.1.comp, p.2.2]
  m := 7
  pos := by decide
  len _ := rfl
  inn w F x u := NS parN w F u.1 x.parts ∧ By w F u.2 x.data
  one h u hu := by
    obtain ⟨A, c, h1, -⟩ := h.1.form
    obtain ⟨B, d, h2, -⟩ := h.2
    simp only [List.mem_cons, List.not_mem_nil, or_false] at hu
    rcases hu with rfl | rfl | rfl | rfl | rfl | rfl | rfl
    · rfl
    · rfl
    · rfl
    · rw [h1]; rfl
    · rfl
    · rfl
    · rw [h2]; rfl
  keep h hk hs := ⟨NS.keep h.1 hk hs, By.keep h.2 hk hs⟩
  mono h hf := ⟨NS.mono h.1 hf, By.mono h.2 hf⟩
def stV (x : StZ) (p d : Value) : Value := .agg #[.int .i64 x.do_, .int .i64 x.id.ix, .int .i64 x.id.gen, p, .int .i64 x.row, .int .i64 x.comp, d]
theorem heap_six {w : World} {p : Nat} {t : TypeId} {a b c d e f : Value} (h : w.heap[p]? = some (.cells #[a, b, c, d, e, f] t (0, 0))) (x0 x1 x2 x3 x4 x5 : Value) : ((((((w.setCell ⟨p, 0, none⟩ x0).setCell ⟨p, 1, none⟩ x1).setCell ⟨p, 2, none⟩ x2).setCell ⟨p, 3, none⟩ x3).setCell ⟨p, 4, none⟩ x4).setCell ⟨p, 5, none⟩ x5).heap[p]? = some (.cells #[x0, x1, x2, x3, x4, x5] t (0, 0)) := by
  rw [heap_setCell_same _ p 5 _ _ x5 (heap_setCell_same _ p 4 _ _ x4 (heap_setCell_same _ p 3 _ _ x3 (heap_setCell_same _ p 2 _ _ x2 (heap_setCell_same _ p 1 _ _ x1 (heap_setCell_same w p 0 _ _ x0 h)))))]; rfl
/-- A table, in place. -/
def set3 (w : World) (p : Nat) (x y z : Value) : World := ((w.setCell ⟨p, 0, none⟩ x).setCell ⟨p, 1, none⟩ y).setCell ⟨p, 2, none⟩ z
def set6 (w : World) (p : Nat) (x0 x1 x2 x3 x4 x5 : Value) : World := (((((w.setCell ⟨p, 0, none⟩ x0).setCell ⟨p, 1, none⟩ x1).setCell ⟨p, 2, none⟩ x2).setCell ⟨p, 3, none⟩ x3).setCell ⟨p, 4, none⟩ x4).setCell ⟨p, 5, none⟩ x5
theorem keep3 (w : World) (p : Nat) (x y z : Value) : Keep (fun b => b = p) w (set3 w p x y z) :=
  Keep.setCell (S := fun b => b = p) (p := ⟨p, 2, none⟩) (Keep.setCell (S := fun b => b = p) (p := ⟨p, 1, none⟩) (Keep.setCell (S := fun b => b = p) (p := ⟨p, 0, none⟩) (Keep.refl _ _) (.inr rfl) _) (.inr rfl) _) (.inr rfl) _
theorem keep6 (w : World) (p : Nat) (x0 x1 x2 x3 x4 x5 : Value) : Keep (fun b => b = p) w (set6 w p x0 x1 x2 x3 x4 x5) :=
  Keep.setCell (S := fun b => b = p) (p := ⟨p, 5, none⟩) (Keep.setCell (S := fun b => b = p) (p := ⟨p, 4, none⟩) (Keep.setCell (S := fun b => b = p) (p := ⟨p, 3, none⟩) (Keep.setCell (S := fun b => b = p) (p := ⟨p, 2, none⟩) (Keep.setCell (S := fun b => b = p) (p := ⟨p, 1, none⟩) (Keep.setCell (S := fun b => b = p) (p := ⟨p, 0, none⟩) (Keep.refl _ _) (.inr rfl) _) (.inr rfl) _) (.inr rfl) _) (.inr rfl) _) (.inr rfl) _) (.inr rfl) _
/-- What a step leaves. -/
def GoPost (w : World) (F : Nat → Prop) (L : List Nat) (sz : Nat → Nat) (rows : List EnZ) (t : TlZ) (e : Ending) (w' : World) : Prop :=
  ∃ u v, e = .returned (.tuple #[u, v]) ∧ RT w' (fun b => F b ∨ w.heap.size ≤ b) u L sz rows ∧ TlSt w' (fun b => F b ∨ w.heap.size ≤ b) v t ∧ Below w.heap.size w w'
end Go.Proofs.YtglliendhbkkhaaDoor
namespace Go.Proofs.YtglliendhbkkhaaDoor
open Go.RowKit
set_option maxRecDepth 100000
set_option linter.unusedVariables false
set_option linter.unusedSimpArgs false

theorem dataT_nil (k : Int) (size : Nat) : dataT [] k size = List.replicate size 0 := rfl
theorem dataT_cons (x : PtZ) (P : List PtZ) (k : Int) (size : Nat) : dataT (x :: P) k size = if x.comp = k then x.data else dataT P k size := by
  unfold dataT fstP
  rw [List.findIdx_cons]
  by_cases h : x.comp = k
  · rw [if_pos h, decide_eq_true h]; rfl
  · rw [if_neg h, decide_eq_false h]; rfl
theorem dataT_drop {P : List PtZ} {t : Nat} {x : PtZ} (k : Int) (size : Nat) (h : P[t]? = some x) : dataT (P.drop t) k size = if x.comp = k then x.data else dataT (P.drop (t + 1)) k size := by
  obtain ⟨ht, e⟩ := List.getElem?_eq_some_iff.1 h
  rw [List.drop_eq_getElem_cons ht, e, dataT_cons]
theorem cutB_nil (n : Nat) : cutB [] n = List.replicate n 0 := by simp [cutB]
/-- The code of an add; the rows behind it. -/
def addRow (L : List Nat) (sz : Nat → Nat) (x : StZ) : EnZ := ⟨x.id, L.map fun (c : Nat) => ⟨(c : Int), dataT x.parts (c : Int) (sz c)⟩⟩
def addOkL (L : List Nat) (sz : Nat → Nat) (P : List PtZ) : Bool := L.all fun c => decide ((dataT P (c : Int) (sz c)).length = sz c)
def addCL (L : List Nat) (n : Nat) (sz : Nat → Nat) (P : List PtZ) : Int := if n = 1024 then 9 else if addOkL L sz P = true then 0 else 7
def addRL (L : List Nat) (sz : Nat → Nat) (rows : List EnZ) (x : StZ) : List EnZ := if addCL L rows.length sz x.parts = 0 then rows ++ [addRow L sz x] else rows
def errT (z : Int) : TlZ := ⟨[], [], ⟨0, 0⟩, false, z⟩
section
variable {α β : Type} {P : Program} {ops : Array Oper} {rest : List Oper} {o : Oper} {a : Act} {w : World} {K : Act → World → Prop} {Q : Exit → Act → World → Prop} {E : Prop}
theorem step_pushX (hgd : Region.wanted o (yielded ops a.tmps) = true) (s x : Operand) (t : TypeId) (ho : o.op = .call { callee := .builtin .append, args := #[s, x], argTypes := #[t, t] })
    (N : Nst α β) (X : Nat → Prop) (B : Nat) (e : TypeId) (i : TypeInfo) (z : Value) (bytes : Nat) (ht : P.underlying t = some (.slice e)) (hi : P.info? e = some i) (hz : i.zero = some z) (hsize : i.size = N.m) (hby : i.bytes = bytes) (hzs : z.cells.size = N.m)
    (v : Value) (R : List α) (n : Nat) (hn : R.length = n) (hv : a.eval s = v) (hnb : NBX N X B e w v R) (g c : Nat) (y : α) (q : β) (hy : a.eval x = .slice (some ⟨g, 0, none⟩) 1 c) (hc : ∀ j u, (N.cells (y, q))[j]? = some u → w.cell? ⟨g, j, none⟩ = some u) (hx : N.inn w (fun b => X b ∧ ownB v ≠ some b) y q)
    (h63 : n + 1 ≤ maxLen) (hbytes : (n + 1) * bytes ≤ 140737488355328) (hB : B ≤ w.heap.size)
    (h : ∀ A c w', NBX N X B e w' (.slice A (n + 1) c) (R ++ [y]) → Keep (fun k => ownB v = some k) w w' → K (a.put o.dst (.slice A (n + 1) c)) w') :
    if Region.wanted o (yielded ops a.tmps) = true then Oper.wp P o a w K Q else E := by
  rw [if_pos hgd]
  exact wp_pushX s x t ho N X B e i z bytes ht hi hz hsize hby hzs v R n hn hv hnb g c y q hy hc hx h63 hbytes hB h
end
theorem ent_push {W : World} {G : Nat → Prop} {B : Nat} {e : TypeId} {u v : Value} {rows : List EnZ} {us : List Value} {y : EnZ} (h1 : us.length = rows.length) (h3 : ∀ (i : Nat) x q, rows[i]? = some x → us[i]? = some q → NS parN W G q x.parts) (hv : NS parN W G v y.parts) (ho : Own W B e 3 u (rows.length + 1) ((rows.zip us).flatMap entN.cells ++ entN.cells (y, v))) : NS entN W (fun b => G b ∨ B ≤ b) u (rows ++ [y]) := by
  have hz : (rows ++ [y]).zip (us ++ [v]) = rows.zip us ++ [(y, v)] := by rw [List.zip_append h1.symm]; rfl
  refine ⟨us ++ [v], by rw [List.length_append, List.length_append, h1]; rfl, ?_, fun i x q hx hq => ?_⟩
  · rw [hz]
    have h4 : Own W B e entN.m u (rows.zip us ++ [(y, v)]).length ((rows.zip us ++ [(y, v)]).flatMap entN.cells) := by
      rw [List.length_append, List.length_zip, h1, Nat.min_self, List.flatMap_append, List.flatMap_cons, List.flatMap_nil, List.append_nil]; exact ho
    exact (Own.ml (n := 0) entN.pos entN.len h4).mono (fun b _ h => .inr (by simpa using h))
  · have key : ∀ (z : EnZ) (q : Value), NS parN W G q z.parts → entN.inn W (fun b => G b ∨ B ≤ b) z q := fun z q h => NS.mono h (fun _ _ h => .inl h)
    rcases Nat.lt_or_ge i rows.length with hi | hi
    · rw [List.getElem?_append_left hi] at hx
      rw [List.getElem?_append_left (by omega)] at hq
      exact key _ _ (h3 i x q hx hq)
    · rw [List.getElem?_append_right hi] at hx
      rw [List.getElem?_append_right (by omega), h1] at hq
      match hj : i - rows.length, hx, hq with
      | 0, hx, hq =>
        obtain rfl : y = x := by simpa using hx
        obtain rfl : v = q := by simpa using hq
        exact key _ _ hv
end Go.Proofs.YtglliendhbkkhaaDoor
namespace Go.Proofs.YtglliendhbkkhaaDoor
open Go.RowKit
set_option maxRecDepth 100000
set_option linter.unusedVariables false
set_option linter.unusedSimpArgs false

section
variable {w : World} {F : Nat → Prop} {u : Value} {L : List Nat} {sz : Nat → Nat} {rows : List EnZ}
end
end Go.Proofs.YtglliendhbkkhaaDoor
namespace Go.Proofs.YtglliendhbkkhaaDoor
open Go.RowKit
set_option maxRecDepth 100000
set_option linter.unusedVariables false
set_option linter.unusedSimpArgs false

def MuchPost (l : List StZ) (e : Ending) : Prop := ∃ b : Bool, e = .returned (.bool b) ∧ (b = false → l.length ≤ 60 ∧ ∀ x ∈ l, x.parts.length ≤ 40)
end Go.Proofs.YtglliendhbkkhaaDoor
namespace Go.Proofs.YtglliendhbkkhaaDoor
open Go.RowKit
set_option maxRecDepth 100000
set_option linter.unusedVariables false
set_option linter.unusedSimpArgs false

theorem list2_ {α : Type} {l : List α} (h : l.length = 2) : ∃ a b, l = [a, b] := by
  match l, h with
  | [a, b], _ => exact ⟨a, b, rfl⟩
theorem list7_ {α : Type} {l : List α} (h : l.length = 7) : ∃ a b c d e f g, l = [a, b, c, d, e, f, g] := by
  match l, h with
  | [a, b, c, d, e, f, g], _ => exact ⟨a, b, c, d, e, f, g, rfl⟩
section
variable {H : Type} {enc : TypeId × Value → H} {w : World} {base : Nat} {spare : Nat → Bool} {held : Bool} {A : Option Addr} {len cap : Nat} {d : DataW H} {p : List MemPlace}
theorem trod_idZ {n : Nat} {cs : List Value} {x : DataW H × List MemPlace} (hl : cs.length = 2) (h : DataW.trod enc Tryd.prog w base spare held n 27 cs = some x) : ∃ y : IdZ, cs = idC y ∧ (Lit.int .i64 y.ix).wf = true ∧ (Lit.int .i64 y.gen).wf = true := by
  obtain ⟨c0, c1, rfl⟩ := list2_ hl
  have ci : Tryd.prog.cellsOf 3 = 1 := by kernel_rfl
  obtain ⟨xs, m, _, _, _, hlen, hf⟩ := DataW.trod_struct Tryd.underlying27 h
  obtain ⟨y0, y1, rfl⟩ := list2_ hlen
  have h0 : DataW.trod enc Tryd.prog w base spare held m 3 [c0] = some y0 := by simpa [ci] using hf 0 _ rfl
  have h1 : DataW.trod enc Tryd.prog w base spare held m 3 [c1] = some y1 := by simpa [ci] using hf 1 _ rfl
  obtain ⟨a0, e0, _, w0⟩ := DataW.trod_int Tryd.underlying3 h0
  obtain ⟨a1, e1, _, w1⟩ := DataW.trod_int Tryd.underlying3 h1
  simp at e0 e1
  subst e0 e1
  exact ⟨⟨a0, a1⟩, rfl, w0, w1⟩
theorem argIDs (h : DataW.Trod enc Tryd.prog w base spare held 80 (.slice A len cap) d p) : ∃ l : List IdZ, l.length = len ∧ Sl w (fun _ => True) 2 (.slice A len cap) l.length (l.flatMap idC) := by
  haveI : Inhabited IdZ := ⟨⟨0, 0⟩⟩
  have cl : Tryd.prog.cellsOf 27 = 2 := by kernel_rfl
  obtain ⟨l, g1, g2, g3, rfl, g5, g6⟩ := argSt (f := idC) (ok := fun _ => True) idC_len (by decide) Tryd.underlying80 cl (fun n cs x hl hx => by
    obtain ⟨y, hy, _⟩ := trod_idZ hl hx
    exact ⟨y, hy, trivial⟩) h
  exact ⟨l, rfl, A, cap, rfl, g1, g2, g6, g3⟩
theorem trod_part {n : Nat} {cs : List Value} {x : DataW H × List MemPlace} (hl : cs.length = 2) (h : DataW.trod enc Tryd.prog w base spare held n 130 cs = some x) : ∃ (y : PtZ) (u : Value), cs = parN.cells (y, u) ∧ By w (fun _ => True) u y.data := by
  obtain ⟨c0, c1, rfl⟩ := list2_ hl
  have ci : Tryd.prog.cellsOf 3 = 1 := by kernel_rfl
  have cl : Tryd.prog.cellsOf 35 = 1 := by kernel_rfl
  obtain ⟨xs, m, _, _, _, hlen, hf⟩ := DataW.trod_struct Tryd.underlying130 h
  obtain ⟨y0, y1, rfl⟩ := list2_ hlen
  have h0 : DataW.trod enc Tryd.prog w base spare held m 3 [c0] = some y0 := by simpa [ci] using hf 0 _ rfl
  have h1 : DataW.trod enc Tryd.prog w base spare held m 35 [c1] = some y1 := by simpa [cl] using hf 1 _ rfl
  obtain ⟨a0, e0, _, w0⟩ := DataW.trod_int Tryd.underlying3 h0
  obtain ⟨A2, n2, k2, l2, e1, hb, _⟩ := trod_by Tryd.underlying35 Tryd.underlying5 (by kernel_rfl) h1
  simp at e0 e1
  subst e0 e1
  exact ⟨⟨a0, l2⟩, _, rfl, hb⟩
theorem zip_unzip {α β : Type} (l : List (α × β)) : (l.map Prod.fst).zip (l.map Prod.snd) = l := by
  induction l with
  | nil => rfl
  | cons y l ih => simp [ih]
theorem argParts (h : DataW.Trod enc Tryd.prog w base spare held 118 (.slice A len cap) d p) : ∃ l, NS parN w (fun _ => True) (.slice A len cap) l := by
  haveI : Inhabited (PtZ × Value) := ⟨(⟨0, []⟩, undef)⟩
  have cl : Tryd.prog.cellsOf 130 = 2 := by kernel_rfl
  obtain ⟨l, g1, g2, g3, rfl, g5, g6⟩ := argSt (f := parN.cells) (ok := fun y => By w (fun _ => True) y.2 y.1.data) parN.len (by decide) Tryd.underlying118 cl (fun n cs x hl hx => by
    obtain ⟨y, u, e, hb⟩ := trod_part hl hx
    exact ⟨(y, u), e, hb⟩) h
  refine ⟨l.map Prod.fst, l.map Prod.snd, by simp, ?_, fun i x u hx hu => ?_⟩
  · rw [zip_unzip]; exact ⟨A, cap, rfl, g1, g2, g3, g6⟩
  · have h2 : l[i]? = some (x, u) := by rw [← zip_unzip l]; exact List.getElem?_zip_eq_some.2 ⟨hx, hu⟩
    exact g5 _ (List.mem_of_getElem? h2)
/-- A step's numbers. -/
def stR (x : StZ) : Prop := (-9223372036854775808 ≤ x.row ∧ x.row ≤ 9223372036854775807) ∧ (-9223372036854775808 ≤ x.comp ∧ x.comp ≤ 9223372036854775807)
end
end Go.Proofs.YtglliendhbkkhaaDoor

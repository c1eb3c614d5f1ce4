/- Rows in memory; vivariumref09.SameIDs, SameParts, SameTold of two alike. -/
import Derived.Test.YtglliendhbkkhaaDoorTabA
import Derived.Test.YtglliendhbkkhaaDoorSame
namespace Go.Proofs.YtglliendhbkkhaaDoor
open Go.RowKit
set_option maxRecDepth 100000
set_option linter.unusedVariables false
set_option linter.unusedSimpArgs false

/-- A row: whose, and its parts. -/
structure EnZ where
  id : IdZ
  parts : List PtZ
deriving DecidableEq, Inhabited
def entN : Nst EnZ Value where
  cells p := [.int .i64 p.1.id.ix, .int .i64 p.1.id.gen, p.2]
  m := 3
  pos := by decide
  len _ := rfl
  inn w F x u := NS parN w F u x.parts
  one h u hu := by
    obtain ⟨A, c, rfl, -⟩ := h.form
    simp only [List.mem_cons, List.not_mem_nil, or_false] at hu
    rcases hu with rfl | rfl | rfl <;> rfl
  keep h hk hs := NS.keep h hk hs
  mono h hf := NS.mono h hf
/-- A name of a list of names. -/
theorem ids_at {w : World} {F : Nat → Prop} {A : Option Addr} {n c k : Nat} {l : List IdZ} (h : Sl w F 2 (.slice A n c) n (l.flatMap idC)) (hl : l.length = n) (hk : k < n) :
    ∃ b off, A = some ⟨b, off, none⟩ ∧ F b ∧ w.cell? ⟨b, off + k * 2, none⟩ = some (.int .i64 (l.getD k default).ix) ∧ w.cell? ⟨b, off + k * 2 + 1, none⟩ = some (.int .i64 (l.getD k default).gen) := by
  obtain ⟨A9, c9, e9, _, _, _, hr⟩ := h
  injection e9 with e91 e92 e93
  subst e91
  obtain ⟨b, o, rfl, hF, hc⟩ := hr.2 (by omega)
  obtain ⟨h1, h2⟩ := flat_atId (l := l) (k := k) (by omega)
  exact ⟨b, o, rfl, hF, hc _ _ h1, by have := hc _ _ h2; rwa [← Nat.add_assoc] at this⟩
end Go.Proofs.YtglliendhbkkhaaDoor
namespace Go.Proofs.YtglliendhbkkhaaDoor
open Go.RowKit
set_option maxRecDepth 100000
set_option linter.unusedVariables false
set_option linter.unusedSimpArgs false

/-- What is told. -/
structure TlZ where
  data : List UInt8
  parts : List PtZ
  id : IdZ
  ok : Bool
  err : Int
deriving DecidableEq, Inhabited
def tlV (t : TlZ) (d p : Value) : Value := .agg #[d, p, .int .i64 t.id.ix, .int .i64 t.id.gen, .bool t.ok, .int .i64 t.err]
/-- u is what t tells. -/
def TlSt (w : World) (F : Nat → Prop) (u : Value) (t : TlZ) : Prop := ∃ d p, u = tlV t d p ∧ By w F d t.data ∧ NS parN w F p t.parts
theorem TlSt.same {w w' : World} {F : Nat → Prop} {u : Value} {t : TlZ} (h : TlSt w F u t) (hk : Keep (fun _ => False) w w') : TlSt w' F u t := by
  obtain ⟨d, p, rfl, h1, h2⟩ := h
  exact ⟨d, p, rfl, h1.keep hk (fun _ _ _ h => h), h2.same hk⟩
end Go.Proofs.YtglliendhbkkhaaDoor
namespace Go.Proofs.YtglliendhbkkhaaDoor
open Go.RowKit
set_option maxRecDepth 100000
set_option linter.unusedVariables false
set_option linter.unusedSimpArgs false

/-- u is the reference's table: components L, their sizes, rows. -/
def RT (w : World) (F : Nat → Prop) (u : Value) (L : List Nat) (sz : Nat → Nat) (rows : List EnZ) : Prop :=
  ∃ vc vs vr, u = .agg #[vc, vs, vr] ∧ Sl w F 1 vc L.length (iv (ints L)) ∧ Sl w F 1 vs L.length (iv (ints (L.map sz))) ∧ NS entN w F vr rows
section
variable {w w' : World} {F G S : Nat → Prop} {u : Value} {L : List Nat} {sz : Nat → Nat} {rows : List EnZ}
theorem RT.keep (h : RT w F u L sz rows) (hk : Keep S w w') (hs : ∀ b, b < w.heap.size → F b → ¬ S b) : RT w' F u L sz rows := by
  obtain ⟨vc, vs, vr, rfl, h1, h2, h3⟩ := h
  exact ⟨vc, vs, vr, rfl, h1.keep hk hs, h2.keep hk hs, h3.keep hk hs⟩
theorem RT.same (h : RT w F u L sz rows) (hk : Keep (fun _ => False) w w') : RT w' F u L sz rows := h.keep hk (fun _ _ _ h => h)
theorem RT.mono (h : RT w F u L sz rows) (hf : ∀ b, b < w.heap.size → F b → G b) : RT w G u L sz rows := by
  obtain ⟨vc, vs, vr, rfl, h1, h2, h3⟩ := h
  exact ⟨vc, vs, vr, rfl, h1.mono hf, h2.mono hf, h3.mono hf⟩
/-- Its form. -/
theorem RT.form (h : RT w F u L sz rows) : ∃ Ac cc As cs Ar cr, u = .agg #[.slice Ac L.length cc, .slice As L.length cs, .slice Ar rows.length cr] ∧ L.length ≤ cc ∧ cc ≤ maxLen ∧ L.length ≤ cs ∧ cs ≤ maxLen ∧ rows.length ≤ cr ∧ cr ≤ maxLen ∧
    Sl w F 1 (.slice Ac L.length cc) L.length (iv (ints L)) ∧ Sl w F 1 (.slice As L.length cs) L.length (iv (ints (L.map sz))) ∧ NS entN w F (.slice Ar rows.length cr) rows := by
  obtain ⟨vc, vs, vr, rfl, h1, h2, h3⟩ := h
  have k1 := h1
  have k2 := h2
  obtain ⟨Ac, cc, rfl, a1, a2, -⟩ := h1
  obtain ⟨As, cs, rfl, b1, b2, -⟩ := h2
  obtain ⟨Ar, cr, rfl, d1, d2⟩ := h3.form
  exact ⟨Ac, cc, As, cs, Ar, cr, rfl, a1, a2, b1, b2, d2, d1, k1, k2, h3⟩
theorem wpList_name {ops : Array Oper} {o : Oper} {rest : List Oper} {a : Act} {w : World} {Q : Exit → Act → World → Prop} (hgd : Region.wanted o (yielded ops a.tmps) = true) (s x : Operand)
    (ho : o.op = .call { callee := .builtin .append, args := #[s, x], argTypes := #[80, 80] }) (B : Nat) (v : Value) (n : Nat) (ids : List IdZ) (hn : ids.length = n) (hv : a.eval s = v) (hown : Own w B 27 2 v n (ids.flatMap idC)) (g c : Nat) (y : IdZ)
    (hy : a.eval x = .slice (some ⟨g, 0, none⟩) 1 c) (h0 : w.cell? ⟨g, 0, none⟩ = some (.int .i64 y.ix)) (h1 : w.cell? ⟨g, 1, none⟩ = some (.int .i64 y.gen)) (hk : n ≤ 1099511627776) (hB : B ≤ w.heap.size)
    (h : ∀ A c w', Own w' B 27 2 (.slice A (n + 1) c) (n + 1) ((ids ++ [y]).flatMap idC) → Keep (fun k => ownB v = some k) w w' → wpList Tryd.prog ops Q rest (a.put o.dst (.slice A (n + 1) c)) w') :
    wpList Tryd.prog ops Q (o :: rest) a w := by
  obtain ⟨is, his, hs0, hs1, hs2⟩ := info_parts info_id
  have hsrc : Src Tryd.prog 2 80 (.slice (some ⟨g, 0, none⟩) 1 c) 1 (idC y) w := Src.ofSlice _ Tryd.underlying80 _ 1 c (idC y) rfl (fun j u hu => by
    match j, hu with
    | 0, hu => cases hu; simpa [Addr.add] using h0
    | 1, hu => cases hu; simpa [Addr.add] using h1) (fun u hu => by
    simp only [idC, List.mem_cons, List.not_mem_nil, or_false] at hu
    rcases hu with rfl | rfl <;> rfl)
  refine wpList_append_gen w hgd s x _ _ ho B 27 is _ 2 16 Tryd.underlying80 his hs0 hs1 hs2 rfl v n _ hv hown _ 1 _ hy hsrc (by unfold maxLen; omega) (by omega) hB ?_
  intro v' w' ho' hk' hn'
  obtain ⟨A, c', rfl, _⟩ := ho'.form
  refine h A c' w' ?_ hk'
  rw [List.flatMap_append]
  simpa using ho'
theorem take_snoc {α β : Type} (f : α → β) {l : List α} {j : Nat} {x : α} (h : l[j]? = some x) : (l.take (j + 1)).map f = (l.take j).map f ++ [f x] := by
  rw [List.take_add_one, h, List.map_append]; rfl
end
end Go.Proofs.YtglliendhbkkhaaDoor
namespace Go.Proofs.YtglliendhbkkhaaDoor
open Go.RowKit
set_option maxRecDepth 100000
set_option linter.unusedVariables false
set_option linter.unusedSimpArgs false

/-- A column of rows. -/
def colR (rows : List EnZ) (i : Nat) : List UInt8 := (rows.map fun r => (r.parts.getD i default).data).flatten
theorem colR_next {rows : List EnZ} {j i : Nat} {r : EnZ} {x : PtZ} (h : rows[j]? = some r) (hx : r.parts[i]? = some x) : colR (rows.take (j + 1)) i = colR (rows.take j) i ++ x.data := by
  unfold colR
  rw [take_snoc (fun r : EnZ => (r.parts.getD i default).data) h, List.flatten_append, List.getD_eq_getElem?_getD, hx]
  simp
theorem colR_len {rows : List EnZ} {i M : Nat} (hw : ∀ r ∈ rows, ∀ p ∈ r.parts, p.data.length ≤ M) (j : Nat) : (colR (rows.take j) i).length ≤ j * M := by
  induction j with
  | zero => simp [colR]
  | succ j ih =>
    rw [Nat.succ_mul]
    by_cases h : j < rows.length
    · have hx := List.getElem?_eq_getElem h
      by_cases h2 : i < rows[j].parts.length
      · rw [colR_next hx (List.getElem?_eq_getElem h2), List.length_append]
        have := hw _ (List.getElem_mem h) _ (List.getElem_mem h2)
        omega
      · have e : colR (rows.take (j + 1)) i = colR (rows.take j) i := by
          unfold colR
          rw [take_snoc (fun r : EnZ => (r.parts.getD i default).data) hx, List.flatten_append, List.getD_eq_getElem?_getD, List.getElem?_eq_none (by omega)]
          have : (default : PtZ).data = [] := rfl
          simp [this]
        rw [e]; omega
    · rw [List.take_of_length_le (by omega)]
      rw [List.take_of_length_le (by omega)] at ih
      omega
section
variable {w w' : World} {F G S : Nat → Prop} {u : Value} {L : List Nat} {sz : Nat → Nat} {rows : List EnZ}
end
end Go.Proofs.YtglliendhbkkhaaDoor
namespace Go.Proofs.YtglliendhbkkhaaDoor
open Go.RowKit
set_option maxRecDepth 100000
set_option linter.unusedVariables false
set_option linter.unusedSimpArgs false

theorem heap_three {w : World} {p : Nat} {t : TypeId} {a b c : Value} (h : w.heap[p]? = some (.cells #[a, b, c] t (0, 0))) (x y z : Value) : (((w.setCell ⟨p, 0, none⟩ x).setCell ⟨p, 1, none⟩ y).setCell ⟨p, 2, none⟩ z).heap[p]? = some (.cells #[x, y, z] t (0, 0)) := by
  rw [heap_setCell_same _ p 2 _ _ z (heap_setCell_same _ p 1 _ _ y (heap_setCell_same w p 0 _ _ x h))]; rfl
theorem step_int {ops : Array Oper} {o : Oper} {a : Act} {w : World} {K : Act → World → Prop} {Q : Exit → Act → World → Prop} {E : Prop} (hgd : Region.wanted o (yielded ops a.tmps) = true) (s x : Operand)
    (ho : o.op = .call { callee := .builtin .append, args := #[s, x], argTypes := #[70, 70] }) (B : Nat) (v : Value) (n : Nat) (D : List Nat) (hn : D.length = n) (hv : a.eval s = v) (hown : Own w B 3 1 v n (iv (ints D))) (g : Nat) (y : Nat)
    (hy : a.eval x = .slice (some ⟨g, 0, none⟩) 1 1) (h0 : w.cell? ⟨g, 0, none⟩ = some (.int .i64 (y : Int))) (hk : n ≤ 1099511627776) (hB : B ≤ w.heap.size)
    (h : ∀ A c w', Own w' B 3 1 (.slice A (n + 1) c) (n + 1) (iv (ints (D ++ [y]))) → Keep (fun k => ownB v = some k) w w' → (∀ k', ownB (.slice A (n + 1) c) = some k' → ownB v = some k' ∨ w.heap.size ≤ k') → K (a.put o.dst (.slice A (n + 1) c)) w') :
    if Region.wanted o (yielded ops a.tmps) = true then Oper.wp Tryd.prog o a w K Q else E := by
  obtain ⟨is, his, hs0, hs1, hs2⟩ := info_parts info_int
  refine step_append_gen w hgd s x _ _ ho B 3 is _ 1 8 Tryd.underlying70 his hs0 hs1 hs2 rfl v n _ hv hown _ 1 _ hy (src_at Tryd.underlying70 (x := .int .i64 (y : Int)) rfl h0) (by unfold maxLen; omega) (by omega) hB ?_
  intro v' w' ho' hk' hn'
  obtain ⟨A, c', rfl, _⟩ := ho'.form
  exact h A c' w' (by simpa [ints, iv] using ho') hk' hn'
theorem wpList_int {ops : Array Oper} {o : Oper} {rest : List Oper} {a : Act} {w : World} {Q : Exit → Act → World → Prop} (hgd : Region.wanted o (yielded ops a.tmps) = true) (s x : Operand)
    (ho : o.op = .call { callee := .builtin .append, args := #[s, x], argTypes := #[70, 70] }) (B : Nat) (v : Value) (n : Nat) (D : List Nat) (hn : D.length = n) (hv : a.eval s = v) (hown : Own w B 3 1 v n (iv (ints D))) (g : Nat) (y : Nat)
    (hy : a.eval x = .slice (some ⟨g, 0, none⟩) 1 1) (h0 : w.cell? ⟨g, 0, none⟩ = some (.int .i64 (y : Int))) (hk : n ≤ 1099511627776) (hB : B ≤ w.heap.size)
    (h : ∀ A c w', Own w' B 3 1 (.slice A (n + 1) c) (n + 1) (iv (ints (D ++ [y]))) → Keep (fun k => ownB v = some k) w w' → (∀ k', ownB (.slice A (n + 1) c) = some k' → ownB v = some k' ∨ w.heap.size ≤ k') → wpList Tryd.prog ops Q rest (a.put o.dst (.slice A (n + 1) c)) w') :
    wpList Tryd.prog ops Q (o :: rest) a w :=
  wpList_step fun _ hK => step_int hgd s x ho B v n D hn hv hown g y hy h0 hk hB fun A c w' h1 h2 h3 => hK _ _ (h A c w' h1 h2 h3)
theorem allOf_bit {l : List Cp} {c : Nat} (h : c < 64) : (allOf l).testBit c = decide (c < l.length) := by
  unfold allOf
  rw [orL_testBit, decide_eq_true h]
  simp only [Nat.zero_testBit, Bool.false_or, Bool.true_and]
  by_cases h2 : c < l.length
  · rw [decide_eq_true h2, decide_eq_true]
    exact List.mem_map.2 ⟨c, List.mem_range.2 h2, rfl⟩
  · rw [decide_eq_false h2, decide_eq_false]
    intro hm
    obtain ⟨x, h3, h4⟩ := List.mem_map.1 hm
    have := List.mem_range.1 h3
    omega
theorem bl_filter (l : List Cp) (s : Nat) : ∀ k, k ≤ 64 → (bl s k).filter (fun c => decide (c < l.length)) = bl (s &&& allOf l) k
  | 0, _ => rfl
  | k + 1, h => by
    show (bl s k ++ if s.testBit k then [k] else []).filter _ = bl (s &&& allOf l) k ++ if (s &&& allOf l).testBit k then [k] else []
    rw [List.filter_append, bl_filter l s k (by omega), Nat.testBit_and, allOf_bit (by omega)]
    congr 1
    cases s.testBit k with
    | false => simp
    | true =>
      by_cases h2 : k < l.length
      · simp [h2]
      · simp [h2]
theorem filt_next {L : List Nat} {p : Nat → Bool} {j : Nat} (h : j < L.length) : (L.take (j + 1)).filter p = (L.take j).filter p ++ (if p (L.getD j 0) = true then [L.getD j 0] else []) := by
  rw [List.take_succ_eq_append_getElem h, List.filter_append, List.getD_eq_getElem?_getD, List.getElem?_eq_getElem h]
  simp [List.filter_cons]
end Go.Proofs.YtglliendhbkkhaaDoor
namespace Go.Proofs.YtglliendhbkkhaaDoor
open Go.RowKit
set_option maxRecDepth 100000
set_option linter.unusedVariables false
set_option linter.unusedSimpArgs false

section
variable {W W' w5 w6 : World} {p B : Nat} {A3 A4 A5 : Option Addr} {c3 d1 c4 d2 c5 : Nat} {D E : List Nat} {y : Nat}
end
end Go.Proofs.YtglliendhbkkhaaDoor

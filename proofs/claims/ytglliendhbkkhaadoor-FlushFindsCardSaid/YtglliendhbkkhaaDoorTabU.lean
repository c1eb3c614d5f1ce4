/- vivariumref09.Go, whatever the step. -/
import Derived.Test.YtglliendhbkkhaaDoorTabO
namespace Go.Proofs.YtglliendhbkkhaaDoor
open Go.RowKit
set_option maxRecDepth 100000
set_option linter.unusedVariables false
set_option linter.unusedSimpArgs false

/-- Where a component stands. -/
def ixL (L : List Nat) (k : Int) : Nat := L.findIdx fun (c : Nat) => decide ((c : Int) = k)
/-- The rows behind a step, and what it tells. -/
def goR (L : List Nat) (sz : Nat → Nat) (rows : List EnZ) (x : StZ) : List EnZ × TlZ :=
  if x.do_ < 1 ∨ 4 < x.do_ then (addRL L sz rows x, errT (addCL L rows.length sz x.parts))
  else if x.row < 0 ∨ (rows.length : Int) ≤ x.row then (rows, errT 2)
  else if x.do_ = 3 then (rows, ⟨[], (rows.getD x.row.toNat default).parts, ⟨0, 0⟩, false, 0⟩)
  else if x.do_ = 4 then (dropE rows x.row.toNat, dropT rows x.row.toNat)
  else if ¬ ixL L x.comp < L.length then (rows, errT 8)
  else if x.do_ = 2 then (rows, ⟨((rows.getD x.row.toNat default).parts.getD (ixL L x.comp) default).data, [], ⟨0, 0⟩, false, 0⟩)
  else if x.data.length ≠ sz (L.getD (ixL L x.comp) 0) then (rows, errT 7)
  else (rows.set x.row.toNat ⟨(rows.getD x.row.toNat default).id, (rows.getD x.row.toNat default).parts.set (ixL L x.comp) ⟨((rows.getD x.row.toNat default).parts.getD (ixL L x.comp) default).comp, x.data⟩⟩, errT 0)
theorem ixL_at {L : List Nat} {k : Int} (h : ixL L k < L.length) : ((L.getD (ixL L k) 0 : Nat) : Int) = k := by
  have := List.findIdx_getElem (w := h) (xs := L) (p := fun (c : Nat) => decide ((c : Int) = k))
  rw [List.getD_eq_getElem?_getD, List.getElem?_eq_getElem h]
  exact of_decide_eq_true this
theorem ixL_lt {L : List Nat} {k : Int} {j : Nat} (h : j < ixL L k) : ((L.getD j 0 : Nat) : Int) ≠ k := by
  have hl : j < L.length := Nat.lt_of_lt_of_le h List.findIdx_le_length
  have := List.not_of_lt_findIdx (xs := L) (p := fun (c : Nat) => decide ((c : Int) = k)) h
  rw [List.getD_eq_getElem?_getD, List.getElem?_eq_getElem hl]
  simpa using this
section
variable {w : World} {F : Nat → Prop} {u : Value} {L : List Nat} {sz : Nat → Nat} {rows : List EnZ}
end
/-- The rows that a table has. -/
def rowsT (sig : Nat) (ids : List IdZ) (col : Nat → List (List UInt8)) : List EnZ := (List.range ids.length).map fun i => ⟨ids.getD i default, rowT sig col i⟩
section
variable {sig : Nat} {sz : Nat → Nat} {ids : List IdZ} {col : Nat → List (List UInt8)}
theorem rowsT_len : (rowsT sig ids col).length = ids.length := by simp [rowsT]
theorem rowsT_at (i : Nat) : (rowsT sig ids col)[i]? = if i < ids.length then some ⟨ids.getD i default, rowT sig col i⟩ else none := by
  unfold rowsT
  rw [List.getElem?_map]
  by_cases h : i < ids.length
  · rw [if_pos h, List.getElem?_range h]; rfl
  · rw [if_neg h, List.getElem?_eq_none (by simpa using h)]; rfl
theorem rowsT_getD {i : Nat} (h : i < ids.length) : (rowsT sig ids col).getD i default = ⟨ids.getD i default, rowT sig col i⟩ := by
  rw [List.getD_eq_getElem?_getD, rowsT_at, if_pos h]; rfl
theorem rowT_len (i : Nat) : (rowT sig col i).length = (bl sig 64).length := by simp [rowT]
theorem rowsT_parts {m : Nat} (hm : (bl sig 64).length = m) (y : EnZ) (hy : y ∈ rowsT sig ids col) : y.parts.length = m := by
  unfold rowsT at hy
  have h2 := List.mem_map.1 hy
  clear hy
  cases h2 with
  | intro i h =>
    have e := h.2
    subst e
    have := rowT_len (sig := sig) (col := col) i
    rw [hm] at this
    dsimp only
    exact this
theorem rowsT_ext {ids2 : List IdZ} {col2 : Nat → List (List UInt8)} {R : List EnZ} (hl : R.length = ids2.length) (h : ∀ i, i < ids2.length → R[i]? = some ⟨ids2.getD i default, rowT sig col2 i⟩) : R = rowsT sig ids2 col2 := by
  apply List.ext_getElem?
  intro i
  rw [rowsT_at]
  by_cases hi : i < ids2.length
  · rw [if_pos hi, h i hi]
  · rw [if_neg hi, List.getElem?_eq_none (by omega)]
end
end Go.Proofs.YtglliendhbkkhaaDoor
namespace Go.Proofs.YtglliendhbkkhaaDoor
open Go.RowKit
set_option maxRecDepth 100000
set_option linter.unusedVariables false
set_option linter.unusedSimpArgs false

/-- The names and the columns behind a step of the program's; what it tells. -/
def doR (sig : Nat) (sz : Nat → Nat) (ids : List IdZ) (col : Nat → List (List UInt8)) (x : StZ) : (List IdZ × (Nat → List (List UInt8))) × TlZ :=
  if x.do_ = 1 then ((ids, setK ids.length sig sz col x.row x.comp x.data), errT (setC ids.length sig sz x.row x.comp x.data))
  else if x.do_ = 2 then ((ids, col), ⟨getT ids.length sig col x.row x.comp, [], ⟨0, 0⟩, false, colC ids.length sig x.row x.comp⟩)
  else if x.do_ = 3 then ((ids, col), ⟨[], if rowC ids.length x.row = 0 then rowT sig col x.row.toNat else [], ⟨0, 0⟩, false, rowC ids.length x.row⟩)
  else if x.do_ = 4 then ((dropI ids x.row, dropK ids.length sig col x.row), ⟨[], [], (movedT ids x.row).1, (movedT ids x.row).2, rowC ids.length x.row⟩)
  else ((addI sig sz ids x.id x.parts, addK ids.length sig sz col x.parts), errT (addC ids.length sig sz x.parts))
theorem getD_take_set {α : Type} (d : α) (l : List α) (r m i : Nat) (x : α) (hr : r < l.length) (hi : i < m) (hm : m ≤ l.length) : ((l.set r x).take m).getD i d = if i = r then x else l.getD i d := by
  rw [List.getD_eq_getElem?_getD, List.getElem?_take_of_lt hi]
  by_cases e : i = r
  · subst e; rw [if_pos rfl, List.getElem?_set_self hr]; rfl
  · rw [if_neg e, List.getElem?_set_ne (Ne.symm e), List.getD_eq_getElem?_getD]
theorem getElem_take_set {α : Type} (l : List α) (r m i : Nat) (x : α) (hr : r < l.length) (hi : i < m) : ((l.set r x).take m)[i]? = if i = r then some x else l[i]? := by
  rw [List.getElem?_take_of_lt hi]
  by_cases e : i = r
  · subst e; rw [if_pos rfl, List.getElem?_set_self hr]
  · rw [if_neg e, List.getElem?_set_ne (Ne.symm e)]
theorem getD_snoc {α : Type} (d : α) (l : List α) (x : α) (i : Nat) (hi : i < l.length + 1) : (l ++ [x]).getD i d = if i < l.length then l.getD i d else x := by
  rw [List.getD_eq_getElem?_getD, List.getD_eq_getElem?_getD]
  by_cases e : i < l.length
  · rw [if_pos e, List.getElem?_append_left e]
  · rw [if_neg e, List.getElem?_append_right (by omega), show i - l.length = 0 by omega]; rfl
section
variable {sig : Nat} {sz : Nat → Nat} {ids : List IdZ} {col : Nat → List (List UInt8)}
theorem rowT_congr {col2 : Nat → List (List UInt8)} {i k : Nat} (h : ∀ c, c ∈ bl sig 64 → (col c).getD i [] = (col2 c).getD k []) : rowT sig col i = rowT sig col2 k := by
  unfold rowT
  exact List.map_congr_left fun c hc => by rw [h c hc]
theorem law_add (hl : ∀ c, c ∈ bl sig 64 → (col c).length = ids.length) (x : StZ) : addRL (bl sig 64) sz (rowsT sig ids col) x = rowsT sig (addI sig sz ids x.id x.parts) (addK ids.length sig sz col x.parts) ∧ addCL (bl sig 64) (rowsT sig ids col).length sz x.parts = addC ids.length sig sz x.parts ∧ ∀ c, c ∈ bl sig 64 → (addK ids.length sig sz col x.parts c).length = (addI sig sz ids x.id x.parts).length := by
  have e0 : addCL (bl sig 64) (rowsT sig ids col).length sz x.parts = addC ids.length sig sz x.parts := by
    rw [rowsT_len]
    unfold addCL addC addOkL addOk
    with_reducible rfl
  refine ⟨?_, e0, ?_⟩
  · unfold addRL addI addK
    rw [e0]
    by_cases h : addC ids.length sig sz x.parts = 0
    · rw [if_pos h, if_pos h, if_pos h]
      refine rowsT_ext (by rw [List.length_append, rowsT_len, List.length_append]; simp) fun i hi => ?_
      rw [List.length_append, List.length_singleton] at hi
      rw [getD_snoc _ _ _ _ hi]
      by_cases e : i < ids.length
      · rw [if_pos e, List.getElem?_append_left (by rw [rowsT_len]; exact e), rowsT_at, if_pos e]
        refine congrArg (fun z => some (EnZ.mk _ z)) (rowT_congr fun c hc => ?_)
        unfold colA
        rw [if_pos hc, getD_snoc _ _ _ _ (by rw [hl c hc]; exact hi), if_pos (by rw [hl c hc]; exact e)]
      · obtain rfl : i = ids.length := by omega
        rw [if_neg e, List.getElem?_append_right (by rw [rowsT_len]; omega), rowsT_len, Nat.sub_self, List.getElem?_cons_zero]
        refine congrArg (fun z => some (EnZ.mk _ z)) ?_
        unfold rowT
        refine List.map_congr_left fun c hc => ?_
        unfold colA
        rw [if_pos hc, getD_snoc _ _ _ _ (by rw [hl c hc]; exact hi), if_neg (by rw [hl c hc]; exact e)]
    · rw [if_neg h, if_neg h, if_neg h]
  · intro c hc
    unfold addI addK
    by_cases h : addC ids.length sig sz x.parts = 0
    · rw [if_pos h, if_pos h]
      unfold colA
      rw [if_pos hc, List.length_append, List.length_append, hl c hc]; rfl
    · rw [if_neg h, if_neg h]; exact hl c hc
theorem rowC_zero {n : Nat} {row : Int} (h : ¬ (row < 0 ∨ (n : Int) ≤ row)) : rowC n row = 0 := by unfold rowC; rw [if_neg h]
theorem law_drop (hl : ∀ c, c ∈ bl sig 64 → (col c).length = ids.length) (row : Int) (hr : ¬ (row < 0 ∨ (ids.length : Int) ≤ row)) : dropE (rowsT sig ids col) row.toNat = rowsT sig (dropI ids row) (dropK ids.length sig col row) ∧ dropT (rowsT sig ids col) row.toNat = ⟨[], [], (movedT ids row).1, (movedT ids row).2, rowC ids.length row⟩ ∧ ∀ c, c ∈ bl sig 64 → (dropK ids.length sig col row c).length = (dropI ids row).length := by
  obtain ⟨r, rfl, hrn⟩ : ∃ r : Nat, row = (r : Int) ∧ r < ids.length := ⟨row.toNat, by omega, by omega⟩
  have h0 := rowC_zero hr
  have hlen : (rowsT sig ids col).length = ids.length := rowsT_len
  have hll : (dropL ids r).length = ids.length - 1 := by unfold dropL; rw [List.length_take, List.length_set]; omega
  rw [Int.toNat_natCast]
  refine ⟨?_, ?_, ?_⟩
  · unfold dropI
    rw [if_pos h0, Int.toNat_natCast]
    refine rowsT_ext (by rw [hll]; unfold dropE; rw [List.length_take, List.length_set, hlen]; omega) fun i hi => ?_
    rw [hll] at hi
    unfold dropE
    rw [hlen, getElem_take_set _ _ _ _ _ (by rw [hlen]; exact hrn) hi, rowsT_getD (by omega)]
    unfold dropL
    rw [getD_take_set _ _ _ _ _ _ hrn hi (by omega)]
    by_cases e : i = r
    · rw [if_pos e, if_pos e]
      refine congrArg (fun z => some (EnZ.mk _ z)) (rowT_congr fun c hc => ?_)
      unfold dropK dropR
      rw [if_pos ⟨h0, hc⟩, Int.toNat_natCast, hl c hc, getD_take_set _ _ _ _ _ _ (by rw [hl c hc]; exact hrn) hi (by rw [hl c hc]; omega), if_pos e]
    · rw [if_neg e, if_neg e, rowsT_at, if_pos (by omega)]
      refine congrArg (fun z => some (EnZ.mk _ z)) (rowT_congr fun c hc => ?_)
      unfold dropK dropR
      rw [if_pos ⟨h0, hc⟩, Int.toNat_natCast, hl c hc, getD_take_set _ _ _ _ _ _ (by rw [hl c hc]; exact hrn) hi (by rw [hl c hc]; omega), if_neg e]
  · unfold dropT movedT
    rw [hlen, Int.toNat_natCast, rowsT_getD (by omega), h0]
    by_cases e : r = ids.length - 1
    · rw [if_pos e, if_neg (fun h => h.2 e)]; rfl
    · rw [if_neg e, if_pos ⟨rfl, e⟩]
  · intro c hc
    unfold dropI dropK dropR
    rw [if_pos h0, if_pos ⟨h0, hc⟩, Int.toNat_natCast, hll, List.length_take, List.length_set, hl c hc]
    omega
theorem ixL_mem {L : List Nat} {k : Int} : ixL L k < L.length ↔ 0 ≤ k ∧ k.toNat ∈ L := by
  unfold ixL
  rw [List.findIdx_lt_length]
  constructor
  · rintro ⟨c, hc, h⟩
    have h := of_decide_eq_true h
    subst h
    exact ⟨by omega, by simpa using hc⟩
  · rintro ⟨h1, h2⟩
    exact ⟨k.toNat, h2, decide_eq_true (by omega)⟩
theorem ixL_hasK {k : Int} : hasK sig k = decide (ixL (bl sig 64) k < (bl sig 64).length) := by
  unfold hasK
  by_cases h : ixL (bl sig 64) k < (bl sig 64).length
  · rw [decide_eq_true h, decide_eq_true (ixL_mem.1 h)]
  · rw [decide_eq_false h, decide_eq_false (fun e => h (ixL_mem.2 e))]
/-- Its part at a component. -/
theorem rowT_at {k : Int} (h : ixL (bl sig 64) k < (bl sig 64).length) (i : Nat) : (rowT sig col i).getD (ixL (bl sig 64) k) default = ⟨k, (col k.toNat).getD i []⟩ := by
  have hk := ixL_at h
  have e : (bl sig 64)[ixL (bl sig 64) k]? = some ((bl sig 64).getD (ixL (bl sig 64) k) 0) := by rw [List.getD_eq_getElem?_getD, List.getElem?_eq_getElem h]; rfl
  unfold rowT
  rw [List.getD_eq_getElem?_getD, List.getElem?_map, e]
  show PtZ.mk _ _ = _
  rw [hk, show ((bl sig 64).getD (ixL (bl sig 64) k) 0) = k.toNat by omega]
theorem map_set_nodup {α : Type} (f g : Nat → α) (y : α) (L : List Nat) (hn : L.Nodup) (j : Nat) (hj : j < L.length) (hg : ∀ c, c ∈ L → c ≠ L.getD j 0 → g c = f c) (hy : g (L.getD j 0) = y) : (L.map f).set j y = L.map g := by
  apply List.ext_getElem?
  intro i
  have hjj : L.getD j 0 = L[j] := by rw [List.getD_eq_getElem?_getD, List.getElem?_eq_getElem hj]; rfl
  by_cases e : i = j
  · subst e
    rw [List.getElem?_set_self (by rw [List.length_map]; exact hj), List.getElem?_map, List.getElem?_eq_getElem hj]
    show some y = some (g L[i])
    rw [← hjj, hy]
  · rw [List.getElem?_set_ne (Ne.symm e), List.getElem?_map, List.getElem?_map]
    by_cases hi : i < L.length
    · rw [List.getElem?_eq_getElem hi]
      show some (f L[i]) = some (g L[i])
      rw [hg _ (List.getElem_mem hi) (fun e2 => e ((List.getElem_inj hn).1 (e2.trans hjj)))]
    · rw [List.getElem?_eq_none (by omega)]; rfl
theorem law_set (hl : ∀ c, c ∈ bl sig 64 → (col c).length = ids.length) (row k : Int) (l : List UInt8) (hr : ¬ (row < 0 ∨ (ids.length : Int) ≤ row)) (hk : ixL (bl sig 64) k < (bl sig 64).length) (hz : l.length = sz k.toNat) :
    (rowsT sig ids col).set row.toNat ⟨ids.getD row.toNat default, (rowT sig col row.toNat).set (ixL (bl sig 64) k) ⟨k, l⟩⟩ = rowsT sig ids (setK ids.length sig sz col row k l) ∧ setC ids.length sig sz row k l = 0 := by
  obtain ⟨r, rfl, hrn⟩ : ∃ r : Nat, row = (r : Int) ∧ r < ids.length := ⟨row.toNat, by omega, by omega⟩
  have h0 := rowC_zero hr
  have hc0 : colC ids.length sig (r : Int) k = 0 := by
    unfold colC
    rw [if_neg (fun e => e h0), ixL_hasK, decide_eq_true hk, if_pos rfl]
  have hs0 : setC ids.length sig sz (r : Int) k l = 0 := by
    unfold setC
    rw [if_neg (fun e => e hc0), if_neg (fun e => e hz)]
  refine ⟨?_, hs0⟩
  rw [Int.toNat_natCast]
  refine rowsT_ext (by rw [List.length_set, rowsT_len]) fun i hi => ?_
  have hka := ixL_at hk
  by_cases e : i = r
  · subst e
    rw [List.getElem?_set_self (by rw [rowsT_len]; exact hrn)]
    refine congrArg (fun z => some (EnZ.mk _ z)) ?_
    unfold rowT
    refine map_set_nodup _ _ _ _ (bl_nodup sig 64) _ hk (fun c hc hne => ?_) ?_
    · unfold setK
      rw [if_neg (fun e => hne (by have := e.2; omega))]
    · rw [hka]
      refine congrArg (PtZ.mk k) ?_
      unfold setK
      rw [show (bl sig 64).getD (ixL (bl sig 64) k) 0 = k.toNat by omega, if_pos ⟨hs0, rfl⟩, Int.toNat_natCast, List.getD_eq_getElem?_getD, List.getElem?_set_self (by rw [hl _ (ixL_mem.1 hk).2]; exact hrn)]
      rfl
  · rw [List.getElem?_set_ne (Ne.symm e), rowsT_at, if_pos hi]
    refine congrArg (fun z => some (EnZ.mk _ z)) (rowT_congr fun c hc => ?_)
    unfold setK
    by_cases e2 : setC ids.length sig sz (r : Int) k l = 0 ∧ c = k.toNat
    · rw [if_pos e2, Int.toNat_natCast, List.getD_eq_getElem?_getD, List.getD_eq_getElem?_getD, List.getElem?_set_ne (Ne.symm e)]
    · rw [if_neg e2]
theorem setK_len (hl : ∀ c, c ∈ bl sig 64 → (col c).length = ids.length) (row k : Int) (l : List UInt8) : ∀ c, c ∈ bl sig 64 → (setK ids.length sig sz col row k l c).length = ids.length := fun c hc => by
  unfold setK
  split
  · rw [List.length_set]; exact hl c hc
  · exact hl c hc
theorem setK_no {row k : Int} {l : List UInt8} (h : setC ids.length sig sz row k l ≠ 0) : setK ids.length sig sz col row k l = col := by
  funext d
  unfold setK
  rw [if_neg (fun e => h e.1)]
theorem dropI_no {row : Int} (h : rowC ids.length row ≠ 0) : dropI ids row = ids ∧ dropK ids.length sig col row = col ∧ movedT ids row = (zeroId, false) := by
  refine ⟨by unfold dropI; rw [if_neg h], ?_, by unfold movedT; rw [if_neg (fun e => h e.1)]⟩
  funext d
  unfold dropK
  rw [if_neg (fun e => h e.1)]
/-- The plain law. -/
theorem do_law (hl : ∀ c, c ∈ bl sig 64 → (col c).length = ids.length) (x : StZ) :
    goR (bl sig 64) sz (rowsT sig ids col) x = (rowsT sig (doR sig sz ids col x).1.1 (doR sig sz ids col x).1.2, (doR sig sz ids col x).2) ∧ ∀ c, c ∈ bl sig 64 → ((doR sig sz ids col x).1.2 c).length = (doR sig sz ids col x).1.1.length := by
  unfold goR doR
  have hlen : (rowsT sig ids col).length = ids.length := rowsT_len
  by_cases h1 : x.do_ < 1 ∨ 4 < x.do_
  · rw [if_pos h1, if_neg (by omega), if_neg (by omega), if_neg (by omega), if_neg (by omega)]
    obtain ⟨a1, a2, a3⟩ := law_add (sz := sz) hl x
    rw [a1, a2]
    (dsimp only; exact ⟨by with_reducible rfl, a3⟩)
  rw [if_neg h1, hlen]
  by_cases h2 : x.row < 0 ∨ (ids.length : Int) ≤ x.row
  · have hr2 : rowC ids.length x.row = 2 := by unfold rowC; rw [if_pos h2]
    have hc2 : colC ids.length sig x.row x.comp = 2 := by unfold colC; rw [hr2]; rfl
    have hs2 : setC ids.length sig sz x.row x.comp x.data = 2 := by unfold setC; rw [hc2]; rfl
    have hk2 : setK ids.length sig sz col x.row x.comp x.data = col := setK_no (by rw [hs2]; decide)
    obtain ⟨d1, d2, d3⟩ := dropI_no (sig := sig) (ids := ids) (col := col) (row := x.row) (by rw [hr2]; decide)
    have hg2 : getT ids.length sig col x.row x.comp = [] := by unfold getT; rw [hc2]; rfl
    rw [if_pos h2, hr2, hc2, hs2, hk2, d1, d2, d3, hg2]
    by_cases g1 : x.do_ = 1
    · rw [if_pos g1]; (dsimp only; exact ⟨by simp [errT, zeroId], hl⟩)
    rw [if_neg g1]
    by_cases g2 : x.do_ = 2
    · rw [if_pos g2]; (dsimp only; exact ⟨by simp [errT, zeroId], hl⟩)
    rw [if_neg g2]
    by_cases g3 : x.do_ = 3
    · rw [if_pos g3]; (dsimp only; exact ⟨by simp [errT, zeroId], hl⟩)
    rw [if_neg g3, if_pos (by omega)]; (dsimp only; exact ⟨by simp [errT, zeroId], hl⟩)
  rw [if_neg h2]
  have h0 := rowC_zero h2
  have hrd : (rowsT sig ids col).getD x.row.toNat default = ⟨ids.getD x.row.toNat default, rowT sig col x.row.toNat⟩ := rowsT_getD (by omega)
  rw [hrd]
  by_cases h3 : x.do_ = 3
  · rw [if_pos h3, if_neg (by omega), if_neg (by omega), if_pos h3, h0]
    (dsimp only; exact ⟨by simp [errT, zeroId], hl⟩)
  rw [if_neg h3]
  by_cases h4 : x.do_ = 4
  · rw [if_pos h4, if_neg (by omega), if_neg (by omega), if_neg (by omega), if_pos h4]
    obtain ⟨a1, a2, a3⟩ := law_drop hl x.row h2
    rw [a1, a2]
    (dsimp only; exact ⟨by with_reducible rfl, a3⟩)
  rw [if_neg h4]
  by_cases h5 : ixL (bl sig 64) x.comp < (bl sig 64).length
  · have hc0 : colC ids.length sig x.row x.comp = 0 := by
      unfold colC
      rw [if_neg (fun e => e h0), ixL_hasK, decide_eq_true h5, if_pos rfl]
    rw [if_neg (fun e => e h5)]
    by_cases h6 : x.do_ = 2
    · rw [if_pos h6, if_neg (by omega), if_pos h6, hc0]
      refine ⟨?_, hl⟩
      dsimp only
      rw [rowT_at h5]
      unfold getT
      rw [hc0, if_pos rfl]
    · have hka := ixL_at h5
      have hgd : (bl sig 64).getD (ixL (bl sig 64) x.comp) 0 = x.comp.toNat := by omega
      rw [if_neg h6, hgd]
      by_cases h7 : x.data.length = sz x.comp.toNat
      · rw [if_neg (fun e => e h7), if_pos (show x.do_ = 1 by omega)]
        obtain ⟨a1, a2⟩ := law_set (sz := sz) hl x.row x.comp x.data h2 h5 h7
        refine ⟨?_, setK_len hl _ _ _⟩
        dsimp only
        rw [rowT_at h5, a1, a2]
      · have hs7 : setC ids.length sig sz x.row x.comp x.data = 7 := by
          unfold setC
          rw [if_neg (fun e => e hc0), if_pos h7]
        rw [if_pos h7, if_pos (show x.do_ = 1 by omega), setK_no (by rw [hs7]; decide), hs7]
        (dsimp only; exact ⟨by simp [errT, zeroId], hl⟩)
  · have hc8 : colC ids.length sig x.row x.comp = 8 := by
      unfold colC
      rw [if_neg (fun e => e h0), ixL_hasK, decide_eq_false h5, if_neg (by decide)]
    have hs8 : setC ids.length sig sz x.row x.comp x.data = 8 := by unfold setC; rw [hc8]; rfl
    have hg8 : getT ids.length sig col x.row x.comp = [] := by unfold getT; rw [hc8]; rfl
    rw [if_pos h5, setK_no (by rw [hs8]; decide), hs8, hc8, hg8]
    by_cases g1 : x.do_ = 1
    · rw [if_pos g1]; (dsimp only; exact ⟨by simp [errT, zeroId], hl⟩)
    rw [if_neg g1, if_pos (by omega)]; (dsimp only; exact ⟨by simp [errT, zeroId], hl⟩)
end
end Go.Proofs.YtglliendhbkkhaaDoor
namespace Go.Proofs.YtglliendhbkkhaaDoor
open Go.RowKit
set_option maxRecDepth 100000
set_option linter.unusedVariables false
set_option linter.unusedSimpArgs false

/-- Behind a step. -/
def DoT (w : World) (Foot : Nat → Prop) (tp sig : Nat) (sz : Nat → Nat) (ids : List IdZ) (col : Nat → List (List UInt8)) (t : TlZ) (e : Ending) (w' : World) : Prop :=
  ∃ v, e = .returned v ∧ TlSt w' (fun b => w.heap.size ≤ b) v t ∧ TbTo w Foot tp sig sz ids col w'
theorem TbTo.from_ {w X w' : World} {Foot : Nat → Prop} {tp sig : Nat} {sz : Nat → Nat} {ids : List IdZ} {col : Nat → List (List UInt8)} (hk : Keep (fun _ => False) w X) (h : TbTo X Foot tp sig sz ids col w') : TbTo w Foot tp sig sz ids col w' := by
  obtain ⟨mb, vs, cp, FC, h1, h2, h3⟩ := h
  exact ⟨mb, vs, cp, FC, h1, (hk.mono (fun _ _ h => h.elim)).trans h2 (fun _ _ h => h), fun k hk' => (h3 k hk').imp_right (fun h => Nat.le_trans hk.size h)⟩
theorem TbTo.then_ {w X w' : World} {Foot : Nat → Prop} {tp sig : Nat} {sz : Nat → Nat} {ids : List IdZ} {col : Nat → List (List UInt8)} (h : TbTo w Foot tp sig sz ids col X) (hk : Keep (fun _ => False) X w') : TbTo w Foot tp sig sz ids col w' := by
  obtain ⟨mb, vs, cp, FC, h1, h2, h3⟩ := h
  exact ⟨mb, vs, cp, FC, h1.same hk, h2.trans hk (fun _ _ h => h.elim), h3⟩
theorem do_end {w X w1 : World} {Foot : Nat → Prop} {tp sig : Nat} {sz : Nat → Nat} {ids : List IdZ} {col : Nat → List (List UInt8)} {t : TlZ} {d0 d1 d2 d3 d4 d5 : Value} (hk : Keep (fun _ => False) w X) (hX : w.heap.size + 2 ≤ X.heap.size) (hF : ∀ k, Foot k → k < w.heap.size)
    (h : TbTo X Foot tp sig sz ids col w1) (ht : TlSt w1 (fun b => X.heap.size ≤ b) (.agg #[d0, d1, d2, d3, d4, d5]) t) : DoT w Foot tp sig sz ids col t (.returned (.agg #[d0, d1, d2, d3, d4, d5])) (set6 w1 (w.heap.size + 1) d0 d1 d2 d3 d4 d5) := by
  have k6 := keep6 w1 (w.heap.size + 1) d0 d1 d2 d3 d4 d5
  obtain ⟨dd, pp, e, t1, t2⟩ := ht
  refine ⟨_, rfl, ⟨dd, pp, e, (By.keep t1 k6 (fun b _ h e => by omega)).mono (fun b _ h => by omega), (t2.keep k6 (fun b _ h e => by omega)).mono (fun b _ h => by omega)⟩, ?_⟩
  obtain ⟨mb, vs, cp, FC, h1, h2, h3⟩ := h
  exact ⟨mb, vs, cp, FC, h1.keep k6 (fun k hk' e => by rcases h3 k hk' with q | q; · have := hF k q; omega
                                                       · omega), ((hk.mono (T := Foot) (fun _ _ h => h.elim)).trans h2 (fun _ _ h => h)).trans k6 (fun b hb e => by omega), fun k hk' => (h3 k hk').imp_right (fun h => by omega)⟩
theorem DoT.drew {w w' : World} {Foot : Nat → Prop} {tp sig : Nat} {sz : Nat → Nat} {ids : List IdZ} {col : Nat → List (List UInt8)} {t : TlZ} {e : Ending} (h : DoT w Foot tp sig sz ids col t e w') : DoT w Foot tp sig sz ids col t e w'.drew := by
  obtain ⟨v, e, h1, h2⟩ := h
  exact ⟨v, e, h1.same (Keep.refl _ _).drew, h2.then_ (Keep.refl _ _).drew⟩
end Go.Proofs.YtglliendhbkkhaaDoor

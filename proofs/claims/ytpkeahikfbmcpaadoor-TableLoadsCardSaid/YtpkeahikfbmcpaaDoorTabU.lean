/- vivariumref09.Go, whatever the step. -/
import Derived.Test.YtpkeahikfbmcpaaDoorTabO
namespace Go.Proofs.YtpkeahikfbmcpaaDoor
open Go.RowKit
set_option maxRecDepth 100000
set_option linter.unusedVariables false
set_option linter.unusedSimpArgs false

/-- Where a component stands. -/
def ixL (L : List Nat) (k : Int) : Nat := L.findIdx fun (c : Nat) => decide ((c : Int) = k)
/-- The rows behind a step, and what it tells. -/
def goR (L : List Nat) (sz : Nat → Nat) (rows : List EnZ) (x : StZ) : List EnZ × TlZ :=
  if x.do_ < 1 ∨ 4 < x.do_ then (addRL L sz rows x, errT (addCL L rows.length sz x.parts))
  else if x.row < 0 ∨ (rows.length : Int) ≤ x.row then (rows, errT 2)
  else if x.do_ = 3 then (rows, ⟨[], (rows.getD x.row.toNat default).parts, ⟨0, 0⟩, false, 0⟩)
  else if x.do_ = 4 then (dropE rows x.row.toNat, dropT rows x.row.toNat)
  else if ¬ ixL L x.comp < L.length then (rows, errT 8)
  else if x.do_ = 2 then (rows, ⟨((rows.getD x.row.toNat default).parts.getD (ixL L x.comp) default).data, [], ⟨0, 0⟩, false, 0⟩)
  else if x.data.length ≠ sz (L.getD (ixL L x.comp) 0) then (rows, errT 7)
  else (rows.set x.row.toNat ⟨(rows.getD x.row.toNat default).id, (rows.getD x.row.toNat default).parts.set (ixL L x.comp) ⟨((rows.getD x.row.toNat default).parts.getD (ixL L x.comp) default).comp, x.data⟩⟩, errT 0)
theorem ixL_at {L : List Nat} {k : Int} (h : ixL L k < L.length) : ((L.getD (ixL L k) 0 : Nat) : Int) = k := by
  have := List.findIdx_getElem (w := h) (xs := L) (p := fun (c : Nat) => decide ((c : Int) = k))
  rw [List.getD_eq_getElem?_getD, List.getElem?_eq_getElem h]
  exact of_decide_eq_true this
theorem ixL_lt {L : List Nat} {k : Int} {j : Nat} (h : j < ixL L k) : ((L.getD j 0 : Nat) : Int) ≠ k := by
  have hl : j < L.length := Nat.lt_of_lt_of_le h List.findIdx_le_length
  have := List.not_of_lt_findIdx (xs := L) (p := fun (c : Nat) => decide ((c : Int) = k)) h
  rw [List.getD_eq_getElem?_getD, List.getElem?_eq_getElem hl]
  simpa using this
section
variable {w : World} {F : Nat → Prop} {u : Value} {L : List Nat} {sz : Nat → Nat} {rows : List EnZ}
theorem rgo_any (h : RT w F u L sz rows) (x : StZ) (p d : Value) (hp : NS parN w F p x.parts) (hd : By w F d x.data) (hP : x.parts.length ≤ 1000) (hm64 : L.length ≤ 64) (h64 : ∀ c ∈ L, c < 64 ∧ sz c ≤ 64) (h24 : rows.length ≤ 1024) (hrows : ∀ y ∈ rows, y.parts.length = L.length) :
    Calls Tryd.prog 12 #[u, stV x p d] w (GoPost w F L sz (goR L sz rows x).1 (goR L sz rows x).2) := by
  unfold goR
  by_cases h1 : x.do_ < 1 ∨ 4 < x.do_
  · rw [if_pos h1]
    exact rgo_add h x p d hp hd hP hm64 h64 h24 h1
  rw [if_neg h1]
  by_cases h2 : x.row < 0 ∨ (rows.length : Int) ≤ x.row
  · rw [if_pos h2]
    exact rgo_range h x p d hp hd (by omega) h2
  rw [if_neg h2]
  obtain ⟨r, hr⟩ : ∃ r : Nat, x.row = (r : Int) := ⟨x.row.toNat, by omega⟩
  have hrn : r < rows.length := by omega
  have hrt : x.row.toNat = r := by omega
  obtain ⟨y, hy⟩ : ∃ y, rows[r]? = some y := ⟨_, List.getElem?_eq_getElem hrn⟩
  have hyd : rows.getD r default = y := by rw [List.getD_eq_getElem?_getD, hy]; rfl
  rw [hrt, hyd]
  by_cases h3 : x.do_ = 3
  · rw [if_pos h3]
    exact rgo_parts h x p d hp hd h3 r y hr hy
  rw [if_neg h3]
  by_cases h4 : x.do_ = 4
  · rw [if_pos h4]
    exact rgo_drop h x p d hp hd h4 h24 r hr hrn
  rw [if_neg h4]
  by_cases h5 : ixL L x.comp < L.length
  · rw [if_neg (fun e => e h5)]
    have hyl : y.parts.length = L.length := hrows y (List.mem_of_getElem? hy)
    by_cases h6 : x.do_ = 2
    · rw [if_pos h6]
      exact rgo_get h x p d hp hd h6 h24 hm64 (fun c hc => (h64 c hc).2) r y hr hy hyl _ h5 (ixL_at h5) (fun j hj => ixL_lt hj)
    · rw [if_neg h6]
      by_cases h7 : x.data.length = sz (L.getD (ixL L x.comp) 0)
      · rw [if_neg (fun e => e h7)]
        exact rgo_set h x p d hp hd (by omega) h24 hm64 (fun c hc => (h64 c hc).2) r y hr hy hyl _ h5 (ixL_at h5) (fun j hj => ixL_lt hj) h7
      · rw [if_pos h7]
        exact rgo_size h x p d hp hd (by omega) h24 hm64 (fun c hc => (h64 c hc).2) r y hr hy hyl _ h5 (ixL_at h5) (fun j hj => ixL_lt hj) h7
  · rw [if_pos h5]
    exact rgo_lacks h x p d hp hd (by omega) h24 r hr hrn (fun j hj => ixL_lt (by omega))
end
/-- The rows that a table has. -/
def rowsT (sig : Nat) (ids : List IdZ) (col : Nat → List (List UInt8)) : List EnZ := (List.range ids.length).map fun i => ⟨ids.getD i default, rowT sig col i⟩
section
variable {sig : Nat} {sz : Nat → Nat} {ids : List IdZ} {col : Nat → List (List UInt8)}
theorem rowsT_len : (rowsT sig ids col).length = ids.length := by simp [rowsT]
theorem rowsT_at (i : Nat) : (rowsT sig ids col)[i]? = if i < ids.length then some ⟨ids.getD i default, rowT sig col i⟩ else none := by
  unfold rowsT
  rw [List.getElem?_map]
  by_cases h : i < ids.length
  · rw [if_pos h, List.getElem?_range h]; rfl
  · rw [if_neg h, List.getElem?_eq_none (by simpa using h)]; rfl
theorem rowsT_getD {i : Nat} (h : i < ids.length) : (rowsT sig ids col).getD i default = ⟨ids.getD i default, rowT sig col i⟩ := by
  rw [List.getD_eq_getElem?_getD, rowsT_at, if_pos h]; rfl
theorem rowT_len (i : Nat) : (rowT sig col i).length = (bl sig 64).length := by simp [rowT]
theorem rowsT_parts {m : Nat} (hm : (bl sig 64).length = m) (y : EnZ) (hy : y ∈ rowsT sig ids col) : y.parts.length = m := by
  unfold rowsT at hy
  have h2 := List.mem_map.1 hy
  clear hy
  cases h2 with
  | intro i h =>
    have e := h.2
    subst e
    have := rowT_len (sig := sig) (col := col) i
    rw [hm] at this
    dsimp only
    exact this
theorem rowsT_ext {ids2 : List IdZ} {col2 : Nat → List (List UInt8)} {R : List EnZ} (hl : R.length = ids2.length) (h : ∀ i, i < ids2.length → R[i]? = some ⟨ids2.getD i default, rowT sig col2 i⟩) : R = rowsT sig ids2 col2 := by
  apply List.ext_getElem?
  intro i
  rw [rowsT_at]
  by_cases hi : i < ids2.length
  · rw [if_pos hi, h i hi]
  · rw [if_neg hi, List.getElem?_eq_none (by omega)]
end
end Go.Proofs.YtpkeahikfbmcpaaDoor
namespace Go.Proofs.YtpkeahikfbmcpaaDoor
open Go.RowKit
set_option maxRecDepth 100000
set_option linter.unusedVariables false
set_option linter.unusedSimpArgs false

/-- The names and the columns behind a step of the program's; what it tells. -/
def doR (sig : Nat) (sz : Nat → Nat) (ids : List IdZ) (col : Nat → List (List UInt8)) (x : StZ) : (List IdZ × (Nat → List (List UInt8))) × TlZ :=
  if x.do_ = 1 then ((ids, setK ids.length sig sz col x.row x.comp x.data), errT (setC ids.length sig sz x.row x.comp x.data))
  else if x.do_ = 2 then ((ids, col), ⟨getT ids.length sig col x.row x.comp, [], ⟨0, 0⟩, false, colC ids.length sig x.row x.comp⟩)
  else if x.do_ = 3 then ((ids, col), ⟨[], if rowC ids.length x.row = 0 then rowT sig col x.row.toNat else [], ⟨0, 0⟩, false, rowC ids.length x.row⟩)
  else if x.do_ = 4 then ((dropI ids x.row, dropK ids.length sig col x.row), ⟨[], [], (movedT ids x.row).1, (movedT ids x.row).2, rowC ids.length x.row⟩)
  else ((addI sig sz ids x.id x.parts, addK ids.length sig sz col x.parts), errT (addC ids.length sig sz x.parts))
theorem getD_take_set {α : Type} (d : α) (l : List α) (r m i : Nat) (x : α) (hr : r < l.length) (hi : i < m) (hm : m ≤ l.length) : ((l.set r x).take m).getD i d = if i = r then x else l.getD i d := by
  rw [List.getD_eq_getElem?_getD, List.getElem?_take_of_lt hi]
  by_cases e : i = r
  · subst e; rw [if_pos rfl, List.getElem?_set_self hr]; rfl
  · rw [if_neg e, List.getElem?_set_ne (Ne.symm e), List.getD_eq_getElem?_getD]
theorem getElem_take_set {α : Type} (l : List α) (r m i : Nat) (x : α) (hr : r < l.length) (hi : i < m) : ((l.set r x).take m)[i]? = if i = r then some x else l[i]? := by
  rw [List.getElem?_take_of_lt hi]
  by_cases e : i = r
  · subst e; rw [if_pos rfl, List.getElem?_set_self hr]
  · rw [if_neg e, List.getElem?_set_ne (Ne.symm e)]
theorem getD_snoc {α : Type} (d : α) (l : List α) (x : α) (i : Nat) (hi : i < l.length + 1) : (l ++ [x]).getD i d = if i < l.length then l.getD i d else x := by
  rw [List.getD_eq_getElem?_getD, List.getD_eq_getElem?_getD]
  by_cases e : i < l.length
  · rw [if_pos e, List.getElem?_append_left e]
  · rw [if_neg e, List.getElem?_append_right (by omega), show i - l.length = 0 by omega]; rfl
section
variable {sig : Nat} {sz : Nat → Nat} {ids : List IdZ} {col : Nat → List (List UInt8)}
theorem rowT_congr {col2 : Nat → List (List UInt8)} {i k : Nat} (h : ∀ c, c ∈ bl sig 64 → (col c).getD i [] = (col2 c).getD k []) : rowT sig col i = rowT sig col2 k := by
  unfold rowT
  exact List.map_congr_left fun c hc => by rw [h c hc]
theorem law_add (hl : ∀ c, c ∈ bl sig 64 → (col c).length = ids.length) (x : StZ) : addRL (bl sig 64) sz (rowsT sig ids col) x = rowsT sig (addI sig sz ids x.id x.parts) (addK ids.length sig sz col x.parts) ∧ addCL (bl sig 64) (rowsT sig ids col).length sz x.parts = addC ids.length sig sz x.parts ∧ ∀ c, c ∈ bl sig 64 → (addK ids.length sig sz col x.parts c).length = (addI sig sz ids x.id x.parts).length := by
  have e0 : addCL (bl sig 64) (rowsT sig ids col).length sz x.parts = addC ids.length sig sz x.parts := by
    rw [rowsT_len]
    unfold addCL addC addOkL addOk
    with_reducible rfl
  refine ⟨?_, e0, ?_⟩
  · unfold addRL addI addK
    rw [e0]
    by_cases h : addC ids.length sig sz x.parts = 0
    · rw [if_pos h, if_pos h, if_pos h]
      refine rowsT_ext (by rw [List.length_append, rowsT_len, List.length_append]; simp) fun i hi => ?_
      rw [List.length_append, List.length_singleton] at hi
      rw [getD_snoc _ _ _ _ hi]
      by_cases e : i < ids.length
      · rw [if_pos e, List.getElem?_append_left (by rw [rowsT_len]; exact e), rowsT_at, if_pos e]
        refine congrArg (fun z => some (EnZ.mk _ z)) (rowT_congr fun c hc => ?_)
        unfold colA
        rw [if_pos hc, getD_snoc _ _ _ _ (by rw [hl c hc]; exact hi), if_pos (by rw [hl c hc]; exact e)]
      · obtain rfl : i = ids.length := by omega
        rw [if_neg e, List.getElem?_append_right (by rw [rowsT_len]; omega), rowsT_len, Nat.sub_self, List.getElem?_cons_zero]
        refine congrArg (fun z => some (EnZ.mk _ z)) ?_
        unfold rowT
        refine List.map_congr_left fun c hc => ?_
        unfold colA
        rw [if_pos hc, getD_snoc _ _ _ _ (by rw [hl c hc]; exact hi), if_neg (by rw [hl c hc]; exact e)]
    · rw [if_neg h, if_neg h, if_neg h]
  · intro c hc
    unfold addI addK
    by_cases h : addC ids.length sig sz x.parts = 0
    · rw [if_pos h, if_pos h]
      unfold colA
      rw [if_pos hc, List.length_append, List.length_append, hl c hc]; rfl
    · rw [if_neg h, if_neg h]; exact hl c hc
theorem rowC_zero {n : Nat} {row : Int} (h : ¬ (row < 0 ∨ (n : Int) ≤ row)) : rowC n row = 0 := by unfold rowC; rw [if_neg h]
theorem law_drop (hl : ∀ c, c ∈ bl sig 64 → (col c).length = ids.length) (row : Int) (hr : ¬ (row < 0 ∨ (ids.length : Int) ≤ row)) : dropE (rowsT sig ids col) row.toNat = rowsT sig (dropI ids row) (dropK ids.length sig col row) ∧ dropT (rowsT sig ids col) row.toNat = ⟨[], [], (movedT ids row).1, (movedT ids row).2, rowC ids.length row⟩ ∧ ∀ c, c ∈ bl sig 64 → (dropK ids.length sig col row c).length = (dropI ids row).length := by
  obtain ⟨r, rfl, hrn⟩ : ∃ r : Nat, row = (r : Int) ∧ r < ids.length := ⟨row.toNat, by omega, by omega⟩
  have h0 := rowC_zero hr
  have hlen : (rowsT sig ids col).length = ids.length := rowsT_len
  have hll : (dropL ids r).length = ids.length - 1 := by unfold dropL; rw [List.length_take, List.length_set]; omega
  rw [Int.toNat_natCast]
  refine ⟨?_, ?_, ?_⟩
  · unfold dropI
    rw [if_pos h0, Int.toNat_natCast]
    refine rowsT_ext (by rw [hll]; unfold dropE; rw [List.length_take, List.length_set, hlen]; omega) fun i hi => ?_
    rw [hll] at hi
    unfold dropE
    rw [hlen, getElem_take_set _ _ _ _ _ (by rw [hlen]; exact hrn) hi, rowsT_getD (by omega)]
    unfold dropL
    rw [getD_take_set _ _ _ _ _ _ hrn hi (by omega)]
    by_cases e : i = r
    · rw [if_pos e, if_pos e]
      refine congrArg (fun z => some (EnZ.mk _ z)) (rowT_congr fun c hc => ?_)
      unfold dropK dropR
      rw [if_pos ⟨h0, hc⟩, Int.toNat_natCast, hl c hc, getD_take_set _ _ _ _ _ _ (by rw [hl c hc]; exact hrn) hi (by rw [hl c hc]; omega), if_pos e]
    · rw [if_neg e, if_neg e, rowsT_at, if_pos (by omega)]
      refine congrArg (fun z => some (EnZ.mk _ z)) (rowT_congr fun c hc => ?_)
      unfold dropK dropR
      rw [if_pos ⟨h0, hc⟩, Int.toNat_natCast, hl c hc, getD_take_set _ _ _ _ _ _ (by rw [hl c hc]; exact hrn) hi (by rw [hl c hc]; omega), if_neg e]
  · unfold dropT movedT
    rw [hlen, Int.toNat_natCast, rowsT_getD (by omega), h0]
    by_cases e : r = ids.length - 1
    · rw [if_pos e, if_neg (fun h => h.2 e)]; rfl
    · rw [if_neg e, if_pos ⟨rfl, e⟩]
  · intro c hc
    unfold dropI dropK dropR
    rw [if_pos h0, if_pos ⟨h0, hc⟩, Int.toNat_natCast, hll, List.length_take, List.length_set, hl c hc]
    omega
theorem ixL_mem {L : List Nat} {k : Int} : ixL L k < L.length ↔ 0 ≤ k ∧ k.toNat ∈ L := by
  unfold ixL
  rw [List.findIdx_lt_length]
  constructor
  · rintro ⟨c, hc, h⟩
    have h := of_decide_eq_true h
    subst h
    exact ⟨by omega, by simpa using hc⟩
  · rintro ⟨h1, h2⟩
    exact ⟨k.toNat, h2, decide_eq_true (by omega)⟩
theorem ixL_hasK {k : Int} : hasK sig k = decide (ixL (bl sig 64) k < (bl sig 64).length) := by
  unfold hasK
  by_cases h : ixL (bl sig 64) k < (bl sig 64).length
  · rw [decide_eq_true h, decide_eq_true (ixL_mem.1 h)]
  · rw [decide_eq_false h, decide_eq_false (fun e => h (ixL_mem.2 e))]
/-- Its part at a component. -/
theorem rowT_at {k : Int} (h : ixL (bl sig 64) k < (bl sig 64).length) (i : Nat) : (rowT sig col i).getD (ixL (bl sig 64) k) default = ⟨k, (col k.toNat).getD i []⟩ := by
  have hk := ixL_at h
  have e : (bl sig 64)[ixL (bl sig 64) k]? = some ((bl sig 64).getD (ixL (bl sig 64) k) 0) := by rw [List.getD_eq_getElem?_getD, List.getElem?_eq_getElem h]; rfl
  unfold rowT
  rw [List.getD_eq_getElem?_getD, List.getElem?_map, e]
  show PtZ.mk _ _ = _
  rw [hk, show ((bl sig 64).getD (ixL (bl sig 64) k) 0) = k.toNat by omega]
theorem map_set_nodup {α : Type} (f g : Nat → α) (y : α) (L : List Nat) (hn : L.Nodup) (j : Nat) (hj : j < L.length) (hg : ∀ c, c ∈ L → c ≠ L.getD j 0 → g c = f c) (hy : g (L.getD j 0) = y) : (L.map f).set j y = L.map g := by
  apply List.ext_getElem?
  intro i
  have hjj : L.getD j 0 = L[j] := by rw [List.getD_eq_getElem?_getD, List.getElem?_eq_getElem hj]; rfl
  by_cases e : i = j
  · subst e
    rw [List.getElem?_set_self (by rw [List.length_map]; exact hj), List.getElem?_map, List.getElem?_eq_getElem hj]
    show some y = some (g L[i])
    rw [← hjj, hy]
  · rw [List.getElem?_set_ne (Ne.symm e), List.getElem?_map, List.getElem?_map]
    by_cases hi : i < L.length
    · rw [List.getElem?_eq_getElem hi]
      show some (f L[i]) = some (g L[i])
      rw [hg _ (List.getElem_mem hi) (fun e2 => e ((List.getElem_inj hn).1 (e2.trans hjj)))]
    · rw [List.getElem?_eq_none (by omega)]; rfl
theorem law_set (hl : ∀ c, c ∈ bl sig 64 → (col c).length = ids.length) (row k : Int) (l : List UInt8) (hr : ¬ (row < 0 ∨ (ids.length : Int) ≤ row)) (hk : ixL (bl sig 64) k < (bl sig 64).length) (hz : l.length = sz k.toNat) :
    (rowsT sig ids col).set row.toNat ⟨ids.getD row.toNat default, (rowT sig col row.toNat).set (ixL (bl sig 64) k) ⟨k, l⟩⟩ = rowsT sig ids (setK ids.length sig sz col row k l) ∧ setC ids.length sig sz row k l = 0 := by
  obtain ⟨r, rfl, hrn⟩ : ∃ r : Nat, row = (r : Int) ∧ r < ids.length := ⟨row.toNat, by omega, by omega⟩
  have h0 := rowC_zero hr
  have hc0 : colC ids.length sig (r : Int) k = 0 := by
    unfold colC
    rw [if_neg (fun e => e h0), ixL_hasK, decide_eq_true hk, if_pos rfl]
  have hs0 : setC ids.length sig sz (r : Int) k l = 0 := by
    unfold setC
    rw [if_neg (fun e => e hc0), if_neg (fun e => e hz)]
  refine ⟨?_, hs0⟩
  rw [Int.toNat_natCast]
  refine rowsT_ext (by rw [List.length_set, rowsT_len]) fun i hi => ?_
  have hka := ixL_at hk
  by_cases e : i = r
  · subst e
    rw [List.getElem?_set_self (by rw [rowsT_len]; exact hrn)]
    refine congrArg (fun z => some (EnZ.mk _ z)) ?_
    unfold rowT
    refine map_set_nodup _ _ _ _ (bl_nodup sig 64) _ hk (fun c hc hne => ?_) ?_
    · unfold setK
      rw [if_neg (fun e => hne (by have := e.2; omega))]
    · rw [hka]
      refine congrArg (PtZ.mk k) ?_
      unfold setK
      rw [show (bl sig 64).getD (ixL (bl sig 64) k) 0 = k.toNat by omega, if_pos ⟨hs0, rfl⟩, Int.toNat_natCast, List.getD_eq_getElem?_getD, List.getElem?_set_self (by rw [hl _ (ixL_mem.1 hk).2]; exact hrn)]
      rfl
  · rw [List.getElem?_set_ne (Ne.symm e), rowsT_at, if_pos hi]
    refine congrArg (fun z => some (EnZ.mk _ z)) (rowT_congr fun c hc => ?_)
    unfold setK
    by_cases e2 : setC ids.length sig sz (r : Int) k l = 0 ∧ c = k.toNat
    · rw [if_pos e2, Int.toNat_natCast, List.getD_eq_getElem?_getD, List.getD_eq_getElem?_getD, List.getElem?_set_ne (Ne.symm e)]
    · rw [if_neg e2]
theorem setK_len (hl : ∀ c, c ∈ bl sig 64 → (col c).length = ids.length) (row k : Int) (l : List UInt8) : ∀ c, c ∈ bl sig 64 → (setK ids.length sig sz col row k l c).length = ids.length := fun c hc => by
  unfold setK
  split
  · rw [List.length_set]; exact hl c hc
  · exact hl c hc
theorem setK_no {row k : Int} {l : List UInt8} (h : setC ids.length sig sz row k l ≠ 0) : setK ids.length sig sz col row k l = col := by
  funext d
  unfold setK
  rw [if_neg (fun e => h e.1)]
theorem dropI_no {row : Int} (h : rowC ids.length row ≠ 0) : dropI ids row = ids ∧ dropK ids.length sig col row = col ∧ movedT ids row = (zeroId, false) := by
  refine ⟨by unfold dropI; rw [if_neg h], ?_, by unfold movedT; rw [if_neg (fun e => h e.1)]⟩
  funext d
  unfold dropK
  rw [if_neg (fun e => h e.1)]
/-- The plain law. -/
theorem do_law (hl : ∀ c, c ∈ bl sig 64 → (col c).length = ids.length) (x : StZ) :
    goR (bl sig 64) sz (rowsT sig ids col) x = (rowsT sig (doR sig sz ids col x).1.1 (doR sig sz ids col x).1.2, (doR sig sz ids col x).2) ∧ ∀ c, c ∈ bl sig 64 → ((doR sig sz ids col x).1.2 c).length = (doR sig sz ids col x).1.1.length := by
  unfold goR doR
  have hlen : (rowsT sig ids col).length = ids.length := rowsT_len
  by_cases h1 : x.do_ < 1 ∨ 4 < x.do_
  · rw [if_pos h1, if_neg (by omega), if_neg (by omega), if_neg (by omega), if_neg (by omega)]
    obtain ⟨a1, a2, a3⟩ := law_add (sz := sz) hl x
    rw [a1, a2]
    (dsimp only; exact ⟨by with_reducible rfl, a3⟩)
  rw [if_neg h1, hlen]
  by_cases h2 : x.row < 0 ∨ (ids.length : Int) ≤ x.row
  · have hr2 : rowC ids.length x.row = 2 := by unfold rowC; rw [if_pos h2]
    have hc2 : colC ids.length sig x.row x.comp = 2 := by unfold colC; rw [hr2]; rfl
    have hs2 : setC ids.length sig sz x.row x.comp x.data = 2 := by unfold setC; rw [hc2]; rfl
    have hk2 : setK ids.length sig sz col x.row x.comp x.data = col := setK_no (by rw [hs2]; decide)
    obtain ⟨d1, d2, d3⟩ := dropI_no (sig := sig) (ids := ids) (col := col) (row := x.row) (by rw [hr2]; decide)
    have hg2 : getT ids.length sig col x.row x.comp = [] := by unfold getT; rw [hc2]; rfl
    rw [if_pos h2, hr2, hc2, hs2, hk2, d1, d2, d3, hg2]
    by_cases g1 : x.do_ = 1
    · rw [if_pos g1]; (dsimp only; exact ⟨by simp [errT, zeroId], hl⟩)
    rw [if_neg g1]
    by_cases g2 : x.do_ = 2
    · rw [if_pos g2]; (dsimp only; exact ⟨by simp [errT, zeroId], hl⟩)
    rw [if_neg g2]
    by_cases g3 : x.do_ = 3
    · rw [if_pos g3]; (dsimp only; exact ⟨by simp [errT, zeroId], hl⟩)
    rw [if_neg g3, if_pos (by omega)]; (dsimp only; exact ⟨by simp [errT, zeroId], hl⟩)
  rw [if_neg h2]
  have h0 := rowC_zero h2
  have hrd : (rowsT sig ids col).getD x.row.toNat default = ⟨ids.getD x.row.toNat default, rowT sig col x.row.toNat⟩ := rowsT_getD (by omega)
  rw [hrd]
  by_cases h3 : x.do_ = 3
  · rw [if_pos h3, if_neg (by omega), if_neg (by omega), if_pos h3, h0]
    (dsimp only; exact ⟨by simp [errT, zeroId], hl⟩)
  rw [if_neg h3]
  by_cases h4 : x.do_ = 4
  · rw [if_pos h4, if_neg (by omega), if_neg (by omega), if_neg (by omega), if_pos h4]
    obtain ⟨a1, a2, a3⟩ := law_drop hl x.row h2
    rw [a1, a2]
    (dsimp only; exact ⟨by with_reducible rfl, a3⟩)
  rw [if_neg h4]
  by_cases h5 : ixL (bl sig 64) x.comp < (bl sig 64).length
  · have hc0 : colC ids.length sig x.row x.comp = 0 := by
      unfold colC
      rw [if_neg (fun e => e h0), ixL_hasK, decide_eq_true h5, if_pos rfl]
    rw [if_neg (fun e => e h5)]
    by_cases h6 : x.do_ = 2
    · rw [if_pos h6, if_neg (by omega), if_pos h6, hc0]
      refine ⟨?_, hl⟩
      dsimp only
      rw [rowT_at h5]
      unfold getT
      rw [hc0, if_pos rfl]
    · have hka := ixL_at h5
      have hgd : (bl sig 64).getD (ixL (bl sig 64) x.comp) 0 = x.comp.toNat := by omega
      rw [if_neg h6, hgd]
      by_cases h7 : x.data.length = sz x.comp.toNat
      · rw [if_neg (fun e => e h7), if_pos (show x.do_ = 1 by omega)]
        obtain ⟨a1, a2⟩ := law_set (sz := sz) hl x.row x.comp x.data h2 h5 h7
        refine ⟨?_, setK_len hl _ _ _⟩
        dsimp only
        rw [rowT_at h5, a1, a2]
      · have hs7 : setC ids.length sig sz x.row x.comp x.data = 7 := by
          unfold setC
          rw [if_neg (fun e => e hc0), if_pos h7]
        rw [if_pos h7, if_pos (show x.do_ = 1 by omega), setK_no (by rw [hs7]; decide), hs7]
        (dsimp only; exact ⟨by simp [errT, zeroId], hl⟩)
  · have hc8 : colC ids.length sig x.row x.comp = 8 := by
      unfold colC
      rw [if_neg (fun e => e h0), ixL_hasK, decide_eq_false h5, if_neg (by decide)]
    have hs8 : setC ids.length sig sz x.row x.comp x.data = 8 := by unfold setC; rw [hc8]; rfl
    have hg8 : getT ids.length sig col x.row x.comp = [] := by unfold getT; rw [hc8]; rfl
    rw [if_pos h5, setK_no (by rw [hs8]; decide), hs8, hc8, hg8]
    by_cases g1 : x.do_ = 1
    · rw [if_pos g1]; (dsimp only; exact ⟨by simp [errT, zeroId], hl⟩)
    rw [if_neg g1, if_pos (by omega)]; (dsimp only; exact ⟨by simp [errT, zeroId], hl⟩)
end
end Go.Proofs.YtpkeahikfbmcpaaDoor
namespace Go.Proofs.YtpkeahikfbmcpaaDoor
open Go.RowKit
set_option maxRecDepth 100000
set_option linter.unusedVariables false
set_option linter.unusedSimpArgs false

theorem code09 (z : Int) (w : World) : Calls Tryd.prog 21 #[.int .i64 z] w fun e w' => e = .returned (.int .i64 z) ∧ w = w' := by
  go_enter Tryd.func21, Tryd.ntmps21
  go_wp2
  go_ret
  exact ⟨rfl, rfl⟩
theorem results_told {fn : Func} {p : Tmp} (h : fn.results = #[.cell p 42]) (tmps : Array Value) (w : World) (g : Nat) (d0 d1 d2 d3 d4 d5 : Value)
    (hp : tmps.getD p undef = .pointer (some ⟨g, 0, none⟩)) (hg : w.heap[g]? = some (.cells #[d0, d1, d2, d3, d4, d5] 42 (0, 0))) : (results fn tmps).run Tryd.prog w = .ok (.agg #[d0, d1, d2, d3, d4, d5]) w := by
  have hr := run_loadVar_row (P := Tryd.prog) w g 42 42 #[d0, d1, d2, d3, d4, d5] (0, 0) _ hg under_told rfl size_told
  have e : (results fn tmps).run Tryd.prog w = ((asAddr (tmps.getD p undef)).run Tryd.prog w).andThen fun a w₁ => (loadVar 42 a).run Tryd.prog w₁ := by
    simp only [results, h]
    simp [Sem.run_bind, Result.andThen]
  rw [e, hp]
  simp [asAddr, hr]
/-- Behind a step. -/
def DoT (w : World) (Foot : Nat → Prop) (tp sig : Nat) (sz : Nat → Nat) (ids : List IdZ) (col : Nat → List (List UInt8)) (t : TlZ) (e : Ending) (w' : World) : Prop :=
  ∃ v, e = .returned v ∧ TlSt w' (fun b => w.heap.size ≤ b) v t ∧ TbTo w Foot tp sig sz ids col w'
theorem TbTo.from_ {w X w' : World} {Foot : Nat → Prop} {tp sig : Nat} {sz : Nat → Nat} {ids : List IdZ} {col : Nat → List (List UInt8)} (hk : Keep (fun _ => False) w X) (h : TbTo X Foot tp sig sz ids col w') : TbTo w Foot tp sig sz ids col w' := by
  obtain ⟨mb, vs, cp, FC, h1, h2, h3⟩ := h
  exact ⟨mb, vs, cp, FC, h1, (hk.mono (fun _ _ h => h.elim)).trans h2 (fun _ _ h => h), fun k hk' => (h3 k hk').imp_right (fun h => Nat.le_trans hk.size h)⟩
theorem TbTo.then_ {w X w' : World} {Foot : Nat → Prop} {tp sig : Nat} {sz : Nat → Nat} {ids : List IdZ} {col : Nat → List (List UInt8)} (h : TbTo w Foot tp sig sz ids col X) (hk : Keep (fun _ => False) X w') : TbTo w Foot tp sig sz ids col w' := by
  obtain ⟨mb, vs, cp, FC, h1, h2, h3⟩ := h
  exact ⟨mb, vs, cp, FC, h1.same hk, h2.trans hk (fun _ _ h => h.elim), h3⟩
theorem do_end {w X w1 : World} {Foot : Nat → Prop} {tp sig : Nat} {sz : Nat → Nat} {ids : List IdZ} {col : Nat → List (List UInt8)} {t : TlZ} {d0 d1 d2 d3 d4 d5 : Value} (hk : Keep (fun _ => False) w X) (hX : w.heap.size + 2 ≤ X.heap.size) (hF : ∀ k, Foot k → k < w.heap.size)
    (h : TbTo X Foot tp sig sz ids col w1) (ht : TlSt w1 (fun b => X.heap.size ≤ b) (.agg #[d0, d1, d2, d3, d4, d5]) t) : DoT w Foot tp sig sz ids col t (.returned (.agg #[d0, d1, d2, d3, d4, d5])) (set6 w1 (w.heap.size + 1) d0 d1 d2 d3 d4 d5) := by
  have k6 := keep6 w1 (w.heap.size + 1) d0 d1 d2 d3 d4 d5
  obtain ⟨dd, pp, e, t1, t2⟩ := ht
  refine ⟨_, rfl, ⟨dd, pp, e, (By.keep t1 k6 (fun b _ h e => by omega)).mono (fun b _ h => by omega), (t2.keep k6 (fun b _ h e => by omega)).mono (fun b _ h => by omega)⟩, ?_⟩
  obtain ⟨mb, vs, cp, FC, h1, h2, h3⟩ := h
  exact ⟨mb, vs, cp, FC, h1.keep k6 (fun k hk' e => by rcases h3 k hk' with q | q; · have := hF k q; omega
                                                       · omega), ((hk.mono (T := Foot) (fun _ _ h => h.elim)).trans h2 (fun _ _ h => h)).trans k6 (fun b hb e => by omega), fun k hk' => (h3 k hk').imp_right (fun h => by omega)⟩
theorem DoT.drew {w w' : World} {Foot : Nat → Prop} {tp sig : Nat} {sz : Nat → Nat} {ids : List IdZ} {col : Nat → List (List UInt8)} {t : TlZ} {e : Ending} (h : DoT w Foot tp sig sz ids col t e w') : DoT w Foot tp sig sz ids col t e w'.drew := by
  obtain ⟨v, e, h1, h2⟩ := h
  exact ⟨v, e, h1.same (Keep.refl _ _).drew, h2.then_ (Keep.refl _ _).drew⟩
set_option maxHeartbeats 1000000 in
theorem tdo_any {w : World} {tp mb : Nat} {vs : Value} {cp : Nat → Nat} {FC : Nat → Nat → Prop} {sig : Nat} {sz : Nat → Nat} {ids : List IdZ} {col : Nat → List (List UInt8)} (h : Tb w tp mb vs cp FC sig sz ids col) (hl : ∀ c, c ∈ bl sig 64 → (col c).length = ids.length) (hT : Tab w)
    (x : StZ) (p d : Value) (F : Nat → Prop) (hp : NS parN w F p x.parts) (hd : By w F d x.data) (hP : x.parts.length ≤ 1000) (hF : ∀ b, F b → ¬ TF tp mb vs FC sig b) (hr : -9223372036854775808 ≤ x.comp ∧ x.comp ≤ 9223372036854775807) :
    Calls Tryd.prog 11 #[.pointer (some ⟨tp, 0, none⟩), stV x p d] w (DoT w (TF tp mb vs FC sig) tp sig sz (doR sig sz ids col x).1.1 (doR sig sz ids col x).1.2 (doR sig sz ids col x).2) := by
  have H := Lib.hid h
  have HL := Lib.hid hl
  have HT := Lib.hid hT
  have HP := Lib.hid (And.intro hp (And.intro hP hF))
  have HD := Lib.hid hd
  have LT := Lib.hid h.lt
  obtain ⟨Ap, cp', rfl, -, -⟩ := hp.form
  obtain ⟨Ad, cd, rfl, -⟩ := hd
  unfold doR stV
  clear h hl hT hp hP
  obtain ⟨do_, id, parts, row, comp, data⟩ := x
  simp only at HP HD hr ⊢
  obtain ⟨q, hq⟩ : ∃ q, parts.length = q := ⟨_, rfl⟩
  rw [hq]
  generalize hnd : data.length = nd at *
  have HQ := Lib.hid hq
  clear hq hnd
  have ENTER : True := trivial
  have BOX : ∀ (X w1 : World) (Foot : Nat → Prop), Keep Foot X w1 → (∀ k, Foot k → k < w.heap.size) → w.heap.size + 2 ≤ X.heap.size → X.heap[w.heap.size + 1]? = some (.cells #[.slice none 0 0, .slice none 0 0, .int .i64 0, .int .i64 0, .bool false, .int .i64 0] 42 (0, 0)) → w1.heap[w.heap.size + 1]? = some (.cells #[.slice none 0 0, .slice none 0 0, .int .i64 0, .int .i64 0, .bool false, .int .i64 0] 42 (0, 0)) := fun X w1 Foot hk hF h2 hb => (hk.block _ (by omega) (fun e => by have := hF _ e; omega)).trans hb
  have BX := Lib.hid BOX
  clear BOX ENTER
  by_cases h1 : do_ = 1
  · subst h1
    rw [if_pos rfl]
    dsimp only
    go_enter Tryd.func11, Tryd.ntmps11
    go_upto_region 1 with fail
    refine wp_world (S := fun W => W.heap[w.heap.size]? = some (.cells #[.int .i64 1, .int .i64 id.ix, .int .i64 id.gen, .slice Ap q cp', .int .i64 row, .int .i64 comp, .slice Ad nd cd] 45 (0, 0)) ∧ W.heap[w.heap.size + 1]? = some (.cells #[.slice none 0 0, .slice none 0 0, .int .i64 0, .int .i64 0, .bool false, .int .i64 0] 42 (0, 0)) ∧ Keep (fun _ => False) w W) ⟨by first | (exact heap_alloc_at _ _ _ (by first | rfl | (simp; done))) | (rw [Below.heap_alloc _ _ _ (by simp)]; exact heap_alloc_at _ _ _ (by first | rfl | (simp; done))) | (rw [heap_drew', Below.heap_alloc _ _ _ (by simp)]; exact heap_alloc_at _ _ _ (by first | rfl | (simp; done))) | (rw [heap_drew']; exact heap_alloc_at _ _ _ (by first | rfl | (simp; done))) | fail, by first | (exact heap_alloc_at _ _ _ (by first | rfl | (simp; done))) | (rw [Below.heap_alloc _ _ _ (by simp)]; exact heap_alloc_at _ _ _ (by first | rfl | (simp; done))) | (rw [heap_drew', Below.heap_alloc _ _ _ (by simp)]; exact heap_alloc_at _ _ _ (by first | rfl | (simp; done))) | (rw [heap_drew']; exact heap_alloc_at _ _ _ (by first | rfl | (simp; done))) | fail, by exact (by repeat first | (with_reducible assumption) | (with_reducible exact Keep.refl _ _) | (with_reducible refine Keep.alloc ?_ _) | (with_reducible refine Keep.drew ?_) | (with_reducible refine Keep.drewN ?_ _) | (with_reducible refine Keep.setCell ?_ (.inl (by first | omega | (simp; done) | (simp; omega) | fail)) _))⟩ ?_
    intro X hX
    have HX := Lib.hid hX
    have hX2 : w.heap.size + 2 ≤ X.heap.size := by have := (Array.getElem?_eq_some_iff.1 hX.2.1).1; omega
    clear hX
    obtain ⟨s0, s1, s2, s3, s4, s5, s6, sf⟩ := cells7 HX.out.1
    have CS := Lib.hid (tb_set (H.out.same HX.out.2.2) HL.out row comp hr data _ F (By.keep HD.out HX.out.2.2 (fun _ _ _ h => h)))
    go_wp2_with fail
    with_reducible refine CS.out.mono ?_
    rintro e w1 ⟨rfl, ht⟩
    have H1 := Lib.hid (And.intro ht (by obtain ⟨_, _, _, _, _, g, _⟩ := ht; exact BX.out X w1 _ g LT.out hX2 HX.out.2.1))
    clear ht
    generalize setC ids.length sig sz row comp data = z at *
    clear CS s0 s1 s2 s3 s4 s5 s6 sf
    obtain ⟨y0, y1, y2, y3, y4, y5, yf⟩ := cells6 H1.out.2
    go_wp2_with (first
      | (go_at_call 21; with_reducible refine (code09 _ _).mono ?_; rintro e w2 ⟨rfl, rfl⟩)
      | fail)
    refine bodyPost_ret (results_told Tryd.results11 _ _ (w.heap.size + 1) _ _ _ _ _ _ (by rfl) (heap_six H1.out.2 _ _ _ _ _ _)) rfl ?_
    exact do_end HX.out.2.2 hX2 LT.out H1.out.1 ⟨_, _, rfl, By.nil _ _, NS.nil _ _ _⟩
  rw [if_neg h1]
  have e1 : (do_ == 1) = false := by rw [beq_eq_false_iff_ne]; exact h1
  by_cases h2 : do_ = 2
  · subst h2
    rw [if_pos rfl]
    dsimp only
    clear e1 h1
    go_enter Tryd.func11, Tryd.ntmps11
    go_upto_region 1 with fail
    refine wp_world (S := fun W => W.heap[w.heap.size]? = some (.cells #[.int .i64 2, .int .i64 id.ix, .int .i64 id.gen, .slice Ap q cp', .int .i64 row, .int .i64 comp, .slice Ad nd cd] 45 (0, 0)) ∧ W.heap[w.heap.size + 1]? = some (.cells #[.slice none 0 0, .slice none 0 0, .int .i64 0, .int .i64 0, .bool false, .int .i64 0] 42 (0, 0)) ∧ Keep (fun _ => False) w W) ⟨by first | (exact heap_alloc_at _ _ _ (by first | rfl | (simp; done))) | (rw [Below.heap_alloc _ _ _ (by simp)]; exact heap_alloc_at _ _ _ (by first | rfl | (simp; done))) | (rw [heap_drew', Below.heap_alloc _ _ _ (by simp)]; exact heap_alloc_at _ _ _ (by first | rfl | (simp; done))) | (rw [heap_drew']; exact heap_alloc_at _ _ _ (by first | rfl | (simp; done))) | fail, by first | (exact heap_alloc_at _ _ _ (by first | rfl | (simp; done))) | (rw [Below.heap_alloc _ _ _ (by simp)]; exact heap_alloc_at _ _ _ (by first | rfl | (simp; done))) | (rw [heap_drew', Below.heap_alloc _ _ _ (by simp)]; exact heap_alloc_at _ _ _ (by first | rfl | (simp; done))) | (rw [heap_drew']; exact heap_alloc_at _ _ _ (by first | rfl | (simp; done))) | fail, by exact (by repeat first | (with_reducible assumption) | (with_reducible exact Keep.refl _ _) | (with_reducible refine Keep.alloc ?_ _) | (with_reducible refine Keep.drew ?_) | (with_reducible refine Keep.drewN ?_ _) | (with_reducible refine Keep.setCell ?_ (.inl (by first | omega | (simp; done) | (simp; omega) | fail)) _))⟩ ?_
    intro X hX
    have HX := Lib.hid hX
    have hX2 : w.heap.size + 2 ≤ X.heap.size := by have := (Array.getElem?_eq_some_iff.1 hX.2.1).1; omega
    clear hX
    obtain ⟨s0, s1, s2, s3, s4, s5, s6, sf⟩ := cells7 HX.out.1
    have CS := Lib.hid (tb_get (H.out.same HX.out.2.2) HL.out row comp hr)
    go_wp2_with fail
    with_reducible refine CS.out.mono ?_
    rintro e w1 ⟨A4, n4, c4, rfl, hby, hb⟩
    have H1 := Lib.hid (show TbTo X (TF tp mb vs FC sig) tp sig sz ids col w1 ∧ w1.heap[w.heap.size + 1]? = _ from ⟨⟨mb, vs, cp, FC, H.out.same (HX.out.2.2.trans (Keep.of_below' hb) (fun _ _ h => h)), (Keep.of_below' hb).mono (fun _ _ h => h.elim), fun k h => .inl h⟩, (hb.block _ (by omega)).trans HX.out.2.1⟩)
    have HBY := Lib.hid hby
    clear hby hb
    generalize getT ids.length sig col row comp = l at *
    generalize colC ids.length sig row comp = z at *
    clear CS s0 s1 s2 s3 s4 s5 s6 sf
    obtain ⟨y0, y1, y2, y3, y4, y5, yf⟩ := cells6 H1.out.2
    go_wp2_with (first
      | (go_at_call 21; with_reducible refine (code09 _ _).mono ?_; rintro e w2 ⟨rfl, rfl⟩)
      | fail)
    refine bodyPost_ret (results_told Tryd.results11 _ _ (w.heap.size + 1) _ _ _ _ _ _ (by rfl) (heap_six H1.out.2 _ _ _ _ _ _)) rfl ?_
    exact do_end HX.out.2.2 hX2 LT.out H1.out.1 ⟨_, _, rfl, HBY.out, NS.nil _ _ _⟩
  rw [if_neg h2]
  have e2 : (do_ == 2) = false := by rw [beq_eq_false_iff_ne]; exact h2
  by_cases h3 : do_ = 3
  · subst h3
    rw [if_pos rfl]
    dsimp only
    clear e1 e2 h1 h2
    have CC := Lib.hid (fun X (hk : Keep (fun _ => False) w X) => tb_parts (H.out.same hk) HL.out (HT.out.same hk) row)
    generalize (if rowC ids.length row = 0 then rowT sig col row.toNat else []) = l at *
    generalize rowC ids.length row = z at *
    go_enter Tryd.func11, Tryd.ntmps11
    go_upto_region 1 with fail
    refine wp_world (S := fun W => W.heap[w.heap.size]? = some (.cells #[.int .i64 3, .int .i64 id.ix, .int .i64 id.gen, .slice Ap q cp', .int .i64 row, .int .i64 comp, .slice Ad nd cd] 45 (0, 0)) ∧ W.heap[w.heap.size + 1]? = some (.cells #[.slice none 0 0, .slice none 0 0, .int .i64 0, .int .i64 0, .bool false, .int .i64 0] 42 (0, 0)) ∧ Keep (fun _ => False) w W) ⟨by first | (exact heap_alloc_at _ _ _ (by first | rfl | (simp; done))) | (rw [Below.heap_alloc _ _ _ (by simp)]; exact heap_alloc_at _ _ _ (by first | rfl | (simp; done))) | (rw [heap_drew', Below.heap_alloc _ _ _ (by simp)]; exact heap_alloc_at _ _ _ (by first | rfl | (simp; done))) | (rw [heap_drew']; exact heap_alloc_at _ _ _ (by first | rfl | (simp; done))) | fail, by first | (exact heap_alloc_at _ _ _ (by first | rfl | (simp; done))) | (rw [Below.heap_alloc _ _ _ (by simp)]; exact heap_alloc_at _ _ _ (by first | rfl | (simp; done))) | (rw [heap_drew', Below.heap_alloc _ _ _ (by simp)]; exact heap_alloc_at _ _ _ (by first | rfl | (simp; done))) | (rw [heap_drew']; exact heap_alloc_at _ _ _ (by first | rfl | (simp; done))) | fail, by exact (by repeat first | (with_reducible assumption) | (with_reducible exact Keep.refl _ _) | (with_reducible refine Keep.alloc ?_ _) | (with_reducible refine Keep.drew ?_) | (with_reducible refine Keep.drewN ?_ _) | (with_reducible refine Keep.setCell ?_ (.inl (by first | omega | (simp; done) | (simp; omega) | fail)) _))⟩ ?_
    intro X hX
    have HX := Lib.hid hX
    have hX2 : w.heap.size + 2 ≤ X.heap.size := by have := (Array.getElem?_eq_some_iff.1 hX.2.1).1; omega
    clear hX
    obtain ⟨s0, s1, s2, s3, s4, s5, s6, sf⟩ := cells7 HX.out.1
    have CS := Lib.hid (CC.out X HX.out.2.2)
    go_wp2_with fail
    with_reducible refine CS.out.mono ?_
    rintro e w1 ⟨A4, n4, c4, rfl, hby, hb⟩
    have H1 := Lib.hid (show TbTo X (TF tp mb vs FC sig) tp sig sz ids col w1 ∧ w1.heap[w.heap.size + 1]? = _ from ⟨⟨mb, vs, cp, FC, H.out.same (HX.out.2.2.trans (Keep.of_below' hb) (fun _ _ h => h)), (Keep.of_below' hb).mono (fun _ _ h => h.elim), fun k h => .inl h⟩, (hb.block _ (by omega)).trans HX.out.2.1⟩)
    have HBY := Lib.hid hby
    clear hby hb
    clear CS s0 s1 s2 s3 s4 s5 s6 sf
    obtain ⟨y0, y1, y2, y3, y4, y5, yf⟩ := cells6 H1.out.2
    go_wp2_with (first
      | (go_at_call 21; with_reducible refine (code09 _ _).mono ?_; rintro e w2 ⟨rfl, rfl⟩)
      | fail)
    refine bodyPost_ret (results_told Tryd.results11 _ _ (w.heap.size + 1) _ _ _ _ _ _ (by rfl) (heap_six H1.out.2 _ _ _ _ _ _)) rfl ?_
    exact do_end HX.out.2.2 hX2 LT.out H1.out.1 ⟨_, _, rfl, By.nil _ _, HBY.out⟩
  rw [if_neg h3]
  have e3 : (do_ == 3) = false := by rw [beq_eq_false_iff_ne]; exact h3
  by_cases h4 : do_ = 4
  · subst h4
    rw [if_pos rfl]
    dsimp only
    clear e1 e2 e3 h1 h2 h3
    go_enter Tryd.func11, Tryd.ntmps11
    go_upto_region 1 with fail
    refine wp_world (S := fun W => W.heap[w.heap.size]? = some (.cells #[.int .i64 4, .int .i64 id.ix, .int .i64 id.gen, .slice Ap q cp', .int .i64 row, .int .i64 comp, .slice Ad nd cd] 45 (0, 0)) ∧ W.heap[w.heap.size + 1]? = some (.cells #[.slice none 0 0, .slice none 0 0, .int .i64 0, .int .i64 0, .bool false, .int .i64 0] 42 (0, 0)) ∧ Keep (fun _ => False) w W) ⟨by first | (exact heap_alloc_at _ _ _ (by first | rfl | (simp; done))) | (rw [Below.heap_alloc _ _ _ (by simp)]; exact heap_alloc_at _ _ _ (by first | rfl | (simp; done))) | (rw [heap_drew', Below.heap_alloc _ _ _ (by simp)]; exact heap_alloc_at _ _ _ (by first | rfl | (simp; done))) | (rw [heap_drew']; exact heap_alloc_at _ _ _ (by first | rfl | (simp; done))) | fail, by first | (exact heap_alloc_at _ _ _ (by first | rfl | (simp; done))) | (rw [Below.heap_alloc _ _ _ (by simp)]; exact heap_alloc_at _ _ _ (by first | rfl | (simp; done))) | (rw [heap_drew', Below.heap_alloc _ _ _ (by simp)]; exact heap_alloc_at _ _ _ (by first | rfl | (simp; done))) | (rw [heap_drew']; exact heap_alloc_at _ _ _ (by first | rfl | (simp; done))) | fail, by exact (by repeat first | (with_reducible assumption) | (with_reducible exact Keep.refl _ _) | (with_reducible refine Keep.alloc ?_ _) | (with_reducible refine Keep.drew ?_) | (with_reducible refine Keep.drewN ?_ _) | (with_reducible refine Keep.setCell ?_ (.inl (by first | omega | (simp; done) | (simp; omega) | fail)) _))⟩ ?_
    intro X hX
    have HX := Lib.hid hX
    have hX2 : w.heap.size + 2 ≤ X.heap.size := by have := (Array.getElem?_eq_some_iff.1 hX.2.1).1; omega
    clear hX
    obtain ⟨s0, s1, s2, s3, s4, s5, s6, sf⟩ := cells7 HX.out.1
    have CS := Lib.hid (tb_drop (H.out.same HX.out.2.2) HL.out (HT.out.same HX.out.2.2) row)
    go_wp2_with fail
    with_reducible refine CS.out.mono ?_
    rintro e w1 ⟨rfl, ht⟩
    have H1 := Lib.hid (And.intro ht (by obtain ⟨_, _, _, _, _, g, _⟩ := ht; exact BX.out X w1 _ g LT.out hX2 HX.out.2.1))
    clear ht
    generalize movedT ids row = mv at *
    generalize rowC ids.length row = z at *
    obtain ⟨⟨ix, gen⟩, ok⟩ := mv
    dsimp only
    clear CS s0 s1 s2 s3 s4 s5 s6 sf
    obtain ⟨y0, y1, y2, y3, y4, y5, yf⟩ := cells6 H1.out.2
    go_upto_region 11 with fail
    have HB9 := Lib.hid (heap_alloc_new w1 (.cells #[.int .i64 ix, .int .i64 gen] 40 (0, 0)))
    have k9 : Keep (fun _ => False) w1 (w1.alloc (.cells #[.int .i64 ix, .int .i64 gen] 40 (0, 0))) := (Keep.refl _ _).alloc _
    have hw1 : X.heap.size ≤ w1.heap.size := by obtain ⟨_, _, _, _, _, g, _⟩ := H1.out.1; exact g.size
    have H9 := Lib.hid (show TbTo X (TF tp mb vs FC sig) tp sig sz (dropI ids row) (dropK ids.length sig col row) (w1.alloc (.cells #[.int .i64 ix, .int .i64 gen] 40 (0, 0))) ∧ (w1.alloc (.cells #[.int .i64 ix, .int .i64 gen] 40 (0, 0))).heap[w.heap.size + 1]? = _ from ⟨H1.out.1.then_ k9, (k9.block _ (Array.getElem?_eq_some_iff.1 H1.out.2).1 (fun h => h)).trans H1.out.2⟩)
    generalize hW9 : w1.alloc (.cells #[.int .i64 ix, .int .i64 gen] 40 (0, 0)) = W9 at *
    clear y0 y1 y2 y3 y4 y5 yf k9
    obtain ⟨y0, y1, y2, y3, y4, y5, yf⟩ := cells6 H9.out.2
    obtain ⟨b0, b1, bf⟩ := cells2 HB9.out
    go_region_with (first
      | (go_at_call 21; with_reducible refine (code09 _ _).mono ?_; rintro e w2 ⟨rfl, rfl⟩)
      | fail)
    all_goals
      go_wp2
      refine bodyPost_ret (results_told Tryd.results11 _ _ (w.heap.size + 1) _ _ _ _ _ _ (by rfl) (by rw [heap_drew']; exact heap_six H9.out.2 _ _ _ _ _ _)) rfl ?_
      exact DoT.drew (do_end HX.out.2.2 hX2 LT.out H9.out.1 ⟨_, _, rfl, By.nil _ _, NS.nil _ _ _⟩)
  rw [if_neg h4]
  have e4 : (do_ == 4) = false := by rw [beq_eq_false_iff_ne]; exact h4
  dsimp only
  go_enter Tryd.func11, Tryd.ntmps11
  go_upto_region 1 with fail
  refine wp_world (S := fun W => W.heap[w.heap.size]? = some (.cells #[.int .i64 do_, .int .i64 id.ix, .int .i64 id.gen, .slice Ap q cp', .int .i64 row, .int .i64 comp, .slice Ad nd cd] 45 (0, 0)) ∧ W.heap[w.heap.size + 1]? = some (.cells #[.slice none 0 0, .slice none 0 0, .int .i64 0, .int .i64 0, .bool false, .int .i64 0] 42 (0, 0)) ∧ Keep (fun _ => False) w W) ⟨by first | (exact heap_alloc_at _ _ _ (by first | rfl | (simp; done))) | (rw [Below.heap_alloc _ _ _ (by simp)]; exact heap_alloc_at _ _ _ (by first | rfl | (simp; done))) | (rw [heap_drew', Below.heap_alloc _ _ _ (by simp)]; exact heap_alloc_at _ _ _ (by first | rfl | (simp; done))) | (rw [heap_drew']; exact heap_alloc_at _ _ _ (by first | rfl | (simp; done))) | fail, by first | (exact heap_alloc_at _ _ _ (by first | rfl | (simp; done))) | (rw [Below.heap_alloc _ _ _ (by simp)]; exact heap_alloc_at _ _ _ (by first | rfl | (simp; done))) | (rw [heap_drew', Below.heap_alloc _ _ _ (by simp)]; exact heap_alloc_at _ _ _ (by first | rfl | (simp; done))) | (rw [heap_drew']; exact heap_alloc_at _ _ _ (by first | rfl | (simp; done))) | fail, by exact (by repeat first | (with_reducible assumption) | (with_reducible exact Keep.refl _ _) | (with_reducible refine Keep.alloc ?_ _) | (with_reducible refine Keep.drew ?_) | (with_reducible refine Keep.drewN ?_ _) | (with_reducible refine Keep.setCell ?_ (.inl (by first | omega | (simp; done) | (simp; omega) | fail)) _))⟩ ?_
  intro X hX
  have HX := Lib.hid hX
  have hX2 : w.heap.size + 2 ≤ X.heap.size := by have := (Array.getElem?_eq_some_iff.1 hX.2.1).1; omega
  clear hX
  obtain ⟨s0, s1, s2, s3, s4, s5, s6, sf⟩ := cells7 HX.out.1
  have CS := Lib.hid (tb_add (H.out.same HX.out.2.2) HL.out (HT.out.same HX.out.2.2) id parts _ F (HP.out.1.same HX.out.2.2) HP.out.2.1 HP.out.2.2)
  rw [HQ.out] at CS
  go_wp2_with fail
  with_reducible refine CS.out.mono ?_
  rintro e w1 ⟨rfl, ht⟩
  have H1 := Lib.hid (And.intro ht (by obtain ⟨_, _, _, _, _, g, _⟩ := ht; exact BX.out X w1 _ g LT.out hX2 HX.out.2.1))
  clear ht
  generalize addC ids.length sig sz parts = z at *
  clear CS s0 s1 s2 s3 s4 s5 s6 sf
  obtain ⟨y0, y1, y2, y3, y4, y5, yf⟩ := cells6 H1.out.2
  go_wp2_with (first
    | (go_at_call 21; with_reducible refine (code09 _ _).mono ?_; rintro e w2 ⟨rfl, rfl⟩)
    | fail)
  refine bodyPost_ret (results_told Tryd.results11 _ _ (w.heap.size + 1) _ _ _ _ _ _ (by rfl) (heap_six H1.out.2 _ _ _ _ _ _)) rfl ?_
  exact do_end HX.out.2.2 hX2 LT.out H1.out.1 ⟨_, _, rfl, By.nil _ _, NS.nil _ _ _⟩
end Go.Proofs.YtpkeahikfbmcpaaDoor

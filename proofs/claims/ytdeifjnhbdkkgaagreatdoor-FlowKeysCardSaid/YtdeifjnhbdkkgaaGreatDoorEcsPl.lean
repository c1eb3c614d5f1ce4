/- A core, plain: what its steps make of it. -/
import Derived.Test.YtdeifjnhbdkkgaaGreatDoorEcs1
import Derived.Test.YtdeifjnhbdkkgaaGreatDoorTabA
import Derived.Deep.RegionHeld3
import Derived.RegionTactic
namespace Go.Proofs.YtdeifjnhbdkkgaaGreatDoor
open Go.RowKit
set_option maxRecDepth 100000
set_option linter.unusedVariables false
set_option linter.unusedSimpArgs false

theorem setK_lens {sig : Nat} {sz : Nat → Nat} {ids : List IdZ} {col : Nat → List (List UInt8)} (hl : ∀ c, c ∈ bl sig 64 → (col c).length = ids.length) (row k : Int) (l : List UInt8) : ∀ c, c ∈ bl sig 64 → (setK ids.length sig sz col row k l c).length = ids.length := fun c hc => by
  unfold setK
  split
  · rw [List.length_set]; exact hl c hc
  · exact hl c hc
theorem add_lens {sig : Nat} {sz : Nat → Nat} {ids : List IdZ} {col : Nat → List (List UInt8)} (hl : ∀ c, c ∈ bl sig 64 → (col c).length = ids.length) (x : IdZ) (P : List PtZ) : ∀ c, c ∈ bl sig 64 → (addK ids.length sig sz col P c).length = (addI sig sz ids x P).length := by
  intro c hc
  unfold addI addK
  by_cases h : addC ids.length sig sz P = 0
  · rw [if_pos h, if_pos h]
    unfold colA
    rw [if_pos hc, List.length_append, List.length_append, hl c hc]; rfl
  · rw [if_neg h, if_neg h]; exact hl c hc
theorem drop_lens {sig : Nat} {ids : List IdZ} {col : Nat → List (List UInt8)} (hl : ∀ c, c ∈ bl sig 64 → (col c).length = ids.length) (row : Int) (hr : ¬ (row < 0 ∨ (ids.length : Int) ≤ row)) : ∀ c, c ∈ bl sig 64 → (dropK ids.length sig col row c).length = (dropI ids row).length := by
  obtain ⟨r, rfl, hrn⟩ : ∃ r : Nat, row = (r : Int) ∧ r < ids.length := ⟨row.toNat, by omega, by omega⟩
  have h0 : rowC ids.length (r : Int) = 0 := by unfold rowC; rw [if_neg hr]
  have hll : (dropL ids r).length = ids.length - 1 := by unfold dropL; rw [List.length_take, List.length_set]; omega
  intro c hc
  unfold dropI dropK dropR
  rw [if_pos h0, if_pos ⟨h0, hc⟩, Int.toNat_natCast, hll, List.length_take, List.length_set, hl c hc]
  omega
def sp0 : Sp := ⟨0, 0, false⟩
def spAt (a : Co) (i : Nat) : Sp := a.spots.getD i sp0
def tbAt (a : Co) (j : Nat) : Tz := a.tabs.getD j tz0
def sgAt (a : Co) (j : Nat) : Nat := a.sigs.getD j 0
/-- Spots for n indexes, or more. -/
def padS (l : List Sp) (n : Nat) : List Sp := l ++ List.replicate (n - l.length) sp0
theorem padS_no {l : List Sp} {n : Nat} (h : n ≤ l.length) : padS l n = l := by
  unfold padS
  rw [show n - l.length = 0 by omega, List.replicate_zero, List.append_nil]
theorem padS_next {l : List Sp} {n : Nat} (h : l.length ≤ n) : padS l (n + 1) = padS l n ++ [sp0] := by
  unfold padS
  rw [show n + 1 - l.length = (n - l.length) + 1 by omega, List.replicate_succ', ← List.append_assoc]
theorem padS_len {l : List Sp} {n : Nat} (h : l.length ≤ n) : (padS l n).length = n := by
  simp [padS]; omega
theorem padS_len' (l : List Sp) (n : Nat) : (padS l n).length = max l.length n := by
  simp [padS]; omega
/-- An entity stands in a node's table. -/
def enterC (sz : Nat → Nat) (a : Co) (i g j : Nat) (P : List PtZ) : Co :=
  ⟨a.na, a.sigs, (growC a (j + 1)).tabs.set j ⟨(tbAt a j).ids ++ [⟨(i : Int), (g : Int)⟩], colA P sz (tbAt a j).col (bl (sgAt a j) 64)⟩, (padS a.spots (i + 1)).set i ⟨j, (tbAt a j).ids.length, true⟩⟩
/-- The place of the one that takes a row. -/
def moveS (a : Co) (s : Sp) : List Sp :=
  if (movedT (tbAt a s.node).ids (s.row : Int)).2 = true then a.spots.set (movedT (tbAt a s.node).ids (s.row : Int)).1.ix.toNat ⟨(spAt a (movedT (tbAt a s.node).ids (s.row : Int)).1.ix.toNat).node, s.row, (spAt a (movedT (tbAt a s.node).ids (s.row : Int)).1.ix.toNat).there⟩ else a.spots
/-- It does not any more. -/
def leaveC (a : Co) (i : Nat) : Co :=
  ⟨a.na, a.sigs, a.tabs.set (spAt a i).node ⟨dropI (tbAt a (spAt a i).node).ids ((spAt a i).row : Int), dropK (tbAt a (spAt a i).node).ids.length (sgAt a (spAt a i).node) (tbAt a (spAt a i).node).col ((spAt a i).row : Int)⟩, (moveS a (spAt a i)).set i sp0⟩
/-- What it has. -/
def entP (a : Co) (i : Nat) : List PtZ := rowT (sgAt a (spAt a i).node) (tbAt a (spAt a i).node).col (spAt a i).row
theorem tbAt_grow (a : Co) (m j : Nat) : tbAt (growC a m) j = tbAt a j := by
  unfold tbAt growC
  simp only [List.getD_eq_getElem?_getD]
  rcases Nat.lt_or_ge j a.tabs.length with h | h
  · rw [List.getElem?_append_left h]
  · rw [List.getElem?_append_right h, List.getElem?_eq_none h]
    rcases Nat.lt_or_ge (j - a.tabs.length) (m - a.tabs.length) with h2 | h2
    · rw [List.getElem?_replicate, if_pos h2]; rfl
    · rw [List.getElem?_eq_none (by simpa using h2)]
theorem spAt_pad (a : Co) (m i : Nat) : (padS a.spots m).getD i sp0 = spAt a i := by
  unfold spAt padS
  simp only [List.getD_eq_getElem?_getD]
  rcases Nat.lt_or_ge i a.spots.length with h | h
  · rw [List.getElem?_append_left h]
  · rw [List.getElem?_append_right h, List.getElem?_eq_none h]
    rcases Nat.lt_or_ge (i - a.spots.length) (m - a.spots.length) with h2 | h2
    · rw [List.getElem?_replicate, if_pos h2]; rfl
    · rw [List.getElem?_eq_none (by simpa using h2)]
theorem getD_at {α : Type} (d : α) {l : List α} {j : Nat} (h : j < l.length) : l[j]? = some (l.getD j d) := by
  rw [List.getD_eq_getElem?_getD, List.getElem?_eq_getElem h]; rfl
theorem flat_setSp : ∀ (l : List Sp) (r : Nat) (x : Sp), r < l.length → (l.set r x).flatMap spC = (((l.flatMap spC).set (r * 3) (.int .i64 (x.node : Int))).set (r * 3 + 1) (.int .i64 (x.row : Int))).set (r * 3 + 2) (.bool x.there)
  | [], _, _, h => by simp at h
  | y :: l, 0, x, _ => by simp [spC]
  | y :: l, r + 1, x, h => by
    have ih := flat_setSp l r x (by simpa using h)
    rw [List.set_cons_succ, List.flatMap_cons, ih, List.flatMap_cons, show (r + 1) * 3 + 1 = (r * 3 + 1) + 3 by omega, show (r + 1) * 3 + 2 = (r * 3 + 2) + 3 by omega, show (r + 1) * 3 = r * 3 + 3 by omega]
    simp [spC]
theorem flat_atSp {l : List Sp} {k : Nat} (h : k < l.length) : (l.flatMap spC)[k * 3]? = some (.int .i64 ((l.getD k sp0).node : Int)) ∧ (l.flatMap spC)[k * 3 + 1]? = some (.int .i64 ((l.getD k sp0).row : Int)) ∧ (l.flatMap spC)[k * 3 + 2]? = some (.bool (l.getD k sp0).there) := by
  have hx := getD_at sp0 h
  exact ⟨flat_at (f := spC) (m := 3) (j := 0) spC_len hx rfl, flat_at (f := spC) (m := 3) (j := 1) spC_len hx rfl, flat_at (f := spC) (m := 3) (j := 2) spC_len hx rfl⟩
end Go.Proofs.YtdeifjnhbdkkgaaGreatDoor
namespace Go.Proofs.YtdeifjnhbdkkgaaGreatDoor
open Go.RowKit
set_option maxRecDepth 100000
set_option linter.unusedVariables false
set_option linter.unusedSimpArgs false

theorem info_spot : (Tryz.prog.info? 89).map (fun i => (i.zero, i.size, i.bytes)) = some (some (.agg #[.int .i64 0, .int .i64 0, .bool false]), 3, 24) := by kernel_rfl
theorem src_spot {W : World} {g : Nat} {a b : Int} {t : Bool} (h0 : W.cell? ⟨g, 0, none⟩ = some (.int .i64 a)) (h1 : W.cell? ⟨g, 1, none⟩ = some (.int .i64 b)) (h2 : W.cell? ⟨g, 2, none⟩ = some (.bool t)) : Src Tryz.prog 3 74 (.slice (some ⟨g, 0, none⟩) 1 1) 1 [.int .i64 a, .int .i64 b, .bool t] W :=
  Src.ofSlice _ Tryz.underlying74 _ 1 1 _ rfl (fun j u hu => by
    match j, hu with
    | 0, hu => cases hu; simpa [Addr.add] using h0
    | 1, hu => cases hu; simpa [Addr.add] using h1
    | 2, hu => cases hu; simpa [Addr.add] using h2) (fun u hu => by
    simp only [List.mem_cons, List.not_mem_nil, or_false] at hu
    rcases hu with rfl | rfl | rfl <;> rfl)
theorem step_spot {ops : Array Oper} {o : Oper} {a : Act} {w : World} {K : Act → World → Prop} {Q : Exit → Act → World → Prop} {E : Prop} (hgd : Region.wanted o (yielded ops a.tmps) = true) (s x : Operand)
    (ho : o.op = .call { callee := .builtin .append, args := #[s, x], argTypes := #[74, 74] }) (B : Nat) (v : Value) (n : Nat) (D : List Sp) (hn : D.length = n) (hv : a.eval s = v) (hown : Own w B 89 3 v n (D.flatMap spC)) (g : Nat)
    (hy : a.eval x = .slice (some ⟨g, 0, none⟩) 1 1) (h0 : w.cell? ⟨g, 0, none⟩ = some (.int .i64 0)) (h1 : w.cell? ⟨g, 1, none⟩ = some (.int .i64 0)) (h2 : w.cell? ⟨g, 2, none⟩ = some (.bool false)) (hk : n ≤ 1099511627776) (hB : B ≤ w.heap.size)
    (h : ∀ A c w', Own w' B 89 3 (.slice A (n + 1) c) (n + 1) ((D ++ [sp0]).flatMap spC) → Keep (fun k => ownB v = some k) w w' → (∀ k', ownB (.slice A (n + 1) c) = some k' → ownB v = some k' ∨ w.heap.size ≤ k') → K (a.put o.dst (.slice A (n + 1) c)) w') :
    if Region.wanted o (yielded ops a.tmps) = true then Oper.wp Tryz.prog o a w K Q else E := by
  obtain ⟨is, his, hs0, hs1, hs2⟩ := info_parts info_spot
  refine step_append_gen w hgd s x _ _ ho B 89 is _ 3 24 Tryz.underlying74 his hs0 hs1 hs2 rfl v n _ hv hown _ 1 _ hy (src_spot h0 h1 h2) (by unfold maxLen; omega) (by omega) hB ?_
  intro v' w' ho' hk' hn'
  obtain ⟨A, c', rfl, _⟩ := ho'.form
  refine h A c' w' (by rw [List.flatMap_append]; exact ho') hk' hn'
theorem wpList_spot {ops : Array Oper} {o : Oper} {rest : List Oper} {a : Act} {w : World} {Q : Exit → Act → World → Prop} (hgd : Region.wanted o (yielded ops a.tmps) = true) (s x : Operand)
    (ho : o.op = .call { callee := .builtin .append, args := #[s, x], argTypes := #[74, 74] }) (B : Nat) (v : Value) (n : Nat) (D : List Sp) (hn : D.length = n) (hv : a.eval s = v) (hown : Own w B 89 3 v n (D.flatMap spC)) (g : Nat)
    (hy : a.eval x = .slice (some ⟨g, 0, none⟩) 1 1) (h0 : w.cell? ⟨g, 0, none⟩ = some (.int .i64 0)) (h1 : w.cell? ⟨g, 1, none⟩ = some (.int .i64 0)) (h2 : w.cell? ⟨g, 2, none⟩ = some (.bool false)) (hk : n ≤ 1099511627776) (hB : B ≤ w.heap.size)
    (h : ∀ A c w', Own w' B 89 3 (.slice A (n + 1) c) (n + 1) ((D ++ [sp0]).flatMap spC) → Keep (fun k => ownB v = some k) w w' → (∀ k', ownB (.slice A (n + 1) c) = some k' → ownB v = some k' ∨ w.heap.size ≤ k') → wpList Tryz.prog ops Q rest (a.put o.dst (.slice A (n + 1) c)) w') :
    wpList Tryz.prog ops Q (o :: rest) a w :=
  wpList_step fun _ hK => step_spot hgd s x ho B v n D hn hv hown g hy h0 h1 h2 hk hB fun A c w' h1 h2 h3 => hK _ _ (h A c w' h1 h2 h3)
section
variable {w : World} {c : Cf} {xp q : Nat} {B : CoB} {a : Co}
/-- How many spots a core in memory has. -/
def spsW (W : World) (xp : Nat) : Nat := match W.cell? ⟨xp, 8, none⟩ with
  | some (.slice _ n _) => n
  | _ => 0
theorem spsW_of (h : CoM w c xp B q a) : spsW w xp = a.spots.length := by
  obtain ⟨_, A, cT, e, -⟩ := h.oS
  have c7 : w.cell? ⟨xp, 8, none⟩ = some B.vS := (cells_of_row' h.box).1 8 _ rfl
  unfold spsW
  rw [c7, e]
/-- A spot more, as the code lays it. -/
theorem CoM.spPush (h : CoM w c xp B q a) {w6 : World} {v' : Value} {n : Nat} {D : List Sp} (hn : D.length = n)
    (ho : Own w6 0 89 3 v' n (D.flatMap spC)) (hk6 : Keep (fun k => ownB B.vS = some k) w w6) (hn6 : ∀ k, ownB v' = some k → ownB B.vS = some k ∨ w.heap.size ≤ k) (hf : n ≤ 1024) :
    ∃ B', CoAt w c xp (CoF xp B a) q ⟨a.na, a.sigs, a.tabs, D⟩ (w6.setCell ⟨xp, 8, none⟩ v') B' ∧ B'.tp = B.tp ∧ B'.gp = B.gp := by
  subst hn
  have kX : Keep (fun b => b = xp) w6 (w6.setCell ⟨xp, 8, none⟩ v') := Keep.setCell (S := fun b => b = xp) (p := ⟨xp, 8, none⟩) (Keep.refl _ w6) (.inr rfl) _
  have hxs := (Array.getElem?_eq_some_iff.1 h.box).1
  have hvx : ownB B.vS ≠ some xp := fun e => by
    have := h.apart (.inl ⟨rfl, rfl⟩ : Cls xp B a.sigs a.tabs.length 0 xp) (.inr (.inr (.inr (.inr (.inl ⟨rfl, e⟩)))) : Cls xp B a.sigs a.tabs.length 4 xp)
    cases this
  have k6 := hk6
  have kW : Keep (fun k => k = xp ∨ ownB B.vS = some k) w (w6.setCell ⟨xp, 8, none⟩ v') := (k6.mono (T := fun k => k = xp ∨ ownB B.vS = some k) (fun _ _ h => .inr h)).trans kX (fun _ _ h => .inl h)
  have hbx := (k6.block xp hxs hvx).trans h.box
  refine h.spotsTo_ (heap_setCell_same _ xp 8 _ _ v' hbx) (ho.keep kX (fun k e1 e2 => ?_)) kW (fun k e => ?_) hf
  · have : k = xp := e2
    subst this
    rcases hn6 k e1 with e | e
    · exact hvx e
    · omega
  · exact hn6 k e
theorem CoM.vS_xp (h : CoM w c xp B q a) : ownB B.vS ≠ some xp := fun e => by
  have := h.apart (.inl ⟨rfl, rfl⟩ : Cls xp B a.sigs a.tabs.length 0 xp) (.inr (.inr (.inr (.inr (.inl ⟨rfl, e⟩)))) : Cls xp B a.sigs a.tabs.length 4 xp)
  cases this
/-- A spot turned in place. -/
theorem CoM.spAll (h : CoM w c xp B q a) {gS m cS : Nat} (hv : B.vS = .slice (some ⟨gS, 0, none⟩) m cS) (hob : ownB B.vS = some gS) {D : List Sp} (hm : D.length = m) (hm4 : m ≤ 1024) {w' : World} (hk : Keep (fun k => k = gS) w w') (ho : Own w' 0 89 3 (.slice (some ⟨gS, 0, none⟩) m cS) m (D.flatMap spC)) :
    ∃ B', CoAt w c xp (CoF xp B a) q ⟨a.na, a.sigs, a.tabs, D⟩ w' B' ∧ B'.tp = B.tp ∧ B'.gp = B.gp := by
  have hx : ¬ xp = gS := fun e => h.vS_xp (e ▸ hob)
  subst hm
  refine h.spotsTo_ (vS := B.vS) ((hk.block xp (Array.getElem?_eq_some_iff.1 h.box).1 hx).trans h.box) (by rw [hv]; exact ho) (hk.mono (fun k _ e => .inr (by have : k = gS := e; rw [this]; exact hob))) (fun k e => .inl e) hm4
theorem CoM.spSet (h : CoM w c xp B q a) {gS m cS : Nat} (hv : B.vS = .slice (some ⟨gS, 0, none⟩) m cS) (hob : ownB B.vS = some gS) (hm : a.spots.length = m) {i : Nat} (hi : i < m) (x : Sp) :
    ∃ B', CoAt w c xp (CoF xp B a) q ⟨a.na, a.sigs, a.tabs, a.spots.set i x⟩ (((w.setCell ⟨gS, i * 3, none⟩ (.int .i64 (x.node : Int))).setCell ⟨gS, i * 3 + 1, none⟩ (.int .i64 (x.row : Int))).setCell ⟨gS, i * 3 + 2, none⟩ (.bool x.there)) B' ∧ B'.tp = B.tp ∧ B'.gp = B.gp := by
  have ho := h.oS
  rw [hv, hm] at ho
  have hd : 0 < cS := by obtain ⟨_, A, c', e, hle, _⟩ := ho; injection e with e1 e2 e3; omega
  refine h.spAll hv hob (by rw [List.length_set]; exact hm) (by have := h.spf; omega) (Keep.setCell (S := fun k => k = gS) (p := ⟨gS, i * 3 + 2, none⟩) (Keep.setCell (S := fun k => k = gS) (p := ⟨gS, i * 3 + 1, none⟩) (Keep.setCell (S := fun k => k = gS) (p := ⟨gS, i * 3, none⟩) (Keep.refl _ _) (.inr rfl) _) (.inr rfl) _) (.inr rfl) _) ?_
  rw [flat_setSp _ _ _ (by omega)]
  exact own_setQ (own_setQ (own_setQ ho hd) hd) hd
theorem flat_setRow : ∀ (l : List Sp) (r n : Nat), r < l.length → (l.set r ⟨(l.getD r sp0).node, n, (l.getD r sp0).there⟩).flatMap spC = (l.flatMap spC).set (r * 3 + 1) (.int .i64 (n : Int))
  | [], _, _, h => by simp at h
  | y :: l, 0, n, _ => by simp [spC]
  | y :: l, r + 1, n, h => by
    have ih := flat_setRow l r n (by simpa using h)
    rw [List.getD_cons_succ, List.set_cons_succ, List.flatMap_cons, ih, List.flatMap_cons, show (r + 1) * 3 + 1 = (r * 3 + 1) + 3 by omega]
    simp [spC]
theorem CoM.spRow (h : CoM w c xp B q a) {gS m cS : Nat} (hv : B.vS = .slice (some ⟨gS, 0, none⟩) m cS) (hob : ownB B.vS = some gS) (hm : a.spots.length = m) {i : Nat} (hi : i < m) (n : Nat) :
    ∃ B', CoAt w c xp (CoF xp B a) q ⟨a.na, a.sigs, a.tabs, a.spots.set i ⟨(spAt a i).node, n, (spAt a i).there⟩⟩ (w.setCell ⟨gS, i * 3 + 1, none⟩ (.int .i64 (n : Int))) B' ∧ B'.tp = B.tp ∧ B'.gp = B.gp := by
  have ho := h.oS
  rw [hv, hm] at ho
  have hd : 0 < cS := by obtain ⟨_, A, c', e, hle, _⟩ := ho; injection e with e1 e2 e3; omega
  refine h.spAll hv hob (by rw [List.length_set]; exact hm) (by have := h.spf; omega) (Keep.setCell (S := fun k => k = gS) (p := ⟨gS, i * 3 + 1, none⟩) (Keep.refl _ _) (.inr rfl) _) ?_
  unfold spAt
  rw [flat_setRow _ _ _ (by omega)]
  exact own_setQ ho hd
end
end Go.Proofs.YtdeifjnhbdkkgaaGreatDoor
namespace Go.Proofs.YtdeifjnhbdkkgaaGreatDoor
open Go.RowKit
set_option maxRecDepth 100000
set_option linter.unusedVariables false
set_option linter.unusedSimpArgs false

/-- Where leave ends: the parts in blocks from lo to hi, none of them the core's. -/
def LvPost (w : World) (c : Cf) (xp : Nat) (B : CoB) (q : Nat) (a : Co) (i : Nat) (e : Ending) (w' : World) : Prop :=
  ∃ A n cc lo hi B', e = .returned (.slice A n cc) ∧ w.heap.size ≤ lo ∧ lo ≤ hi ∧ hi ≤ w'.heap.size ∧ NBX parN (fun b => lo ≤ b ∧ b < hi) lo 136 w' (.slice A n cc) (entP a i) ∧ (∀ k, ownB (.slice A n cc) = some k → k < hi) ∧ CoAt w c xp (CoF xp B a) q (leaveC a i) w' B' ∧ (∀ k, CoF xp B' (leaveC a i) k → k < lo ∨ hi ≤ k) ∧ w'.heap[xp]? = w.heap[xp]?
section
variable {w : World} {c : Cf} {xp q : Nat} {B : CoB} {a : Co}
theorem CoM.vT_xp (h : CoM w c xp B q a) : ownB B.vT ≠ some xp := fun e => by
  have := h.apart (.inl ⟨rfl, rfl⟩ : Cls xp B a.sigs a.tabs.length 0 xp) (.inr (.inr (.inr (.inl ⟨rfl, e⟩))) : Cls xp B a.sigs a.tabs.length 3 xp)
  cases this
/-- The spots, as the code sees them. -/
theorem CoM.viewS (h : CoM w c xp B q a) (h0 : 0 < a.spots.length) : ∃ gS cS, B.vS = .slice (some ⟨gS, 0, none⟩) a.spots.length cS ∧ ownB B.vS = some gS ∧ gS ≠ xp ∧ gS < w.heap.size ∧ a.spots.length ≤ cS ∧ cS ≤ maxLen ∧ ∀ W, Keep (fun _ => False) w W → W.cell? ⟨xp, 8, none⟩ = some (.slice (some ⟨gS, 0, none⟩) a.spots.length cS) ∧ (∀ k, k < a.spots.length → W.cell? ⟨gS, k * 3, none⟩ = some (.int .i64 ((spAt a k).node : Int)) ∧ W.cell? ⟨gS, k * 3 + 1, none⟩ = some (.int .i64 ((spAt a k).row : Int)) ∧ W.cell? ⟨gS, k * 3 + 2, none⟩ = some (.bool (spAt a k).there)) ∧ ∀ o, W.frozen? ⟨gS, o, none⟩ = false := by
  obtain ⟨gS, cS, hvS, h1, h2, hoS, -, hgS, hcS⟩ := own_blkQ h.oS h0
  have c8 : w.cell? ⟨xp, 8, none⟩ = some B.vS := (cells_of_row' h.box).1 8 _ rfl
  rw [hvS] at c8
  refine ⟨gS, cS, hvS, hoS, fun e => h.vS_xp (e ▸ hoS), hgS, h1, h2, fun W hk => ⟨hk.cell (fun h => h) c8, fun k hk2 => ?_, (hcS W hk).2⟩⟩
  obtain ⟨f0, f1, f2⟩ := flat_atSp (l := a.spots) hk2
  exact ⟨(hcS W hk).1 _ _ f0, (hcS W hk).1 _ _ f1, (hcS W hk).1 _ _ f2⟩
theorem CoM.viewT (h : CoM w c xp B q a) {j : Nat} (hj : j < a.tabs.length) : ∃ gT cT, a.tabs.length ≤ cT ∧ cT ≤ maxLen ∧ ∀ W, Keep (fun _ => False) w W → W.cell? ⟨xp, 7, none⟩ = some (.slice (some ⟨gT, 0, none⟩) a.tabs.length cT) ∧ W.cell? ⟨gT, j, none⟩ = some (.pointer (some ⟨B.tp j, 0, none⟩)) := by
  obtain ⟨gT, cT, hvT, h1, h2, hcT⟩ := h.tpAt hj
  have c7 : w.cell? ⟨xp, 7, none⟩ = some B.vT := (cells_of_row' h.box).1 7 _ rfl
  rw [hvT] at c7
  exact ⟨gT, cT, h1, h2, fun W hk => ⟨hk.cell (fun h => h) c7, hcT W hk⟩⟩
theorem lv_end {w3 Z : World} {B7 : CoB} {i n3 c3 : Nat} {A3 : Option Addr} (KW3 : Keep (fun _ => False) w w3) (hz3 : w.heap.size + 2 ≤ w3.heap.size) (P3 : NBX parN (fun b => w.heap.size + 2 ≤ b ∧ b < w3.heap.size) (w.heap.size + 2) 136 w3 (.slice A3 n3 c3) (entP a i) ∧ ∀ k, ownB (Value.slice A3 n3 c3) = some k → w.heap.size + 2 ≤ k ∧ k < w3.heap.size) (hlt0 : ∀ k, CoF xp B a k → k < w.heap.size)
    (H8 : CoAt w3 c xp (CoF xp B a) q (leaveC a i) Z B7) (HX8 : Z.heap[xp]? = w.heap[xp]?) : LvPost w c xp B q a i (.returned (.slice A3 n3 c3)) Z := by
  refine ⟨A3, n3, c3, w.heap.size + 2, w3.heap.size, B7, rfl, by omega, hz3, ?_, ?_, fun k e => (P3.2 k e).2, CoAt.from_ KW3 H8, fun k hk => ?_, HX8⟩
  · exact H8.2.1.size
  · exact P3.1.keep H8.2.1 (fun k e h => by have := hlt0 k h; have := (P3.2 k e).1; omega) (fun b _ hb _ h => by have := hlt0 b h; omega)
  · rcases H8.2.2 k hk with h | h
    · have := hlt0 k h; omega
    · exact .inr h
end
end Go.Proofs.YtdeifjnhbdkkgaaGreatDoor

/- A core, plain: what its steps make of it. -/
import Derived.Test.YtglliendhbkkhaaGreatDoorEcs1
import Derived.Test.YtglliendhbkkhaaGreatDoorTabA
import Derived.Deep.RegionHeld3
import Derived.RegionTactic
namespace Go.Proofs.YtglliendhbkkhaaGreatDoor
open Go.RowKit
set_option maxRecDepth 100000
set_option linter.unusedVariables false
set_option linter.unusedSimpArgs false

theorem setK_lens {sig : Nat} {sz : Nat → Nat} {ids : List IdZ} {col : Nat → List (List UInt8)} (hl : ∀ c, c ∈ bl sig 64 → (col c).length = ids.length) (row k : Int) (l : List UInt8) : ∀ c, c ∈ bl sig 64 → (setK ids.length sig sz col row k l c).length = ids.length := fun c hc => by
  unfold setK
  split
  · rw [List.length_set]; exact hl c hc
  · exact hl c hc
theorem add_lens {sig : Nat} {sz : Nat → Nat} {ids : List IdZ} {col : Nat → List (List UInt8)} (hl : ∀ c, c ∈ bl sig 64 → (col c).length = ids.length) (x : IdZ) (P : List PtZ) : ∀ c, c ∈ bl sig 64 → (addK ids.length sig sz col P c).length = (addI sig sz ids x P).length := by
  intro c hc
  unfold addI addK
  by_cases h : addC ids.length sig sz P = 0
  · rw [if_pos h, if_pos h]
    unfold colA
    rw [if_pos hc, List.length_append, List.length_append, hl c hc]; rfl
  · rw [if_neg h, if_neg h]; exact hl c hc
theorem drop_lens {sig : Nat} {ids : List IdZ} {col : Nat → List (List UInt8)} (hl : ∀ c, c ∈ bl sig 64 → (col c).length = ids.length) (row : Int) (hr : ¬ (row < 0 ∨ (ids.length : Int) ≤ row)) : ∀ c, c ∈ bl sig 64 → (dropK ids.length sig col row c).length = (dropI ids row).length := by
  obtain ⟨r, rfl, hrn⟩ : ∃ r : Nat, row = (r : Int) ∧ r < ids.length := ⟨row.toNat, by omega, by omega⟩
  have h0 : rowC ids.length (r : Int) = 0 := by unfold rowC; rw [if_neg hr]
  have hll : (dropL ids r).length = ids.length - 1 := by unfold dropL; rw [List.length_take, List.length_set]; omega
  intro c hc
  unfold dropI dropK dropR
  rw [if_pos h0, if_pos ⟨h0, hc⟩, Int.toNat_natCast, hll, List.length_take, List.length_set, hl c hc]
  omega
def sp0 : Sp := ⟨0, 0, false⟩
def spAt (a : Co) (i : Nat) : Sp := a.spots.getD i sp0
def tbAt (a : Co) (j : Nat) : Tz := a.tabs.getD j tz0
def sgAt (a : Co) (j : Nat) : Nat := a.sigs.getD j 0
/-- Spots for n indexes, or more. -/
def padS (l : List Sp) (n : Nat) : List Sp := l ++ List.replicate (n - l.length) sp0
theorem padS_no {l : List Sp} {n : Nat} (h : n ≤ l.length) : padS l n = l := by
  unfold padS
  rw [show n - l.length = 0 by omega, List.replicate_zero, List.append_nil]
theorem padS_next {l : List Sp} {n : Nat} (h : l.length ≤ n) : padS l (n + 1) = padS l n ++ [sp0] := by
  unfold padS
  rw [show n + 1 - l.length = (n - l.length) + 1 by omega, List.replicate_succ', ← List.append_assoc]
theorem padS_len {l : List Sp} {n : Nat} (h : l.length ≤ n) : (padS l n).length = n := by
  simp [padS]; omega
theorem padS_len' (l : List Sp) (n : Nat) : (padS l n).length = max l.length n := by
  simp [padS]; omega
/-- An entity stands in a node's table. -/
def enterC (sz : Nat → Nat) (a : Co) (i g j : Nat) (P : List PtZ) : Co :=
  ⟨a.na, a.sigs, (growC a (j + 1)).tabs.set j ⟨(tbAt a j).ids ++ [⟨(i : Int), (g : Int)⟩], colA P sz (tbAt a j).col (bl (sgAt a j) 64)⟩, (padS a.spots (i + 1)).set i ⟨j, (tbAt a j).ids.length, true⟩⟩
/-- The place of the one that takes a row. -/
def moveS (a : Co) (s : Sp) : List Sp :=
  if (movedT (tbAt a s.node).ids (s.row : Int)).2 = true then a.spots.set (movedT (tbAt a s.node).ids (s.row : Int)).1.ix.toNat ⟨(spAt a (movedT (tbAt a s.node).ids (s.row : Int)).1.ix.toNat).node, s.row, (spAt a (movedT (tbAt a s.node).ids (s.row : Int)).1.ix.toNat).there⟩ else a.spots
/-- It does not any more. -/
def leaveC (a : Co) (i : Nat) : Co :=
  ⟨a.na, a.sigs, a.tabs.set (spAt a i).node ⟨dropI (tbAt a (spAt a i).node).ids ((spAt a i).row : Int), dropK (tbAt a (spAt a i).node).ids.length (sgAt a (spAt a i).node) (tbAt a (spAt a i).node).col ((spAt a i).row : Int)⟩, (moveS a (spAt a i)).set i sp0⟩
/-- What it has. -/
def entP (a : Co) (i : Nat) : List PtZ := rowT (sgAt a (spAt a i).node) (tbAt a (spAt a i).node).col (spAt a i).row
theorem tbAt_grow (a : Co) (m j : Nat) : tbAt (growC a m) j = tbAt a j := by
  unfold tbAt growC
  simp only [List.getD_eq_getElem?_getD]
  rcases Nat.lt_or_ge j a.tabs.length with h | h
  · rw [List.getElem?_append_left h]
  · rw [List.getElem?_append_right h, List.getElem?_eq_none h]
    rcases Nat.lt_or_ge (j - a.tabs.length) (m - a.tabs.length) with h2 | h2
    · rw [List.getElem?_replicate, if_pos h2]; rfl
    · rw [List.getElem?_eq_none (by simpa using h2)]
theorem spAt_pad (a : Co) (m i : Nat) : (padS a.spots m).getD i sp0 = spAt a i := by
  unfold spAt padS
  simp only [List.getD_eq_getElem?_getD]
  rcases Nat.lt_or_ge i a.spots.length with h | h
  · rw [List.getElem?_append_left h]
  · rw [List.getElem?_append_right h, List.getElem?_eq_none h]
    rcases Nat.lt_or_ge (i - a.spots.length) (m - a.spots.length) with h2 | h2
    · rw [List.getElem?_replicate, if_pos h2]; rfl
    · rw [List.getElem?_eq_none (by simpa using h2)]
theorem getD_at {α : Type} (d : α) {l : List α} {j : Nat} (h : j < l.length) : l[j]? = some (l.getD j d) := by
  rw [List.getD_eq_getElem?_getD, List.getElem?_eq_getElem h]; rfl
theorem flat_setSp : ∀ (l : List Sp) (r : Nat) (x : Sp), r < l.length → (l.set r x).flatMap spC = (((l.flatMap spC).set (r * 3) (.int .i64 (x.node : Int))).set (r * 3 + 1) (.int .i64 (x.row : Int))).set (r * 3 + 2) (.bool x.there)
  | [], _, _, h => by simp at h
  | y :: l, 0, x, _ => by simp [spC]
  | y :: l, r + 1, x, h => by
    have ih := flat_setSp l r x (by simpa using h)
    rw [List.set_cons_succ, List.flatMap_cons, ih, List.flatMap_cons, show (r + 1) * 3 + 1 = (r * 3 + 1) + 3 by omega, show (r + 1) * 3 + 2 = (r * 3 + 2) + 3 by omega, show (r + 1) * 3 = r * 3 + 3 by omega]
    simp [spC]
theorem flat_atSp {l : List Sp} {k : Nat} (h : k < l.length) : (l.flatMap spC)[k * 3]? = some (.int .i64 ((l.getD k sp0).node : Int)) ∧ (l.flatMap spC)[k * 3 + 1]? = some (.int .i64 ((l.getD k sp0).row : Int)) ∧ (l.flatMap spC)[k * 3 + 2]? = some (.bool (l.getD k sp0).there) := by
  have hx := getD_at sp0 h
  exact ⟨flat_at (f := spC) (m := 3) (j := 0) spC_len hx rfl, flat_at (f := spC) (m := 3) (j := 1) spC_len hx rfl, flat_at (f := spC) (m := 3) (j := 2) spC_len hx rfl⟩
end Go.Proofs.YtglliendhbkkhaaGreatDoor
namespace Go.Proofs.YtglliendhbkkhaaGreatDoor
open Go.RowKit
set_option maxRecDepth 100000
set_option linter.unusedVariables false
set_option linter.unusedSimpArgs false

theorem info_spot : (Tryz.prog.info? 139).map (fun i => (i.zero, i.size, i.bytes)) = some (some (.agg #[.int .i64 0, .int .i64 0, .bool false]), 3, 24) := by kernel_rfl
theorem src_spot {W : World} {g : Nat} {a b : Int} {t : Bool} (h0 : W.cell? ⟨g, 0, none⟩ = some (.int .i64 a)) (h1 : W.cell? ⟨g, 1, none⟩ = some (.int .i64 b)) (h2 : W.cell? ⟨g, 2, none⟩ = some (.bool t)) : Src Tryz.prog 3 117 (.slice (some ⟨g, 0, none⟩) 1 1) 1 [.int .i64 a, .int .i64 b, .bool t] W :=
  Src.ofSlice _ Tryz.underlying117 _ 1 1 _ rfl (fun j u hu => by
    match j, hu with
    | 0, hu => cases hu; simpa [Addr.add] using h0
    | 1, hu => cases hu; simpa [Addr.add] using h1
    | 2, hu => cases hu; simpa [Addr.add] using h2) (fun u hu => by
    simp only [List.mem_cons, List.not_mem_nil, or_false] at hu
    rcases hu with rfl | rfl | rfl <;> rfl)
theorem step_spot {ops : Array Oper} {o : Oper} {a : Act} {w : World} {K : Act → World → Prop} {Q : Exit → Act → World → Prop} {E : Prop} (hgd : Region.wanted o (yielded ops a.tmps) = true) (s x : Operand)
    (ho : o.op = .call { callee := .builtin .append, args := #[s, x], argTypes := #[117, 117] }) (B : Nat) (v : Value) (n : Nat) (D : List Sp) (hn : D.length = n) (hv : a.eval s = v) (hown : Own w B 139 3 v n (D.flatMap spC)) (g : Nat)
    (hy : a.eval x = .slice (some ⟨g, 0, none⟩) 1 1) (h0 : w.cell? ⟨g, 0, none⟩ = some (.int .i64 0)) (h1 : w.cell? ⟨g, 1, none⟩ = some (.int .i64 0)) (h2 : w.cell? ⟨g, 2, none⟩ = some (.bool false)) (hk : n ≤ 1099511627776) (hB : B ≤ w.heap.size)
    (h : ∀ A c w', Own w' B 139 3 (.slice A (n + 1) c) (n + 1) ((D ++ [sp0]).flatMap spC) → Keep (fun k => ownB v = some k) w w' → (∀ k', ownB (.slice A (n + 1) c) = some k' → ownB v = some k' ∨ w.heap.size ≤ k') → K (a.put o.dst (.slice A (n + 1) c)) w') :
    if Region.wanted o (yielded ops a.tmps) = true then Oper.wp Tryz.prog o a w K Q else E := by
  obtain ⟨is, his, hs0, hs1, hs2⟩ := info_parts info_spot
  refine step_append_gen w hgd s x _ _ ho B 139 is _ 3 24 Tryz.underlying117 his hs0 hs1 hs2 rfl v n _ hv hown _ 1 _ hy (src_spot h0 h1 h2) (by unfold maxLen; omega) (by omega) hB ?_
  intro v' w' ho' hk' hn'
  obtain ⟨A, c', rfl, _⟩ := ho'.form
  refine h A c' w' (by rw [List.flatMap_append]; exact ho') hk' hn'
theorem wpList_spot {ops : Array Oper} {o : Oper} {rest : List Oper} {a : Act} {w : World} {Q : Exit → Act → World → Prop} (hgd : Region.wanted o (yielded ops a.tmps) = true) (s x : Operand)
    (ho : o.op = .call { callee := .builtin .append, args := #[s, x], argTypes := #[117, 117] }) (B : Nat) (v : Value) (n : Nat) (D : List Sp) (hn : D.length = n) (hv : a.eval s = v) (hown : Own w B 139 3 v n (D.flatMap spC)) (g : Nat)
    (hy : a.eval x = .slice (some ⟨g, 0, none⟩) 1 1) (h0 : w.cell? ⟨g, 0, none⟩ = some (.int .i64 0)) (h1 : w.cell? ⟨g, 1, none⟩ = some (.int .i64 0)) (h2 : w.cell? ⟨g, 2, none⟩ = some (.bool false)) (hk : n ≤ 1099511627776) (hB : B ≤ w.heap.size)
    (h : ∀ A c w', Own w' B 139 3 (.slice A (n + 1) c) (n + 1) ((D ++ [sp0]).flatMap spC) → Keep (fun k => ownB v = some k) w w' → (∀ k', ownB (.slice A (n + 1) c) = some k' → ownB v = some k' ∨ w.heap.size ≤ k') → wpList Tryz.prog ops Q rest (a.put o.dst (.slice A (n + 1) c)) w') :
    wpList Tryz.prog ops Q (o :: rest) a w :=
  wpList_step fun _ hK => step_spot hgd s x ho B v n D hn hv hown g hy h0 h1 h2 hk hB fun A c w' h1 h2 h3 => hK _ _ (h A c w' h1 h2 h3)
section
variable {w : World} {c : Cf} {xp q : Nat} {B : CoB} {a : Co}
/-- How many spots a core in memory has. -/
def spsW (W : World) (xp : Nat) : Nat := match W.cell? ⟨xp, 8, none⟩ with
  | some (.slice _ n _) => n
  | _ => 0
theorem spsW_of (h : CoM w c xp B q a) : spsW w xp = a.spots.length := by
  obtain ⟨_, A, cT, e, -⟩ := h.oS
  have c7 : w.cell? ⟨xp, 8, none⟩ = some B.vS := (cells_of_row' h.box).1 8 _ rfl
  unfold spsW
  rw [c7, e]
/-- A spot more, as the code lays it. -/
theorem CoM.spPush (h : CoM w c xp B q a) {w6 : World} {v' : Value} {n : Nat} {D : List Sp} (hn : D.length = n)
    (ho : Own w6 0 139 3 v' n (D.flatMap spC)) (hk6 : Keep (fun k => ownB B.vS = some k) w w6) (hn6 : ∀ k, ownB v' = some k → ownB B.vS = some k ∨ w.heap.size ≤ k) (hf : n ≤ 1024) :
    ∃ B', CoAt w c xp (CoF xp B a) q ⟨a.na, a.sigs, a.tabs, D⟩ (w6.setCell ⟨xp, 8, none⟩ v') B' ∧ B'.tp = B.tp ∧ B'.gp = B.gp := by
  subst hn
  have kX : Keep (fun b => b = xp) w6 (w6.setCell ⟨xp, 8, none⟩ v') := Keep.setCell (S := fun b => b = xp) (p := ⟨xp, 8, none⟩) (Keep.refl _ w6) (.inr rfl) _
  have hxs := (Array.getElem?_eq_some_iff.1 h.box).1
  have hvx : ownB B.vS ≠ some xp := fun e => by
    have := h.apart (.inl ⟨rfl, rfl⟩ : Cls xp B a.sigs a.tabs.length 0 xp) (.inr (.inr (.inr (.inr (.inl ⟨rfl, e⟩)))) : Cls xp B a.sigs a.tabs.length 4 xp)
    cases this
  have k6 := hk6
  have kW : Keep (fun k => k = xp ∨ ownB B.vS = some k) w (w6.setCell ⟨xp, 8, none⟩ v') := (k6.mono (T := fun k => k = xp ∨ ownB B.vS = some k) (fun _ _ h => .inr h)).trans kX (fun _ _ h => .inl h)
  have hbx := (k6.block xp hxs hvx).trans h.box
  refine h.spotsTo_ (heap_setCell_same _ xp 8 _ _ v' hbx) (ho.keep kX (fun k e1 e2 => ?_)) kW (fun k e => ?_) hf
  · have : k = xp := e2
    subst this
    rcases hn6 k e1 with e | e
    · exact hvx e
    · omega
  · exact hn6 k e
theorem CoM.vS_xp (h : CoM w c xp B q a) : ownB B.vS ≠ some xp := fun e => by
  have := h.apart (.inl ⟨rfl, rfl⟩ : Cls xp B a.sigs a.tabs.length 0 xp) (.inr (.inr (.inr (.inr (.inl ⟨rfl, e⟩)))) : Cls xp B a.sigs a.tabs.length 4 xp)
  cases this
/-- A spot turned in place. -/
theorem CoM.spAll (h : CoM w c xp B q a) {gS m cS : Nat} (hv : B.vS = .slice (some ⟨gS, 0, none⟩) m cS) (hob : ownB B.vS = some gS) {D : List Sp} (hm : D.length = m) (hm4 : m ≤ 1024) {w' : World} (hk : Keep (fun k => k = gS) w w') (ho : Own w' 0 139 3 (.slice (some ⟨gS, 0, none⟩) m cS) m (D.flatMap spC)) :
    ∃ B', CoAt w c xp (CoF xp B a) q ⟨a.na, a.sigs, a.tabs, D⟩ w' B' ∧ B'.tp = B.tp ∧ B'.gp = B.gp := by
  have hx : ¬ xp = gS := fun e => h.vS_xp (e ▸ hob)
  subst hm
  refine h.spotsTo_ (vS := B.vS) ((hk.block xp (Array.getElem?_eq_some_iff.1 h.box).1 hx).trans h.box) (by rw [hv]; exact ho) (hk.mono (fun k _ e => .inr (by have : k = gS := e; rw [this]; exact hob))) (fun k e => .inl e) hm4
theorem CoM.spSet (h : CoM w c xp B q a) {gS m cS : Nat} (hv : B.vS = .slice (some ⟨gS, 0, none⟩) m cS) (hob : ownB B.vS = some gS) (hm : a.spots.length = m) {i : Nat} (hi : i < m) (x : Sp) :
    ∃ B', CoAt w c xp (CoF xp B a) q ⟨a.na, a.sigs, a.tabs, a.spots.set i x⟩ (((w.setCell ⟨gS, i * 3, none⟩ (.int .i64 (x.node : Int))).setCell ⟨gS, i * 3 + 1, none⟩ (.int .i64 (x.row : Int))).setCell ⟨gS, i * 3 + 2, none⟩ (.bool x.there)) B' ∧ B'.tp = B.tp ∧ B'.gp = B.gp := by
  have ho := h.oS
  rw [hv, hm] at ho
  have hd : 0 < cS := by obtain ⟨_, A, c', e, hle, _⟩ := ho; injection e with e1 e2 e3; omega
  refine h.spAll hv hob (by rw [List.length_set]; exact hm) (by have := h.spf; omega) (Keep.setCell (S := fun k => k = gS) (p := ⟨gS, i * 3 + 2, none⟩) (Keep.setCell (S := fun k => k = gS) (p := ⟨gS, i * 3 + 1, none⟩) (Keep.setCell (S := fun k => k = gS) (p := ⟨gS, i * 3, none⟩) (Keep.refl _ _) (.inr rfl) _) (.inr rfl) _) (.inr rfl) _) ?_
  rw [flat_setSp _ _ _ (by omega)]
  exact own_setQ (own_setQ (own_setQ ho hd) hd) hd
theorem flat_setRow : ∀ (l : List Sp) (r n : Nat), r < l.length → (l.set r ⟨(l.getD r sp0).node, n, (l.getD r sp0).there⟩).flatMap spC = (l.flatMap spC).set (r * 3 + 1) (.int .i64 (n : Int))
  | [], _, _, h => by simp at h
  | y :: l, 0, n, _ => by simp [spC]
  | y :: l, r + 1, n, h => by
    have ih := flat_setRow l r n (by simpa using h)
    rw [List.getD_cons_succ, List.set_cons_succ, List.flatMap_cons, ih, List.flatMap_cons, show (r + 1) * 3 + 1 = (r * 3 + 1) + 3 by omega]
    simp [spC]
theorem CoM.spRow (h : CoM w c xp B q a) {gS m cS : Nat} (hv : B.vS = .slice (some ⟨gS, 0, none⟩) m cS) (hob : ownB B.vS = some gS) (hm : a.spots.length = m) {i : Nat} (hi : i < m) (n : Nat) :
    ∃ B', CoAt w c xp (CoF xp B a) q ⟨a.na, a.sigs, a.tabs, a.spots.set i ⟨(spAt a i).node, n, (spAt a i).there⟩⟩ (w.setCell ⟨gS, i * 3 + 1, none⟩ (.int .i64 (n : Int))) B' ∧ B'.tp = B.tp ∧ B'.gp = B.gp := by
  have ho := h.oS
  rw [hv, hm] at ho
  have hd : 0 < cS := by obtain ⟨_, A, c', e, hle, _⟩ := ho; injection e with e1 e2 e3; omega
  refine h.spAll hv hob (by rw [List.length_set]; exact hm) (by have := h.spf; omega) (Keep.setCell (S := fun k => k = gS) (p := ⟨gS, i * 3 + 1, none⟩) (Keep.refl _ _) (.inr rfl) _) ?_
  unfold spAt
  rw [flat_setRow _ _ _ (by omega)]
  exact own_setQ ho hd
set_option maxHeartbeats 4000000 in
theorem e_enter (h : CoM w c xp B q a) (hl : c.l.length ≤ 1000) (hT : Tab w) (hG : ¬ CoF xp B a 0) (hs : ∀ s ∈ a.sigs, s < 18446744073709551616 ∧ s &&& allOf c.l = s) (i g : Nat) (hi : i < 1024) (node : Nat) (hn : node < a.sigs.length)
    (P : List PtZ) (u : Value) (F : Nat → Prop) (hu : NS parN w F u P) (hP : P.length ≤ 1000) (hF : ∀ b, F b → ¬ CoF xp B a b) (hadd : addC (tbAt a node).ids.length (sgAt a node) (szOf c.l) P = 0) :
    Calls Tryz.prog 96 #[.pointer (some ⟨xp, 0, none⟩), .agg #[.int .i64 (i : Int), .int .i64 (g : Int)], .int .i64 (node : Int), u] w fun e w' => e = .returned (.tuple #[]) ∧ ∃ B', CoAt w c xp (CoF xp B a) q (enterC (szOf c.l) a i g node P) w' B' ∧ B'.gp = B.gp := by
  have KB := Lib.hid ((Keep.refl (fun _ => False) w).alloc (.cells #[.int .i64 (i : Int), .int .i64 (g : Int)] 40 (0, 0)))
  have HB := Lib.hid (heap_alloc_new w (.cells #[.int .i64 (i : Int), .int .i64 (g : Int)] 40 (0, 0)))
  have AT := Lib.hid (fun X (hk : Keep (fun _ => False) w X) => e_at (h.same hk) hl (hT.same hk) hG node hn hs)
  have HU := Lib.hid hu
  have HF := Lib.hid hF
  have HT := Lib.hid hT
  have HG := Lib.hid hG
  have HA := Lib.hid hadd
  have HBF := Lib.hid (fun (k : Nat) (hk : CoF xp B a k) => h.lt k hk)
  have HSP := Lib.hid h.spf
  obtain ⟨AU, cU, rfl, -, -⟩ := hu.form
  clear h hu hF hT hG hadd
  go_enter Tryz.func96, Tryz.ntmps96
  go_wp2_with fail
  with_reducible refine (AT.out _ (by exact (by repeat first | (with_reducible assumption) | (with_reducible exact Keep.refl _ _) | (with_reducible refine Keep.alloc ?_ _) | (with_reducible refine Keep.drew ?_) | (with_reducible refine Keep.drewN ?_ _) | (with_reducible refine Keep.setCell ?_ (.inl (by first | omega | (simp; done) | (simp; omega) | fail)) _)))).mono ?_
  rintro e w1 ⟨B1, rfl, hat, hgp1⟩
  have HGP1 := Lib.hid hgp1
  clear hgp1
  have HB1 := Lib.hid ((hat.2.1.block w.heap.size (by simp) (fun e => by have := HBF.out _ e; omega)).trans HB.out)
  have HZ1 := Lib.hid (show w.heap.size < w1.heap.size from (Array.getElem?_eq_some_iff.1 HB1.out).1)
  have HNB1 := Lib.hid (show ¬ CoF xp B1 (growC a (node + 1)) w.heap.size from fun e => by
    rcases hat.2.2 _ e with e | e
    · have := HBF.out _ e; omega
    · simp at e; omega)
  have HAT := Lib.hid (CoAt.from_ KB.out hat)
  clear hat AT
  have ht1 : (growC a (node + 1)).tabs[node]? = some (tbAt a node) := by
    have := getD_at tz0 (l := (growC a (node + 1)).tabs) (j := node) (by simp [growC]; omega)
    rw [this]
    exact congrArg some (tbAt_grow a (node + 1) node)
  have HT1 := Lib.hid ht1
  have TD := Lib.hid (HAT.out.1.tab node _ ht1)
  have hTG := HAT.out.tab HT.out HG.out
  have HU1 := Lib.hid (NS.mono (G := fun b => F b ∧ b < w.heap.size) ((NS.mono (G := fun b => F b ∧ b < w.heap.size) HU.out (fun b hb h => ⟨h, hb⟩)).keep HAT.out.2.1 (fun b hb h => HF.out b h.1)) (fun b hb h => h))
  have TA := Lib.hid (tb_add TD.out.1 TD.out.2 hTG.1 ⟨(i : Int), (g : Int)⟩ P (.slice AU P.length cU) (fun b => F b ∧ b < w.heap.size) HU1.out hP (fun b hb ht => by
    rcases HAT.out.2.2 b ⟨6 + node, .inr (.inr (.inr (.inr (.inr (.inr ⟨node, rfl, (List.getElem?_eq_some_iff.1 HT1.out).1, ht⟩)))))⟩ with e | e
    · exact HF.out b hb.1 e
    · have := hb.2; omega))
  clear hTG ht1 HU1 HU
  obtain ⟨b0, b1, bf⟩ := cells2 HB1.out
  go_wp2_with fail
  with_reducible refine (TA.out).mono ?_
  rintro e w2 ⟨rfl, hto⟩
  have HTO := Lib.hid (CoM.tabTo_ HAT.out.1 (j := node) (List.getElem?_eq_some_iff.1 HT1.out).1 hto (add_lens (sz := szOf c.l) TD.out.2 ⟨(i : Int), (g : Int)⟩ P))
  clear hto TA
  have EI : addI ((growC a (node + 1)).sigs.getD node 0) (szOf c.l) (tbAt a node).ids ⟨(i : Int), (g : Int)⟩ P = (tbAt a node).ids ++ [⟨(i : Int), (g : Int)⟩] := by
    unfold addI; rw [show addC (tbAt a node).ids.length ((growC a (node + 1)).sigs.getD node 0) (szOf c.l) P = 0 from HA.out, if_pos rfl]
  have EK : addK (tbAt a node).ids.length ((growC a (node + 1)).sigs.getD node 0) (szOf c.l) (tbAt a node).col P = colA P (szOf c.l) (tbAt a node).col (bl (sgAt a node) 64) := by
    unfold addK; rw [show addC (tbAt a node).ids.length ((growC a (node + 1)).sigs.getD node 0) (szOf c.l) P = 0 from HA.out, if_pos rfl]; rfl
  rw [EI, EK] at HTO
  clear EI EK
  obtain ⟨B2, h2, e2⟩ := HTO.out
  have hlt2 : node < ((growC a (node + 1)).tabs.set node ⟨(tbAt a node).ids ++ [⟨(i : Int), (g : Int)⟩], colA P (szOf c.l) (tbAt a node).col (bl (sgAt a node) 64)⟩).length := by rw [List.length_set]; exact (List.getElem?_eq_some_iff.1 HT1.out).1
  have htn2 : ((growC a (node + 1)).tabs.set node ⟨(tbAt a node).ids ++ [⟨(i : Int), (g : Int)⟩], colA P (szOf c.l) (tbAt a node).col (bl (sgAt a node) 64)⟩)[node]? = some ⟨(tbAt a node).ids ++ [⟨(i : Int), (g : Int)⟩], colA P (szOf c.l) (tbAt a node).col (bl (sgAt a node) 64)⟩ := by
    rw [List.getElem?_set_self (List.getElem?_eq_some_iff.1 HT1.out).1]
  have HB2 := Lib.hid ((h2.2.1.block w.heap.size HZ1.out HNB1.out).trans HB1.out)
  have HNB2 := Lib.hid (show ¬ CoF xp B2 _ w.heap.size from fun e => by
    rcases h2.2.2 _ e with e | e
    · exact HNB1.out e
    · have := HZ1.out; omega)
  have H2 := Lib.hid (CoAt.then_ HAT.out h2)
  have E2 := Lib.hid e2.1
  have G2 := Lib.hid (e2.2.trans HGP1.out)
  have EN := Lib.hid (show enterC (szOf c.l) a i g node P = ⟨a.na, a.sigs, (growC a (node + 1)).tabs.set node ⟨(tbAt a node).ids ++ [⟨(i : Int), (g : Int)⟩], colA P (szOf c.l) (tbAt a node).col (bl (sgAt a node) 64)⟩, (padS a.spots (i + 1)).set i ⟨node, (tbAt a node).ids.length, true⟩⟩ from rfl)
  change Hid (CoAt w c xp (CoF xp B a) q ⟨a.na, a.sigs, _, a.spots⟩ w2 B2) at H2
  change Hid (¬ CoF xp B2 ⟨a.na, a.sigs, _, a.spots⟩ w.heap.size) at HNB2
  clear h2 e2 HTO HAT TD HNB1 HB1 HT1
  generalize (growC a (node + 1)).tabs.set node ⟨(tbAt a node).ids ++ [⟨(i : Int), (g : Int)⟩], colA P (szOf c.l) (tbAt a node).col (bl (sgAt a node) 64)⟩ = T2 at *
  have hn0 : (tbAt a node).ids.length ≤ 1024 := by
    have := (H2.out.1.tab node _ htn2).1.few
    rw [List.length_append] at this; omega
  have HTN := Lib.hid htn2
  clear htn2
  obtain ⟨M, hM⟩ : ∃ M, a.spots.length = M := ⟨_, rfl⟩
  have HM := Lib.hid hM
  have hM4 : M ≤ 1024 := by have := HSP.out; omega
  clear hM
  go_wp2
  go_loopw [] (fun wr => ∃ (m : Nat) (B3 : CoB), M ≤ m ∧ m ≤ max M (i + 1) ∧ Hid (CoAt w c xp (CoF xp B a) q ⟨a.na, a.sigs, T2, padS a.spots m⟩ wr B3) ∧ Hid (B3.tp = B1.tp) ∧ Hid (B3.gp = B.gp) ∧ Hid (wr.heap[w.heap.size]? = some (.cells #[.int .i64 (i : Int), .int .i64 (g : Int)] 40 (0, 0))) ∧ Hid (¬ CoF xp B3 ⟨a.na, a.sigs, T2, padS a.spots m⟩ w.heap.size)) (fun wr => i + 1 - spsW wr xp)
  case atStart => exact ⟨M, B2, Nat.le_refl _, Nat.le_max_left _ _, Lib.hid (by rw [padS_no (by have := HM.out; omega)]; exact H2.out), E2, G2, HB2, Lib.hid (by rw [padS_no (by have := HM.out; omega)]; exact HNB2.out)⟩
  case round =>
    obtain ⟨m, B3, h1, h2, hst, ht3, hg3, hb3, hnb3⟩ := hrel
    have hm4 : m ≤ 1024 := by omega
    have hlen : (padS a.spots m).length = m := padS_len (by have := HM.out; omega)
    have HLN := Lib.hid hlen
    obtain ⟨tt, tf⟩ := cells_of_row' hst.out.1.box
    have c8 : wr.cell? ⟨xp, 8, none⟩ = some B3.vS := tt 8 _ rfl
    clear tt
    obtain ⟨b0, b1, bf⟩ := cells2 hb3.out
    have HOS := Lib.hid hst.out.1.oS
    have SW := Lib.hid (show spsW wr xp = m from (spsW_of hst.out.1).trans hlen)
    rw [hlen] at HOS
    obtain ⟨_, AS, cS, hvS, -⟩ := HOS.out
    have HV := Lib.hid hvS
    rw [hvS] at c8 HOS
    clear hvS hlen
    have hxp : xp < wr.heap.size := (Array.getElem?_eq_some_iff.1 hst.out.1.box).1
    by_cases hcase : m ≤ i
    · have hi : (m : Int) ≤ (i : Int) := by omega
      have HBX := Lib.hid hst.out.1.box
      have HVX := Lib.hid (show ownB (Value.slice AS m cS) ≠ some xp from fun e => by
        rw [← HV.out] at e
        have := hst.out.1.apart (.inl ⟨rfl, rfl⟩ : Cls xp B3 _ _ 0 xp) (.inr (.inr (.inr (.inr (.inl ⟨rfl, e⟩)))) : Cls xp B3 _ _ 4 xp)
        cases this)
      go_upto_region 3 with fail
      go_region
      go_wp2_with (first
        | (at_builtin; refine wpList_spot (by rfl) _ _ (by rfl) 0 _ m (padS a.spots m) HLN.out (by rfl) (HOS.out.keep (S := fun _ => False) (by exact (by repeat first | (with_reducible assumption) | (with_reducible exact Keep.refl _ _) | (with_reducible refine Keep.alloc ?_ _) | (with_reducible refine Keep.drew ?_) | (with_reducible refine Keep.drewN ?_ _) | (with_reducible refine Keep.setCell ?_ (.inl (by first | omega | (simp; done) | (simp; omega) | fail)) _))) (fun _ _ h => h)) _ (by rfl) (by simp) (by simp) (by simp) (by omega) (by simp) ?_)
        | fail)
      intro A6 c6 w6 ho6 hk6 hn6
      have KK6 : Keep (fun k => ownB (Value.slice AS m cS) = some k) wr w6 := Keep.trans (T := fun k => ownB (Value.slice AS m cS) = some k) (by exact (by repeat first | (with_reducible assumption) | (with_reducible exact Keep.refl _ _) | (with_reducible refine Keep.alloc ?_ _) | (with_reducible refine Keep.drew ?_) | (with_reducible refine Keep.drewN ?_ _) | (with_reducible refine Keep.setCell ?_ (.inl (by first | omega | (simp; done) | (simp; omega) | fail)) _))) hk6 (fun _ _ h => h)
      obtain ⟨B4, PU, e4⟩ := CoM.spPush hst.out.1 (w6 := w6) (v' := .slice A6 (m + 1) c6) (n := m + 1) (D := padS a.spots (m + 1)) (padS_len (by have := HM.out; omega)) (by rw [padS_next (by have := HM.out; omega), List.flatMap_append, List.flatMap_cons, List.flatMap_nil, List.append_nil]; exact ho6) (by rw [HV.out]; exact KK6) (by rw [HV.out]; exact fun k e => (hn6 k e).imp_right (fun e => by omega)) (by omega)
      change CoAt wr c xp (CoF xp B3 ⟨a.na, a.sigs, T2, padS a.spots m⟩) q ⟨a.na, a.sigs, T2, padS a.spots (m + 1)⟩ _ B4 at PU
      have h0w : w.heap.size < wr.heap.size := (Array.getElem?_eq_some_iff.1 hb3.out).1
      have R1 := Lib.hid (hst.out.then_ PU)
      have R2 := Lib.hid (e4.1.trans ht3.out)
      have R6 := Lib.hid (e4.2.trans hg3.out)
      have R3 := Lib.hid ((PU.2.1.block w.heap.size h0w hnb3.out).trans hb3.out)
      have R4 := Lib.hid (show ¬ CoF xp B4 ⟨a.na, a.sigs, T2, padS a.spots (m + 1)⟩ w.heap.size from fun e => by
        rcases PU.2.2 _ e with e | e
        · exact hnb3.out e
        · omega)
      have R5 := Lib.hid (show spsW (w6.setCell ⟨xp, 8, none⟩ (.slice A6 (m + 1) c6)) xp = m + 1 from (spsW_of PU.1).trans (padS_len (by have := HM.out; omega)))
      have hb6 := (KK6.block xp hxp HVX.out).trans HBX.out
      obtain ⟨q0, qf⟩ := cells_of_row' hb6
      clear ho6 hk6 hn6 KK6 hb6 PU e4
      go_wp2
      go_roundw
      case rel => exact ⟨m + 1, B4, by omega, by omega, R1, R2, R6, R3, R4⟩
      case measure => rw [SW.out, R5.out]; omega
    · have hi : ¬ (m : Int) ≤ (i : Int) := by omega
      have EG := Lib.hid (show padS a.spots m = padS a.spots (i + 1) from by
        by_cases h3 : M ≤ i + 1
        · have : m = i + 1 := by omega
          rw [this]
        · rw [padS_no (by have := HM.out; omega), padS_no (by have := HM.out; omega)])
      have TL := Lib.hid (fun X (hk : Keep (fun _ => False) wr X) => tb_len ((hst.out.1.tab node _ HTN.out).1.same hk))
      rw [ht3.out] at TL
      simp only [List.length_append, List.length_singleton] at TL
      obtain ⟨gS, cS', hv, hc1, hc2, hob, -, hgl, hcell⟩ := own_blkQ HOS.out (by omega)
      injection hv with e1 e2 e3
      subst e1
      subst e3
      obtain ⟨hcv, hcf⟩ := hcell wr (Keep.refl _ _)
      obtain ⟨s0, s1, s2⟩ := flat_atSp (l := padS a.spots m) (k := i) (by rw [HLN.out]; omega)
      have s0 := hcv _ _ s0
      have s1 := hcv _ _ s1
      have s2 := hcv _ _ s2
      have hg0 : (i : Int) < (m : Int) := by omega
      clear hcell hcv
      obtain ⟨B5, PU, -, g5⟩ := CoM.spSet hst.out.1 (i := i) HV.out (by rw [HV.out]; exact hob) HLN.out (by omega) ⟨node, (tbAt a node).ids.length, true⟩
      have FIN := Lib.hid (show CoAt w c xp (CoF xp B a) q (enterC (szOf c.l) a i g node P) _ B5 from by rw [EN.out, ← EG.out]; exact hst.out.then_ PU)
      have G5 := Lib.hid (g5.trans hg3.out)
      clear PU g5
      have hwL : IntKind.i64.wrap ((tbAt a node).ids.length : Int) = ((tbAt a node).ids.length : Int) := IntWalk.i64_in _ (by omega)
      go_upto_region 3 with fail
      go_region
      go_upto_region 5 with fail
      go_region_law (first
        | (go_simp; go_at_call 76; (with_reducible refine (TL.out _ (by exact (by repeat first | (with_reducible assumption) | (with_reducible exact Keep.refl _ _) | (with_reducible refine Keep.alloc ?_ _) | (with_reducible refine Keep.drew ?_) | (with_reducible refine Keep.drewN ?_ _) | (with_reducible refine Keep.setCell ?_ (.inl (by first | omega | (simp; done) | (simp; omega) | fail)) _)))).mono ?_); rintro e w4 ⟨rfl, rfl⟩)
        | fail)
      all_goals
        go_wp2
        go_end0
        exact ⟨rfl, B5, FIN.out.same (by exact (by repeat first | (with_reducible assumption) | (with_reducible exact Keep.refl _ _) | (with_reducible refine Keep.alloc ?_ _) | (with_reducible refine Keep.drew ?_) | (with_reducible refine Keep.drewN ?_ _) | (with_reducible refine Keep.setCell ?_ (.inl (by first | omega | (simp; done) | (simp; omega) | fail)) _))), G5.out⟩
end
end Go.Proofs.YtglliendhbkkhaaGreatDoor
namespace Go.Proofs.YtglliendhbkkhaaGreatDoor
open Go.RowKit
set_option maxRecDepth 100000
set_option linter.unusedVariables false
set_option linter.unusedSimpArgs false

/-- Where leave ends: the parts in blocks from lo to hi, none of them the core's. -/
def LvPost (w : World) (c : Cf) (xp : Nat) (B : CoB) (q : Nat) (a : Co) (i : Nat) (e : Ending) (w' : World) : Prop :=
  ∃ A n cc lo hi B', e = .returned (.slice A n cc) ∧ w.heap.size ≤ lo ∧ lo ≤ hi ∧ hi ≤ w'.heap.size ∧ NBX parN (fun b => lo ≤ b ∧ b < hi) lo 91 w' (.slice A n cc) (entP a i) ∧ (∀ k, ownB (.slice A n cc) = some k → k < hi) ∧ CoAt w c xp (CoF xp B a) q (leaveC a i) w' B' ∧ (∀ k, CoF xp B' (leaveC a i) k → k < lo ∨ hi ≤ k) ∧ w'.heap[xp]? = w.heap[xp]?
section
variable {w : World} {c : Cf} {xp q : Nat} {B : CoB} {a : Co}
/-- The spots, as the code sees them. -/
theorem CoM.viewS (h : CoM w c xp B q a) (h0 : 0 < a.spots.length) : ∃ gS cS, B.vS = .slice (some ⟨gS, 0, none⟩) a.spots.length cS ∧ ownB B.vS = some gS ∧ gS ≠ xp ∧ gS < w.heap.size ∧ a.spots.length ≤ cS ∧ cS ≤ maxLen ∧ ∀ W, Keep (fun _ => False) w W → W.cell? ⟨xp, 8, none⟩ = some (.slice (some ⟨gS, 0, none⟩) a.spots.length cS) ∧ (∀ k, k < a.spots.length → W.cell? ⟨gS, k * 3, none⟩ = some (.int .i64 ((spAt a k).node : Int)) ∧ W.cell? ⟨gS, k * 3 + 1, none⟩ = some (.int .i64 ((spAt a k).row : Int)) ∧ W.cell? ⟨gS, k * 3 + 2, none⟩ = some (.bool (spAt a k).there)) ∧ ∀ o, W.frozen? ⟨gS, o, none⟩ = false := by
  obtain ⟨gS, cS, hvS, h1, h2, hoS, -, hgS, hcS⟩ := own_blkQ h.oS h0
  have c8 : w.cell? ⟨xp, 8, none⟩ = some B.vS := (cells_of_row' h.box).1 8 _ rfl
  rw [hvS] at c8
  refine ⟨gS, cS, hvS, hoS, fun e => h.vS_xp (e ▸ hoS), hgS, h1, h2, fun W hk => ⟨hk.cell (fun h => h) c8, fun k hk2 => ?_, (hcS W hk).2⟩⟩
  obtain ⟨f0, f1, f2⟩ := flat_atSp (l := a.spots) hk2
  exact ⟨(hcS W hk).1 _ _ f0, (hcS W hk).1 _ _ f1, (hcS W hk).1 _ _ f2⟩
theorem CoM.viewT (h : CoM w c xp B q a) {j : Nat} (hj : j < a.tabs.length) : ∃ gT cT, a.tabs.length ≤ cT ∧ cT ≤ maxLen ∧ ∀ W, Keep (fun _ => False) w W → W.cell? ⟨xp, 7, none⟩ = some (.slice (some ⟨gT, 0, none⟩) a.tabs.length cT) ∧ W.cell? ⟨gT, j, none⟩ = some (.pointer (some ⟨B.tp j, 0, none⟩)) := by
  obtain ⟨gT, cT, hvT, h1, h2, hcT⟩ := h.tpAt hj
  have c7 : w.cell? ⟨xp, 7, none⟩ = some B.vT := (cells_of_row' h.box).1 7 _ rfl
  rw [hvT] at c7
  exact ⟨gT, cT, h1, h2, fun W hk => ⟨hk.cell (fun h => h) c7, hcT W hk⟩⟩
theorem lv_end {w3 Z : World} {B7 : CoB} {i n3 c3 : Nat} {A3 : Option Addr} (KW3 : Keep (fun _ => False) w w3) (hz3 : w.heap.size + 2 ≤ w3.heap.size) (P3 : NBX parN (fun b => w.heap.size + 2 ≤ b ∧ b < w3.heap.size) (w.heap.size + 2) 91 w3 (.slice A3 n3 c3) (entP a i) ∧ ∀ k, ownB (Value.slice A3 n3 c3) = some k → w.heap.size + 2 ≤ k ∧ k < w3.heap.size) (hlt0 : ∀ k, CoF xp B a k → k < w.heap.size)
    (H8 : CoAt w3 c xp (CoF xp B a) q (leaveC a i) Z B7) (HX8 : Z.heap[xp]? = w.heap[xp]?) : LvPost w c xp B q a i (.returned (.slice A3 n3 c3)) Z := by
  refine ⟨A3, n3, c3, w.heap.size + 2, w3.heap.size, B7, rfl, by omega, hz3, ?_, ?_, fun k e => (P3.2 k e).2, CoAt.from_ KW3 H8, fun k hk => ?_, HX8⟩
  · exact H8.2.1.size
  · exact P3.1.keep H8.2.1 (fun k e h => by have := hlt0 k h; have := (P3.2 k e).1; omega) (fun b _ hb _ h => by have := hlt0 b h; omega)
  · rcases H8.2.2 k hk with h | h
    · have := hlt0 k h; omega
    · exact .inr h
set_option maxHeartbeats 4000000 in
theorem e_leave (h : CoM w c xp B q a) (hT : Tab w) (hG : ¬ CoF xp B a 0) (i g : Nat) (hi : i < a.spots.length) (hn : (spAt a i).node < a.tabs.length) (hr : (spAt a i).row < (tbAt a (spAt a i).node).ids.length)
    (hx : ∀ x ∈ (tbAt a (spAt a i).node).ids, 0 ≤ x.ix ∧ x.ix.toNat < a.spots.length) :
    Calls Tryz.prog 100 #[.pointer (some ⟨xp, 0, none⟩), .agg #[.int .i64 (i : Int), .int .i64 (g : Int)]] w (LvPost w c xp B q a i) := by
  obtain ⟨⟨j, r, th⟩, hsp⟩ : ∃ s, spAt a i = s := ⟨_, rfl⟩
  rw [hsp] at hn hr hx
  dsimp only at hn hr hx
  have KB := Lib.hid ((Keep.refl (fun _ => False) w).alloc (.cells #[.int .i64 (i : Int), .int .i64 (g : Int)] 40 (0, 0)))
  have HB := Lib.hid (heap_alloc_new w (.cells #[.int .i64 (i : Int), .int .i64 (g : Int)] 40 (0, 0)))
  have H := Lib.hid h
  have HT := Lib.hid hT
  have HG := Lib.hid hG
  have HSP := Lib.hid hsp
  have HX := Lib.hid hx
  have ht1 : a.tabs[j]? = some (tbAt a j) := getD_at tz0 hn
  have TD := Lib.hid (h.tab j _ ht1)
  obtain ⟨gT, cT, hcT1, hcT2, VT⟩ := h.viewT hn
  obtain ⟨gS, cS, -, -, gSx, hgS, hcS1, hcS2, VS⟩ := h.viewS (by omega)
  have xp0 := (Array.getElem?_eq_some_iff.1 h.box).1
  obtain ⟨b0, b1, bf⟩ := cells2 HB.out
  have SX := Lib.hid (show ∀ W', Keep (fun _ => False) (w.alloc (.cells #[.int .i64 (i : Int), .int .i64 (g : Int)] 40 (0, 0))) W' → ((W'.cell? ⟨xp, 7, none⟩ = some (.slice (some ⟨gT, 0, none⟩) a.tabs.length cT) ∧ W'.cell? ⟨xp, 8, none⟩ = some (.slice (some ⟨gS, 0, none⟩) a.spots.length cS) ∧ W'.cell? ⟨w.heap.size, 0, none⟩ = some (.int .i64 (i : Int)) ∧ W'.cell? ⟨gS, i * 3, none⟩ = some (.int .i64 (j : Int)) ∧ W'.cell? ⟨gS, i * 3 + 1, none⟩ = some (.int .i64 (r : Int)) ∧ W'.cell? ⟨gS, i * 3 + 2, none⟩ = some (.bool th) ∧ W'.cell? ⟨gT, j, none⟩ = some (.pointer (some ⟨B.tp j, 0, none⟩))) ∧ Keep (fun _ => False) (w.alloc (.cells #[.int .i64 (i : Int), .int .i64 (g : Int)] 40 (0, 0))) W') from fun W' hk => by
    have hk0 := KB.out.trans hk (fun _ _ h => h)
    obtain ⟨v1, v2, -⟩ := VS W' hk0
    have v3 := v2 i hi
    rw [hsp] at v3
    exact ⟨⟨(VT W' hk0).1, v1, hk.cell (fun h => h) b0, v3.1, v3.2.1, v3.2.2, (VT W' hk0).2⟩, hk⟩)
  have EP := Lib.hid (show entP a i = rowT (sgAt a j) (tbAt a j).col r from by unfold entP; rw [hsp])
  have EL := Lib.hid (show leaveC a i = ⟨a.na, a.sigs, a.tabs.set j ⟨dropI (tbAt a j).ids (r : Int), dropK (tbAt a j).ids.length (sgAt a j) (tbAt a j).col (r : Int)⟩, (moveS a ⟨j, r, th⟩).set i sp0⟩ from by unfold leaveC; rw [hsp])
  have i0 : (i : Int) < (a.spots.length : Int) := by omega
  have j0 : (j : Int) < (a.tabs.length : Int) := by omega
  have hnw : ¬ xp = w.heap.size := by omega
  have hng : ¬ gS = w.heap.size := by omega
  have PA := Lib.hid (fun X (hk : Keep (fun _ => False) w X) => tb_partsX (TD.out.1.same hk) TD.out.2 (HT.out.same hk) (r : Int))
  have hrc : rowC (tbAt a j).ids.length (r : Int) = 0 := by unfold rowC; rw [if_neg (by omega)]
  rw [hrc] at PA
  simp only [if_pos, Int.toNat_natCast] at PA
  clear h hT hG hsp hx ht1 VS VT b0 b1
  obtain ⟨c7, c8, b0, f0, f1, f2, ct⟩ := (SX.out _ (Keep.refl _ _)).1
  go_enter Tryz.func100, Tryz.ntmps100
  go_upto_region 1 with fail
  go_region_held3 (fun W' => (W'.cell? ⟨xp, 7, none⟩ = some (.slice (some ⟨gT, 0, none⟩) a.tabs.length cT) ∧ W'.cell? ⟨xp, 8, none⟩ = some (.slice (some ⟨gS, 0, none⟩) a.spots.length cS) ∧ W'.cell? ⟨w.heap.size, 0, none⟩ = some (.int .i64 (i : Int)) ∧ W'.cell? ⟨gS, i * 3, none⟩ = some (.int .i64 (j : Int)) ∧ W'.cell? ⟨gS, i * 3 + 1, none⟩ = some (.int .i64 (r : Int)) ∧ W'.cell? ⟨gS, i * 3 + 2, none⟩ = some (.bool th) ∧ W'.cell? ⟨gT, j, none⟩ = some (.pointer (some ⟨B.tp j, 0, none⟩))) ∧ Keep (fun _ => False) (w.alloc (.cells #[.int .i64 (i : Int), .int .i64 (g : Int)] 40 (0, 0))) W') (exact SX.out _ (by exact (by repeat first | (with_reducible assumption) | (with_reducible exact Keep.refl _ _) | (with_reducible refine Keep.alloc ?_ _) | (with_reducible refine Keep.drew ?_) | (with_reducible refine Keep.drewN ?_ _) | (with_reducible refine Keep.setCell ?_ (.inl (by first | omega | (simp; done) | (simp; omega) | fail)) _)))) (fail)
  go_upto_region 2 with fail
  refine wp_world (S := fun X => Keep (fun _ => False) (w.alloc (.cells #[.int .i64 (i : Int), .int .i64 (g : Int)] 40 (0, 0))) X ∧ X.heap[w.heap.size + 1]? = some (.cells #[.int .i64 (j : Int), .int .i64 (r : Int), .bool th] 139 (0, 0)) ∧ X.heap.size = w.heap.size + 2) ⟨by exact (by repeat first | (with_reducible assumption) | (with_reducible exact Keep.refl _ _) | (with_reducible refine Keep.alloc ?_ _) | (with_reducible refine Keep.drew ?_) | (with_reducible refine Keep.drewN ?_ _) | (with_reducible refine Keep.setCell ?_ (.inl (by first | omega | (simp; done) | (simp; omega) | fail)) _)), heap_alloc_at _ _ _ (by simp), by simp⟩ ?_
  rintro X ⟨hk2, hs2, hz2⟩
  obtain ⟨⟨c7, c8, b0, f0, f1, f2, ct⟩, -⟩ := SX.out X hk2
  obtain ⟨s0, s1, s2, sf⟩ := cells3 hs2
  have K2 := Lib.hid (And.intro hk2 hs2)
  clear hk2 hs2
  go_region
  go_wp2_with fail
  with_reducible refine (PA.out _ (by exact KB.out.trans (T := fun _ => False) (K2.out.1.drew) (fun _ _ h => h))).mono ?_
  rintro e w3 ⟨A3, n3, c3, rfl, hnb, hb3⟩
  have hz3 : w.heap.size + 2 ≤ w3.heap.size := by have := hb3.size; have : X.drew.heap.size = X.heap.size := rfl; omega
  have K3 := Lib.hid (show Keep (fun _ => False) X w3 from (Keep.refl (fun _ => False) X).drew.trans (Keep.of_below' hb3) (fun _ _ h => h))
  have KW3 := Lib.hid (KB.out.trans (K2.out.1.trans K3.out (fun _ _ h => h)) (fun _ _ h => h))
  have P3 := Lib.hid (show NBX parN (fun b => w.heap.size + 2 ≤ b ∧ b < w3.heap.size) (w.heap.size + 2) 91 w3 (.slice A3 n3 c3) (entP a i) ∧ ∀ k, ownB (Value.slice A3 n3 c3) = some k → w.heap.size + 2 ≤ k ∧ k < w3.heap.size from by
    rw [EP.out]
    have e0 : X.drew.heap.size = w.heap.size + 2 := hz2
    rw [e0] at hnb
    obtain ⟨us, h1, h2, h3⟩ := hnb
    exact ⟨⟨us, h1, h2, fun i' x v hx hv => parN.mono (h3 i' x v hx hv) (fun b hb h => ⟨⟨h.1, hb⟩, h.2⟩)⟩, fun k hk => h2.ownB k hk⟩)
  have S3 := Lib.hid ((K3.out.block (w.heap.size + 1) (by omega) (fun h => h)).trans K2.out.2)
  have I3 := Lib.hid (((K2.out.1.trans K3.out (fun _ _ h => h)).block w.heap.size (by simp) (fun h => h)).trans HB.out)
  obtain ⟨s0, s1, s2, sf⟩ := cells3 S3.out
  have H3 := Lib.hid (H.out.same KW3.out)
  have DR := Lib.hid (tb_drop (TD.out.1.same KW3.out) TD.out.2 (HT.out.same KW3.out) (r : Int))
  have hLW := Lib.hid (drop_lens TD.out.2 (r : Int) (by omega))
  rw [hrc] at DR
  clear hnb hb3 c7 c8 b0 f0 f1 f2 ct
  obtain ⟨⟨⟨mx, mg⟩, ok⟩, hmv⟩ : ∃ mv, movedT (tbAt a j).ids (r : Int) = mv := ⟨_, rfl⟩
  have HMS := Lib.hid (show moveS a ⟨j, r, th⟩ = if ok = true then a.spots.set mx.toNat ⟨(spAt a mx.toNat).node, r, (spAt a mx.toNat).there⟩ else a.spots from by unfold moveS; dsimp only; rw [hmv])
  have HMX := Lib.hid (show ok = true → ∃ km : Nat, mx = (km : Int) ∧ km < a.spots.length from fun e => by
    have h1 : movedT (tbAt a j).ids (r : Int) = ((tbAt a j).ids.getD ((tbAt a j).ids.length - 1) default, true) ∨ movedT (tbAt a j).ids (r : Int) = (zeroId, false) := by
      unfold movedT; split
      · exact .inl rfl
      · exact .inr rfl
    rw [hmv, e] at h1
    rcases h1 with h1 | h1
    · injection h1 with h1 _
      have hm : (⟨mx, mg⟩ : IdZ) ∈ (tbAt a j).ids := by
        rw [h1, List.getD_eq_getElem?_getD, List.getElem?_eq_getElem (show (tbAt a j).ids.length - 1 < (tbAt a j).ids.length by omega)]; exact List.getElem_mem _
      have := HX.out _ hm
      exact ⟨mx.toNat, by dsimp only at this; omega, this.2⟩
    · injection h1 with _ h1; cases h1)
  rw [hmv] at DR
  clear hmv
  dsimp only at DR
  go_wp2_with fail
  with_reducible refine DR.out.mono ?_
  rintro e w4 ⟨rfl, hto⟩
  obtain ⟨B4, h4, -⟩ := H3.out.tabTo_ (j := j) hn hto hLW.out
  have H4 := Lib.hid h4
  have hlt0 := Lib.hid (fun k (hk : CoF xp B a k) => H.out.lt k hk)
  have X4 := Lib.hid (show w4.heap[xp]? = w.heap[xp]? from by
    obtain ⟨_, _, _, _, _, hkt, _⟩ := hto
    refine (hkt.block xp (by omega) (fun e => ?_)).trans (KW3.out.block xp (by omega) (fun h => h))
    have := H.out.apart (.inl ⟨rfl, rfl⟩ : Cls xp B a.sigs a.tabs.length 0 xp) (.inr (.inr (.inr (.inr (.inr (.inr ⟨j, rfl, hn, e⟩))))) : Cls xp B a.sigs a.tabs.length (6 + j) xp)
    omega)
  have S4 := Lib.hid ((h4.2.1.block (w.heap.size + 1) (by omega) (fun e => by have := hlt0.out _ e; omega)).trans S3.out)
  have I4 := Lib.hid ((h4.2.1.block w.heap.size (by omega) (fun e => by have := hlt0.out _ e; omega)).trans I3.out)
  have hz4 := h4.2.1.size
  obtain ⟨s0, s1, s2, sf⟩ := cells3 S4.out
  obtain ⟨b0, b1, bf⟩ := cells2 I4.out
  clear hto h4 DR PA
  change Hid (CoAt w3 c xp (CoF xp B a) q ⟨a.na, a.sigs, a.tabs.set j ⟨dropI (tbAt a j).ids (r : Int), dropK (tbAt a j).ids.length (sgAt a j) (tbAt a j).col (r : Int)⟩, a.spots⟩ w4 B4) at H4
  rw [EL.out.symm.trans EL.out] at EL
  generalize hT2 : a.tabs.set j ⟨dropI (tbAt a j).ids (r : Int), dropK (tbAt a j).ids.length (sgAt a j) (tbAt a j).col (r : Int)⟩ = T2 at H4 EL
  clear hT2
  have hspl : 0 < a.spots.length := by omega
  obtain ⟨gS4, cS4, hvS4, hoS4, gSx4, hgS4, hcS41, hcS42, VS4⟩ := CoM.viewS H4.out.1 hspl
  dsimp only at hvS4 hcS41 VS4
  have HV4 := Lib.hid VS4
  have HO4 := Lib.hid (And.intro hvS4 hoS4)
  have NG4 := Lib.hid (show ¬ gS4 = w.heap.size from fun e => by
    rcases H4.out.2.2 gS4 ⟨4, .inr (.inr (.inr (.inr (.inl ⟨rfl, hoS4⟩))))⟩ with h | h
    · have := hlt0.out _ h; omega
    · omega)
  clear VS4 hvS4 hoS4
  cases ok with
  | true =>
    obtain ⟨km, rfl, hkm⟩ := HMX.out rfl
    have n64 : ¬ gS4 = w4.heap.size := by omega
    have n65 : ¬ w4.heap.size = gS4 := by omega
    obtain ⟨v1, v2, v3⟩ := HV4.out (w4.alloc (.cells #[.int .i64 (km : Int), .int .i64 mg] 40 (0, 0))) ((Keep.refl _ _).alloc _)
    obtain ⟨y0, y1, y2⟩ := v2 km hkm
    have d1 : (w4.alloc (.cells #[.int .i64 (km : Int), .int .i64 mg] 40 (0, 0))).cell? ⟨w.heap.size + 1, 1, none⟩ = some (.int .i64 (r : Int)) := ((Keep.refl (fun _ => False) w4).alloc _).cell (fun h => h) s1
    have k0 : (km : Int) < (a.spots.length : Int) := by omega
    obtain ⟨B5, h5, -⟩ := CoM.spRow H4.out.1 (i := km) HO4.out.1 HO4.out.2 rfl hkm r
    have H5 := Lib.hid h5
    clear v2 h5
    go_upto_region 6 with fail
    go_region
    go_upto_region 7 with fail
    refine wp_world (S := fun Y => (∃ B5, CoAt w3 c xp (CoF xp B a) q ⟨a.na, a.sigs, T2, moveS a ⟨j, r, th⟩⟩ Y B5) ∧ Y.heap[w.heap.size]? = some (.cells #[.int .i64 (i : Int), .int .i64 (g : Int)] 40 (0, 0)) ∧ Y.heap[xp]? = w.heap[xp]?) ?_ ?_
    · have KX : Keep (fun _ => False) (w4.setCell ⟨gS4, km * 3 + 1, none⟩ (.int .i64 (r : Int))) ((w4.setCell ⟨gS4, km * 3 + 1, none⟩ (.int .i64 (r : Int))).alloc (.cells #[.int .i64 (km : Int), .int .i64 mg] 40 (0, 0))).drew := ((Keep.refl _ _).alloc _).drew
      refine ⟨⟨B5, ?_⟩, ?_, ?_⟩
      · have := (H4.out.then_ H5.out).same KX
        rw [HMS.out, if_pos trivial, Int.toNat_natCast]
        exact this
      · refine (KX.block w.heap.size (by simp; omega) (fun h => h)).trans ?_
        exact ((Keep.refl (fun k => k = gS4) w4).setCell (p := ⟨gS4, km * 3 + 1, none⟩) (.inr rfl) _).block w.heap.size (by omega) (fun e => NG4.out e.symm) |>.trans I4.out
      · refine (KX.block xp (by simp; omega) (fun h => h)).trans ?_
        exact ((Keep.refl (fun k => k = gS4) w4).setCell (p := ⟨gS4, km * 3 + 1, none⟩) (.inr rfl) _).block xp (by omega) (fun e => gSx4 e.symm) |>.trans X4.out
    rintro Y ⟨⟨B6, h6⟩, hi6, hx6⟩
    have HX6 := Lib.hid hx6
    have hzY : xp < Y.heap.size := (Array.getElem?_eq_some_iff.1 h6.1.box).1
    clear hx6
    have hlm : (moveS a ⟨j, r, th⟩).length = a.spots.length := by unfold moveS; split <;> simp
    obtain ⟨gS6, cS6, hvS6, hoS6, gSx6, hgS6, hcS61, hcS62, VS6⟩ := CoM.viewS h6.1 (by rw [show (Co.mk a.na a.sigs T2 (moveS a ⟨j, r, th⟩)).spots.length = a.spots.length from hlm]; exact hspl)
    obtain ⟨B7, h7, -⟩ := CoM.spSet h6.1 (i := i) hvS6 hoS6 rfl (by rw [show (Co.mk a.na a.sigs T2 (moveS a ⟨j, r, th⟩)).spots.length = a.spots.length from hlm]; exact hi) sp0
    rw [show (Co.mk a.na a.sigs T2 (moveS a ⟨j, r, th⟩)).spots.length = a.spots.length from hlm] at VS6 hcS61
    obtain ⟨v1, v2, v3⟩ := VS6 Y (Keep.refl _ _)
    obtain ⟨y0, y1, y2⟩ := v2 i hi
    obtain ⟨q0, q1, qf⟩ := cells2 hi6
    have H7 := Lib.hid (h6.then_ h7)
    change Hid (CoAt w3 c xp (CoF xp B a) q ⟨a.na, a.sigs, T2, (moveS a ⟨j, r, th⟩).set i sp0⟩ (((Y.setCell ⟨gS6, i * 3, none⟩ (.int .i64 0)).setCell ⟨gS6, i * 3 + 1, none⟩ (.int .i64 0)).setCell ⟨gS6, i * 3 + 2, none⟩ (.bool false)) B7) at H7
    rw [← EL.out] at H7
    clear v2 VS6 h6 h7 hvS6 hoS6
    go_region
    go_wp2
    go_ret
    exact lv_end KW3.out hz3 P3.out hlt0.out (H7.out.same (by exact (by repeat first | (with_reducible assumption) | (with_reducible exact Keep.refl _ _) | (with_reducible refine Keep.alloc ?_ _) | (with_reducible refine Keep.drew ?_) | (with_reducible refine Keep.drewN ?_ _) | (with_reducible refine Keep.setCell ?_ (.inl (by first | omega | (simp; done) | (simp; omega) | fail)) _)))) (by
      refine (Keep.block (S := fun k => k = gS6) (w := Y) ?_ xp hzY (fun e => gSx6 e.symm)).trans HX6.out
      repeat (with_reducible refine Keep.drew ?_)
      exact Keep.setCell (S := fun k => k = gS6) (p := ⟨gS6, i * 3 + 2, none⟩) (Keep.setCell (S := fun k => k = gS6) (p := ⟨gS6, i * 3 + 1, none⟩) (Keep.setCell (S := fun k => k = gS6) (p := ⟨gS6, i * 3, none⟩) (Keep.refl _ _) (.inr rfl) _) (.inr rfl) _) (.inr rfl) _)
  | false =>
    go_upto_region 7 with fail
    refine wp_world (S := fun Y => (∃ B5, CoAt w3 c xp (CoF xp B a) q ⟨a.na, a.sigs, T2, moveS a ⟨j, r, th⟩⟩ Y B5) ∧ Y.heap[w.heap.size]? = some (.cells #[.int .i64 (i : Int), .int .i64 (g : Int)] 40 (0, 0)) ∧ Y.heap[xp]? = w.heap[xp]?) ?_ ?_
    · refine ⟨⟨B4, ?_⟩, ((((Keep.refl (fun _ => False) w4).alloc _).block w.heap.size (by omega) (fun h => h))).trans I4.out, ((((Keep.refl (fun _ => False) w4).alloc _).block xp (by omega) (fun h => h))).trans X4.out⟩
      rw [HMS.out, if_neg (by decide)]
      exact H4.out.same ((Keep.refl _ _).alloc _)
    rintro Y ⟨⟨B6, h6⟩, hi6, hx6⟩
    have HX6 := Lib.hid hx6
    have hzY : xp < Y.heap.size := (Array.getElem?_eq_some_iff.1 h6.1.box).1
    clear hx6
    have hlm : (moveS a ⟨j, r, th⟩).length = a.spots.length := by unfold moveS; split <;> simp
    obtain ⟨gS6, cS6, hvS6, hoS6, gSx6, hgS6, hcS61, hcS62, VS6⟩ := CoM.viewS h6.1 (by rw [show (Co.mk a.na a.sigs T2 (moveS a ⟨j, r, th⟩)).spots.length = a.spots.length from hlm]; exact hspl)
    obtain ⟨B7, h7, -⟩ := CoM.spSet h6.1 (i := i) hvS6 hoS6 rfl (by rw [show (Co.mk a.na a.sigs T2 (moveS a ⟨j, r, th⟩)).spots.length = a.spots.length from hlm]; exact hi) sp0
    rw [show (Co.mk a.na a.sigs T2 (moveS a ⟨j, r, th⟩)).spots.length = a.spots.length from hlm] at VS6 hcS61
    obtain ⟨v1, v2, v3⟩ := VS6 Y (Keep.refl _ _)
    obtain ⟨y0, y1, y2⟩ := v2 i hi
    obtain ⟨q0, q1, qf⟩ := cells2 hi6
    have H7 := Lib.hid (h6.then_ h7)
    change Hid (CoAt w3 c xp (CoF xp B a) q ⟨a.na, a.sigs, T2, (moveS a ⟨j, r, th⟩).set i sp0⟩ (((Y.setCell ⟨gS6, i * 3, none⟩ (.int .i64 0)).setCell ⟨gS6, i * 3 + 1, none⟩ (.int .i64 0)).setCell ⟨gS6, i * 3 + 2, none⟩ (.bool false)) B7) at H7
    rw [← EL.out] at H7
    clear v2 VS6 h6 h7 hvS6 hoS6
    go_region
    go_wp2
    go_ret
    exact lv_end KW3.out hz3 P3.out hlt0.out (H7.out.same (by exact (by repeat first | (with_reducible assumption) | (with_reducible exact Keep.refl _ _) | (with_reducible refine Keep.alloc ?_ _) | (with_reducible refine Keep.drew ?_) | (with_reducible refine Keep.drewN ?_ _) | (with_reducible refine Keep.setCell ?_ (.inl (by first | omega | (simp; done) | (simp; omega) | fail)) _)))) (by
      refine (Keep.block (S := fun k => k = gS6) (w := Y) ?_ xp hzY (fun e => gSx6 e.symm)).trans HX6.out
      repeat (with_reducible refine Keep.drew ?_)
      exact Keep.setCell (S := fun k => k = gS6) (p := ⟨gS6, i * 3 + 2, none⟩) (Keep.setCell (S := fun k => k = gS6) (p := ⟨gS6, i * 3 + 1, none⟩) (Keep.setCell (S := fun k => k = gS6) (p := ⟨gS6, i * 3, none⟩) (Keep.refl _ _) (.inr rfl) _) (.inr rfl) _) (.inr rfl) _)
end
end Go.Proofs.YtglliendhbkkhaaGreatDoor

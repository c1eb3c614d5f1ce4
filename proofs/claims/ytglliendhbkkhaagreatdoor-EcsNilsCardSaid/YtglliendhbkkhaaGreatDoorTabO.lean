/- vivariumref09.Go: an add. -/
import Derived.Test.YtglliendhbkkhaaGreatDoorTabJ
namespace Go.Proofs.YtglliendhbkkhaaGreatDoor
open Go.RowKit
set_option maxRecDepth 100000
set_option linter.unusedVariables false
set_option linter.unusedSimpArgs false

section
variable {w : World} {F : Nat → Prop} {u : Value} {L : List Nat} {sz : Nat → Nat} {rows : List EnZ}
end
end Go.Proofs.YtglliendhbkkhaaGreatDoor
namespace Go.Proofs.YtglliendhbkkhaaGreatDoor
open Go.RowKit
set_option maxRecDepth 100000
set_option linter.unusedVariables false
set_option linter.unusedSimpArgs false

/-- Behind both stores. -/
theorem go_end {w w1 : World} {F : Nat → Prop} {L : List Nat} {sz : Nat → Nat} {rows : List EnZ} {t : TlZ} {B : Nat} {a b c d0 d1 d2 d3 d4 d5 : Value} (hB : w.heap.size + 4 ≤ B) (hk : Keep (fun b => w.heap.size ≤ b) w w1) (g1 : RT w1 (fun b => (F b ∧ b < w.heap.size) ∨ B ≤ b) (.agg #[a, b, c]) L sz rows) (g2 : TlSt w1 (fun b => (F b ∧ b < w.heap.size) ∨ B ≤ b) (.agg #[d0, d1, d2, d3, d4, d5]) t) :
    GoPost w F L sz rows t (.returned (.tuple #[.agg #[a, b, c], .agg #[d0, d1, d2, d3, d4, d5]])) (set6 (set3 w1 (w.heap.size + 1 + 1) a b c) (w.heap.size + 1 + 1 + 1) d0 d1 d2 d3 d4 d5) := by
  have kk : Keep (fun k => k = w.heap.size + 1 + 1 ∨ k = w.heap.size + 1 + 1 + 1) w1 (set6 (set3 w1 (w.heap.size + 1 + 1) a b c) (w.heap.size + 1 + 1 + 1) d0 d1 d2 d3 d4 d5) := ((keep3 w1 _ a b c).mono (fun _ _ h => .inl h)).trans (keep6 _ _ d0 d1 d2 d3 d4 d5) (fun _ _ h => .inr h)
  have hz : ∀ k, k < w1.heap.size → (F k ∧ k < w.heap.size) ∨ B ≤ k → ¬ (k = w.heap.size + 1 + 1 ∨ k = w.heap.size + 1 + 1 + 1) := fun k _ h e => by
    rcases h with h | h
    · have := h.2; omega
    · omega
  have hm : ∀ k, k < (set6 (set3 w1 (w.heap.size + 1 + 1) a b c) (w.heap.size + 1 + 1 + 1) d0 d1 d2 d3 d4 d5).heap.size → (F k ∧ k < w.heap.size) ∨ B ≤ k → F k ∨ w.heap.size ≤ k := fun k _ h => by
    rcases h with h | h
    · exact .inl h.1
    · exact .inr (by omega)
  obtain ⟨dd, pp, e, t1, t2⟩ := g2
  exact ⟨_, _, rfl, (g1.keep kk hz).mono hm, ⟨dd, pp, e, By.mono (By.keep t1 kk hz) hm, (t2.keep kk hz).mono hm⟩, (hk.trans kk (fun b _ e => by omega)).to_below (Nat.le_refl _)⟩
theorem GoPost.drew {w w' : World} {F : Nat → Prop} {L : List Nat} {sz : Nat → Nat} {rows : List EnZ} {t : TlZ} {e : Ending} (h : GoPost w F L sz rows t e w') : GoPost w F L sz rows t e w'.drew := by
  obtain ⟨u, v, e, h1, h2, h3⟩ := h
  exact ⟨u, v, e, h1.same (Keep.refl _ _).drew, h2.same (Keep.refl _ _).drew, h3.drew⟩
section
variable {w : World} {F : Nat → Prop} {u : Value} {L : List Nat} {sz : Nat → Nat} {rows : List EnZ}
end
end Go.Proofs.YtglliendhbkkhaaGreatDoor
namespace Go.Proofs.YtglliendhbkkhaaGreatDoor
open Go.RowKit
set_option maxRecDepth 100000
set_option linter.unusedVariables false
set_option linter.unusedSimpArgs false

theorem wpList_ent {ops : Array Oper} {o : Oper} {rest : List Oper} {a : Act} {w : World} {Q : Exit → Act → World → Prop} (hgd : Region.wanted o (yielded ops a.tmps) = true) (s x : Operand)
    (ho : o.op = .call { callee := .builtin .append, args := #[s, x], argTypes := #[26, 26] }) (B : Nat) (v : Value) (n : Nat) (xs : List Value) (hv : a.eval s = v) (hown : Own w B 89 3 v n xs) (vx : Value) (k : Nat) (ys : List Value)
    (hy : a.eval x = vx) (hsrc : Src Tryz.prog 3 26 vx k ys w) (hk : n + k ≤ 1099511627776) (hB : B ≤ w.heap.size)
    (h : ∀ A c w', Own w' B 89 3 (.slice A (n + k) c) (n + k) (xs ++ ys) → Keep (fun k => ownB v = some k) w w' → (∀ k', ownB (.slice A (n + k) c) = some k' → ownB v = some k' ∨ w.heap.size ≤ k') → wpList Tryz.prog ops Q rest (a.put o.dst (.slice A (n + k) c)) w') :
    wpList Tryz.prog ops Q (o :: rest) a w :=
  wpList_step fun _ hK => step_ent hgd s x ho B v n xs hv hown vx k ys hy hsrc hk hB fun A c w' h1 h2 h3 => hK _ _ (h A c w' h1 h2 h3)
section
variable {w : World} {F : Nat → Prop} {u : Value} {L : List Nat} {sz : Nat → Nat} {rows : List EnZ}
end
end Go.Proofs.YtglliendhbkkhaaGreatDoor
namespace Go.Proofs.YtglliendhbkkhaaGreatDoor
open Go.RowKit
set_option maxRecDepth 100000
set_option linter.unusedVariables false
set_option linter.unusedSimpArgs false

theorem Own.setG {w : World} {B g n d k m : Nat} {e : TypeId} {xs : List Value} {x : Value} (h : Own w B e m (.slice (some ⟨g, 0, none⟩) n d) n xs) (hd : 0 < d) : Own (w.setCell ⟨g, k, none⟩ x) B e m (.slice (some ⟨g, 0, none⟩) n d) n (xs.set k x) := by
  obtain ⟨hl, A, c, hv, hnc, hcm, hg⟩ := h
  injection hv with e1 e2 e3
  subst e1 e3
  obtain ⟨g', cur, eg, hb, hgg, hcs, htk⟩ := hg hd
  injection eg with eg
  injection eg with eg
  subst eg
  refine ⟨by rw [List.length_set]; exact hl, _, d, rfl, hnc, hcm, fun _ => ⟨g, cur.setIfInBounds k x, rfl, hb, heap_setCell_same w g k _ _ x hgg, by simpa using hcs, ?_⟩⟩
  rw [Array.toList_setIfInBounds, List.take_set, htk]
theorem Own.atG {w : World} {B g n d m : Nat} {e : TypeId} {xs : List Value} (h : Own w B e m (.slice (some ⟨g, 0, none⟩) n d) n xs) (hd : 0 < d) : (∀ i u, xs[i]? = some u → w.cell? ⟨g, i, none⟩ = some u) ∧ ∀ i, w.frozen? ⟨g, i, none⟩ = false := by
  obtain ⟨hl, A, c, hv, hnc, hcm, hg⟩ := h
  injection hv with e1 e2 e3
  subst e1 e3
  obtain ⟨g', cur, eg, hb, hgg, hcs, htk⟩ := hg hd
  injection eg with eg
  injection eg with eg
  subst eg
  refine ⟨fun i u hu => ?_, fun i => frozen_of_row w g i _ _ hgg⟩
  rw [cell_of_row w g i _ _ _ hgg]
  rw [← htk, List.getElem?_take] at hu
  split at hu
  · simpa using hu
  · cases hu
theorem flat_set3 : ∀ (l : List (EnZ × Value)) (r : Nat) (x : EnZ × Value), r < l.length → (l.set r x).flatMap entN.cells = (((l.flatMap entN.cells).set (r * 3) (.int .i64 x.1.id.ix)).set (r * 3 + 1) (.int .i64 x.1.id.gen)).set (r * 3 + 2) x.2
  | [], _, _, h => by simp at h
  | y :: l, 0, x, _ => by simp [entN]
  | y :: l, r + 1, x, h => by
    have ih := flat_set3 l r x (by simpa using h)
    rw [List.set_cons_succ, List.flatMap_cons, ih, List.flatMap_cons, show (r + 1) * 3 + 2 = (r * 3 + 2) + 3 by omega, show (r + 1) * 3 + 1 = (r * 3 + 1) + 3 by omega, show (r + 1) * 3 = r * 3 + 3 by omega]
    simp [entN]
theorem flat_take3 (l : List (EnZ × Value)) (k : Nat) : (l.flatMap entN.cells).take (k * 3) = (l.take k).flatMap entN.cells := by
  induction l generalizing k with
  | nil => simp
  | cons x l ih =>
    cases k with
    | zero => simp
    | succ k => rw [List.take_succ_cons, List.flatMap_cons, List.flatMap_cons, ← ih k, show (k + 1) * 3 = (entN.cells x).length + k * 3 by rw [entN.len]; show (k + 1) * 3 = 3 + k * 3; omega, List.take_append, List.take_of_length_le (Nat.le_add_right _ _)]; simp
theorem zip_set {α β : Type} : ∀ (l : List α) (us : List β) (r : Nat) (x : α) (q : β), (l.set r x).zip (us.set r q) = (l.zip us).set r (x, q)
  | [], us, r, x, q => by simp
  | a :: l, [], r, x, q => by simp
  | a :: l, u :: us, 0, x, q => by simp
  | a :: l, u :: us, r + 1, x, q => by simp [zip_set l us r x q]
theorem zip_take {α β : Type} : ∀ (l : List α) (us : List β) (k : Nat), (l.take k).zip (us.take k) = (l.zip us).take k
  | [], us, k => by simp
  | a :: l, [], k => by simp
  | a :: l, u :: us, 0 => by simp
  | a :: l, u :: us, k + 1 => by simp [zip_take l us k]
/-- The rows that a call has copied into block g, n of c; what they lead to lies in blocks of F. -/
structure Rw (W : World) (B g n c : Nat) (F : Nat → Prop) (rows : List EnZ) (us : List Value) : Prop where
  pos : 0 < n
  le : n ≤ c
  len : rows.length = n
  ulen : us.length = rows.length
  own : Own W B 89 3 (.slice (some ⟨g, 0, none⟩) n c) n ((rows.zip us).flatMap entN.cells)
  inn : ∀ (i : Nat) x q, rows[i]? = some x → us[i]? = some q → NS parN W F q x.parts
  ng : ∀ b, F b → b ≠ g
section
variable {W W' : World} {B g n c : Nat} {F S : Nat → Prop} {rows : List EnZ} {us : List Value}
theorem Rw.keep (h : Rw W B g n c F rows us) (hk : Keep S W W') (hg : ¬ S g) (hs : ∀ b, b < W.heap.size → F b → ¬ S b) : Rw W' B g n c F rows us :=
  ⟨h.pos, h.le, h.len, h.ulen, h.own.keep hk (fun k e hS => by
    have hlt := h.pos
    have hle := h.le
    obtain ⟨d, rfl⟩ : ∃ d, c = d + 1 := ⟨c - 1, by omega⟩
    obtain rfl : g = k := by simpa [ownB] using e
    exact hg hS), fun i x q hx hq => (h.inn i x q hx hq).keep hk hs, h.ng⟩
theorem Rw.at_ (h : Rw W B g n c F rows us) {k : Nat} (hk : k < n) : ∃ x q, rows[k]? = some x ∧ us[k]? = some q ∧ NS parN W F q x.parts ∧ W.cell? ⟨g, k * 3, none⟩ = some (.int .i64 x.id.ix) ∧ W.cell? ⟨g, k * 3 + 1, none⟩ = some (.int .i64 x.id.gen) ∧ W.cell? ⟨g, k * 3 + 2, none⟩ = some q ∧ W.frozen? ⟨g, k * 3, none⟩ = false ∧ W.frozen? ⟨g, k * 3 + 1, none⟩ = false ∧ W.frozen? ⟨g, k * 3 + 2, none⟩ = false := by
  have hle := h.le
  have h1 : k < rows.length := by rw [h.len]; exact hk
  have h2 : k < us.length := by rw [h.ulen]; exact h1
  have e1 := List.getElem?_eq_getElem h1
  have e2 := List.getElem?_eq_getElem h2
  have ez : (rows.zip us)[k]? = some (rows[k], us[k]) := List.getElem?_zip_eq_some.2 ⟨e1, e2⟩
  obtain ⟨hc, hf⟩ := h.own.atG (by omega)
  exact ⟨_, _, e1, e2, h.inn k _ _ e1 e2, hc _ _ (flat_at (f := entN.cells) (m := 3) (j := 0) entN.len ez rfl), hc _ _ (flat_at (f := entN.cells) (m := 3) (j := 1) entN.len ez rfl), hc _ _ (flat_at (f := entN.cells) (m := 3) (j := 2) entN.len ez rfl), hf _, hf _, hf _⟩
/-- One row is another. -/
theorem Rw.put (h : Rw W B g n c F rows us) {r : Nat} (hr : r < n) (y : EnZ) (q : Value) (hq : NS parN W F q y.parts) :
    Rw (((W.setCell ⟨g, r * 3, none⟩ (.int .i64 y.id.ix)).setCell ⟨g, r * 3 + 1, none⟩ (.int .i64 y.id.gen)).setCell ⟨g, r * 3 + 2, none⟩ q) B g n c F (rows.set r y) (us.set r q) ∧
    Keep (fun b => b = g) W (((W.setCell ⟨g, r * 3, none⟩ (.int .i64 y.id.ix)).setCell ⟨g, r * 3 + 1, none⟩ (.int .i64 y.id.gen)).setCell ⟨g, r * 3 + 2, none⟩ q) := by
  have hk : Keep (fun b => b = g) W (((W.setCell ⟨g, r * 3, none⟩ (.int .i64 y.id.ix)).setCell ⟨g, r * 3 + 1, none⟩ (.int .i64 y.id.gen)).setCell ⟨g, r * 3 + 2, none⟩ q) :=
    Keep.setCell (S := fun b => b = g) (p := ⟨g, r * 3 + 2, none⟩) (Keep.setCell (S := fun b => b = g) (p := ⟨g, r * 3 + 1, none⟩) (Keep.setCell (S := fun b => b = g) (p := ⟨g, r * 3, none⟩) (Keep.refl _ _) (.inr rfl) _) (.inr rfl) _) (.inr rfl) _
  have hl := h.len
  have hle := h.le
  have hpos := h.pos
  refine ⟨⟨h.pos, h.le, by rw [List.length_set]; exact h.len, by rw [List.length_set, List.length_set]; exact h.ulen, ?_, fun i x p hx hp => ?_, h.ng⟩, hk⟩
  · rw [zip_set, flat_set3 _ _ _ (by rw [List.length_zip, h.ulen, Nat.min_self, h.len]; exact hr)]
    exact ((h.own.setG (by omega)).setG (by omega)).setG (by omega)
  · have mv : ∀ (x : EnZ) (p : Value), NS parN W F p x.parts → NS parN (((W.setCell ⟨g, r * 3, none⟩ (.int .i64 y.id.ix)).setCell ⟨g, r * 3 + 1, none⟩ (.int .i64 y.id.gen)).setCell ⟨g, r * 3 + 2, none⟩ q) F p x.parts := fun x p hp => hp.keep hk (fun b _ hF e => h.ng b hF e)
    by_cases e : i = r
    · subst e
      rw [List.getElem?_set_self (by omega)] at hx
      rw [List.getElem?_set_self (by rw [h.ulen]; omega)] at hp
      obtain rfl := Option.some.inj hx
      obtain rfl := Option.some.inj hp
      exact mv _ _ hq
    · rw [List.getElem?_set_ne (Ne.symm e)] at hx hp
      exact mv _ _ (h.inn i x p hx hp)
/-- One row's parts are others. -/
theorem Rw.put1 (h : Rw W B g n c F rows us) {r : Nat} (hr : r < n) {y : EnZ} (hy : rows[r]? = some y) (P : List PtZ) (q : Value) (hq : NS parN W F q P) :
    Rw (W.setCell ⟨g, r * 3 + 2, none⟩ q) B g n c F (rows.set r ⟨y.id, P⟩) (us.set r q) ∧ Keep (fun b => b = g) W (W.setCell ⟨g, r * 3 + 2, none⟩ q) := by
  have hk : Keep (fun b => b = g) W (W.setCell ⟨g, r * 3 + 2, none⟩ q) := Keep.setCell (S := fun b => b = g) (p := ⟨g, r * 3 + 2, none⟩) (Keep.refl _ _) (.inr rfl) _
  have hl := h.len
  have hle := h.le
  have hpos := h.pos
  refine ⟨⟨h.pos, h.le, by rw [List.length_set]; exact h.len, by rw [List.length_set, List.length_set]; exact h.ulen, ?_, fun i x p hx hp => ?_, h.ng⟩, hk⟩
  · have hz : r < (rows.zip us).length := by rw [List.length_zip, h.ulen, Nat.min_self, h.len]; exact hr
    have e2 := List.getElem?_eq_getElem (show r < us.length by rw [h.ulen, h.len]; exact hr)
    have ez : (rows.zip us)[r]? = some (y, us[r]'(by rw [h.ulen, h.len]; exact hr)) := List.getElem?_zip_eq_some.2 ⟨hy, e2⟩
    rw [zip_set, flat_set3 _ _ _ hz]
    have f0 : ((rows.zip us).flatMap entN.cells)[r * 3]? = some (.int .i64 y.id.ix) := flat_at (f := entN.cells) (m := 3) (j := 0) entN.len ez rfl
    have f1 : ((rows.zip us).flatMap entN.cells)[r * 3 + 1]? = some (.int .i64 y.id.gen) := flat_at (f := entN.cells) (m := 3) (j := 1) entN.len ez rfl
    have s0 : ((rows.zip us).flatMap entN.cells).set (r * 3) (.int .i64 y.id.ix) = (rows.zip us).flatMap entN.cells := by
      obtain ⟨hh, e⟩ := List.getElem?_eq_some_iff.1 f0
      rw [← e]; exact List.set_getElem_self hh
    have s1 : ((rows.zip us).flatMap entN.cells).set (r * 3 + 1) (.int .i64 y.id.gen) = (rows.zip us).flatMap entN.cells := by
      obtain ⟨hh, e⟩ := List.getElem?_eq_some_iff.1 f1
      rw [← e]; exact List.set_getElem_self hh
    show Own _ B _ 3 _ n (((((rows.zip us).flatMap entN.cells).set (r * 3) (.int .i64 y.id.ix)).set (r * 3 + 1) (.int .i64 y.id.gen)).set (r * 3 + 2) q)
    rw [s0, s1]
    exact h.own.setG (by omega)
  · have mv : ∀ (x : EnZ) (p : Value), NS parN W F p x.parts → NS parN (W.setCell ⟨g, r * 3 + 2, none⟩ q) F p x.parts := fun x p hp => hp.keep hk (fun b _ hF e => h.ng b hF e)
    by_cases e : i = r
    · subst e
      rw [List.getElem?_set_self (by omega)] at hx
      rw [List.getElem?_set_self (by rw [h.ulen]; omega)] at hp
      obtain rfl := Option.some.inj hx
      obtain rfl := Option.some.inj hp
      exact mv ⟨y.id, P⟩ _ hq
    · rw [List.getElem?_set_ne (Ne.symm e)] at hx hp
      exact mv _ _ (h.inn i x p hx hp)
/-- Its first k rows. -/
theorem Rw.ns (h : Rw W B g n c F rows us) {k : Nat} (hk : k ≤ n) : NS entN W (fun b => F b ∨ B ≤ b) (.slice (some ⟨g, 0, none⟩) k c) (rows.take k) := by
  have hl := h.len
  refine ⟨us.take k, by rw [List.length_take, List.length_take, h.ulen], ?_, fun i x q hx hq => ?_⟩
  · have h2 := h.own.take hk
    rw [flat_take3, ← zip_take] at h2
    have h4 : Own W B 89 entN.m (.slice (some ⟨g, 0, none⟩) k c) ((rows.take k).zip (us.take k)).length (((rows.take k).zip (us.take k)).flatMap entN.cells) := by
      rw [List.length_zip, List.length_take, List.length_take, h.ulen, Nat.min_self, hl, Nat.min_eq_left hk]; exact h2
    exact (Own.ml (n := 0) entN.pos entN.len h4).mono (fun b _ h => .inr h)
  · have hik : i < k := by
      have := (List.getElem?_eq_some_iff.1 hx).1
      rw [List.length_take] at this; omega
    rw [List.getElem?_take_of_lt hik] at hx hq
    show NS parN W _ q x.parts
    exact NS.mono (h.inn i x q hx hq) (fun _ _ h => .inl h)
theorem Rw.all (h : Rw W B g n c F rows us) : NS entN W (fun b => F b ∨ B ≤ b) (.slice (some ⟨g, 0, none⟩) n c) rows := by
  have := h.ns (Nat.le_refl n)
  rwa [← h.len, List.take_length, h.len] at this
end
/-- Behind the copy. -/
theorem rw_of {w5 X : World} {G : Nat → Prop} {n c : Nat} {A : Option Addr} {rows : List EnZ} {us : List Value} (h0 : 0 < n) (hn : rows.length = n) (hu : us.length = rows.length) (ho : Own w5 X.heap.size 89 3 (.slice A n c) n ((rows.zip us).flatMap entN.cells)) (hi : ∀ (i : Nat) x q, rows[i]? = some x → us[i]? = some q → NS parN w5 G q x.parts) (hG : ∀ b, G b → b < X.heap.size) : ∃ g, A = some ⟨g, 0, none⟩ ∧ X.heap.size ≤ g ∧ g < w5.heap.size ∧ Rw w5 X.heap.size g n c (fun b => (G b ∨ X.heap.size ≤ b) ∧ b ≠ g) rows us := by
  have ho' := ho
  obtain ⟨hl, A', c', hv, hnc, hcm, hg⟩ := ho'
  injection hv with e1 e2 e3
  subst e1 e3
  obtain ⟨g, cur, rfl, hb, hgg, hcs, htk⟩ := hg (by omega)
  exact ⟨g, rfl, hb, (Array.getElem?_eq_some_iff.1 hgg).1, h0, hnc, hn, hu, ho, fun i x q hx hq => NS.mono (hi i x q hx hq) (fun b _ h => ⟨.inl h, by have := hG b h; omega⟩), fun b h => h.2⟩
theorem wpList_ent0 {ops : Array Oper} {o : Oper} {rest : List Oper} {a : Act} {w : World} {Q : Exit → Act → World → Prop} (hgd : Region.wanted o (yielded ops a.tmps) = true) (s x : Operand)
    (ho : o.op = .call { callee := .builtin .append, args := #[s, x], argTypes := #[26, 26] }) (B : Nat) (v : Value) (hv : a.eval s = v) (hown : Own w B 89 3 v 0 []) (vx : Value) (k : Nat) (ys : List Value)
    (hy : a.eval x = vx) (hsrc : Src Tryz.prog 3 26 vx k ys w) (hk : k ≤ 1099511627776) (hB : B ≤ w.heap.size)
    (h : ∀ A c w', Own w' B 89 3 (.slice A k c) k ys → Keep (fun k => ownB v = some k) w w' → wpList Tryz.prog ops Q rest (a.put o.dst (.slice A k c)) w') :
    wpList Tryz.prog ops Q (o :: rest) a w :=
  wpList_ent hgd s x ho B v 0 [] hv hown vx k ys hy hsrc (by omega) hB fun A c w' h1 h2 h3 => by
    rw [Nat.zero_add] at h1 ⊢
    exact h A c w' h1 h2
/-- The rows behind a drop. -/
def dropE (rows : List EnZ) (r : Nat) : List EnZ := (rows.set r (rows.getD (rows.length - 1) default)).take (rows.length - 1)
end Go.Proofs.YtglliendhbkkhaaGreatDoor
namespace Go.Proofs.YtglliendhbkkhaaGreatDoor
open Go.RowKit
set_option maxRecDepth 100000
set_option linter.unusedVariables false
set_option linter.unusedSimpArgs false

section
variable {w : World} {F : Nat → Prop} {u : Value} {L : List Nat} {sz : Nat → Nat} {rows : List EnZ}
/-- What a drop of row r tells. -/
def dropT (rows : List EnZ) (r : Nat) : TlZ := if r = rows.length - 1 then errT 0 else ⟨[], [], (rows.getD (rows.length - 1) default).id, true, 0⟩
end
end Go.Proofs.YtglliendhbkkhaaGreatDoor
namespace Go.Proofs.YtglliendhbkkhaaGreatDoor
open Go.RowKit
set_option maxRecDepth 100000
set_option linter.unusedVariables false
set_option linter.unusedSimpArgs false

theorem parts_put {W : World} {B g n c j : Nat} {e : TypeId} {F : Nat → Prop} {P : List PtZ} {us : List Value} {x : PtZ} {v : Value} {d : List UInt8} (h0 : 0 < n) (hn : P.length = n) (hu : us.length = P.length) (ho : Own W B e 2 (.slice (some ⟨g, 0, none⟩) n c) n ((P.zip us).flatMap parN.cells)) (hi : ∀ (i : Nat) y q, P[i]? = some y → us[i]? = some q → By W F q y.data) (hx : P[j]? = some x) (hv : By W F v d) (hg : ∀ b, F b → b ≠ g) :
    NS parN (W.setCell ⟨g, j * 2 + 1, none⟩ v) (fun b => F b ∨ B ≤ b) (.slice (some ⟨g, 0, none⟩) n c) (P.set j ⟨x.comp, d⟩) ∧ Keep (fun b => b = g) W (W.setCell ⟨g, j * 2 + 1, none⟩ v) := by
  have hk : Keep (fun b => b = g) W (W.setCell ⟨g, j * 2 + 1, none⟩ v) := Keep.setCell (S := fun b => b = g) (p := ⟨g, j * 2 + 1, none⟩) (Keep.refl _ _) (.inr rfl) _
  have hj := (List.getElem?_eq_some_iff.1 hx).1
  have hle : n ≤ c := by
    obtain ⟨_, A, c', e, h, _⟩ := ho
    injection e with _ _ e
    omega
  refine ⟨⟨us.set j v, by rw [List.length_set, List.length_set, hu], ?_, fun i y q hy hq => ?_⟩, hk⟩
  · have h2 := ho.setG (k := j * 2 + 1) (x := v) (by omega)
    have flat : ∀ (l : List (PtZ × Value)) (r : Nat) (x : PtZ × Value) (k : Int) (q : Value), l[r]? = some x → x.1.comp = k → (l.flatMap parN.cells).set (r * 2 + 1) q = (l.set r ((⟨k, d⟩ : PtZ), q)).flatMap parN.cells := by
      intro l
      induction l with
      | nil => intro r x k q h; simp at h
      | cons y l ih =>
        intro r x k q h hk
        cases r with
        | zero =>
          simp at h
          subst h hk
          simp [parN]
        | succ r =>
          have := ih r x k q (by simpa using h) hk
          rw [List.set_cons_succ, List.flatMap_cons, List.flatMap_cons, ← this, show (r + 1) * 2 + 1 = (r * 2 + 1) + 2 by omega]
          simp [parN]
    obtain ⟨q0, hq0⟩ : ∃ q0, us[j]? = some q0 := ⟨_, List.getElem?_eq_getElem (by omega)⟩
    rw [flat _ j (x, q0) x.comp v (List.getElem?_zip_eq_some.2 ⟨hx, hq0⟩) rfl, ← zip_set] at h2
    have h4 : Own (W.setCell ⟨g, j * 2 + 1, none⟩ v) B e parN.m (.slice (some ⟨g, 0, none⟩) n c) ((P.set j ⟨x.comp, d⟩).zip (us.set j v)).length (((P.set j ⟨x.comp, d⟩).zip (us.set j v)).flatMap parN.cells) := by
      rw [List.length_zip, List.length_set, List.length_set, hu, Nat.min_self, hn]; exact h2
    exact (Own.ml (n := 0) parN.pos parN.len h4).mono (fun b _ h => .inr h)
  · show By _ _ q y.data
    by_cases e1 : i = j
    · subst e1
      rw [List.getElem?_set_self hj] at hy
      rw [List.getElem?_set_self (by omega)] at hq
      obtain rfl := Option.some.inj hy
      obtain rfl := Option.some.inj hq
      exact (By.keep hv hk (fun b _ h e => hg b h e)).mono (fun _ _ h => .inl h)
    · rw [List.getElem?_set_ne (Ne.symm e1)] at hy hq
      exact (By.keep (hi i y q hy hq) hk (fun b _ h e => hg b h e)).mono (fun _ _ h => .inl h)
theorem src_mlP {W : World} {F : Nat → Prop} {A : Option Addr} {n c : Nat} {P : List PtZ} {us : List Value} (h1 : us.length = P.length) (hn : P.length = n) (h : ML parN.cells parN.m W F (.slice A n c) (P.zip us)) (hone : ∀ (i : Nat) x q, P[i]? = some x → us[i]? = some q → By W F q x.data) : Src Tryz.prog 2 87 (.slice A n c) n ((P.zip us).flatMap parN.cells) W := by
  have hl : (P.zip us).length = n := by rw [List.length_zip, h1, Nat.min_self]; exact hn
  obtain ⟨A', c', e, g1, g2, g3, -⟩ := h
  rw [hl] at e g1 g3
  injection e with e1 e2 e3
  subst e1 e3
  refine Rd.src (c := c) (P := Tryz.prog) g3 Tryz.underlying87 (fun u hu => ?_) (by decide)
  obtain ⟨p, hp, hu⟩ := List.mem_flatMap.1 hu
  obtain ⟨i, hi⟩ := List.mem_iff_getElem?.1 hp
  have := List.getElem?_zip_eq_some.1 hi
  exact parN.one (hone i p.1 p.2 this.1 this.2) u hu
theorem wpList_parts0 {ops : Array Oper} {o : Oper} {rest : List Oper} {a : Act} {w : World} {Q : Exit → Act → World → Prop} (hgd : Region.wanted o (yielded ops a.tmps) = true) (s x : Operand)
    (ho : o.op = .call { callee := .builtin .append, args := #[s, x], argTypes := #[87, 87] }) (B : Nat) (v : Value) (hv : a.eval s = v) (hown : Own w B 91 2 v 0 []) (vx : Value) (k : Nat) (ys : List Value)
    (hy : a.eval x = vx) (hsrc : Src Tryz.prog 2 87 vx k ys w) (hk : k ≤ 1099511627776) (hB : B ≤ w.heap.size)
    (h : ∀ A c w', Own w' B 91 2 (.slice A k c) k ys → Keep (fun k => ownB v = some k) w w' → wpList Tryz.prog ops Q rest (a.put o.dst (.slice A k c)) w') :
    wpList Tryz.prog ops Q (o :: rest) a w :=
  wpList_step fun _ hK => by
    obtain ⟨is, his, hs0, hs1, hs2⟩ := info_parts info_part
    refine step_append_gen w hgd s x _ _ ho B 91 is _ 2 32 Tryz.underlying87 his hs0 hs1 hs2 rfl v 0 _ hv hown vx k ys hy hsrc (by unfold maxLen; omega) (by omega) hB ?_
    intro v' w' ho' hk' hn'
    obtain ⟨A, c', rfl, _⟩ := ho'.form
    rw [Nat.zero_add] at ho' ⊢
    exact hK _ _ (h A c' w' ho' hk')
section
variable {w : World} {F : Nat → Prop} {u : Value} {L : List Nat} {sz : Nat → Nat} {rows : List EnZ}
end
end Go.Proofs.YtglliendhbkkhaaGreatDoor

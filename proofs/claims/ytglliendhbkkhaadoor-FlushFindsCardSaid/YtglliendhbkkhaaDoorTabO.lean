/- vivariumref09.Go: an add. -/
import Derived.Test.YtglliendhbkkhaaDoorTabJ
namespace Go.Proofs.YtglliendhbkkhaaDoor
open Go.RowKit
set_option maxRecDepth 100000
set_option linter.unusedVariables false
set_option linter.unusedSimpArgs false

section
variable {w : World} {F : Nat → Prop} {u : Value} {L : List Nat} {sz : Nat → Nat} {rows : List EnZ}
end
end Go.Proofs.YtglliendhbkkhaaDoor
namespace Go.Proofs.YtglliendhbkkhaaDoor
open Go.RowKit
set_option maxRecDepth 100000
set_option linter.unusedVariables false
set_option linter.unusedSimpArgs false

/-- Behind both stores. -/
theorem go_end {w w1 : World} {F : Nat → Prop} {L : List Nat} {sz : Nat → Nat} {rows : List EnZ} {t : TlZ} {B : Nat} {a b c d0 d1 d2 d3 d4 d5 : Value} (hB : w.heap.size + 4 ≤ B) (hk : Keep (fun b => w.heap.size ≤ b) w w1) (g1 : RT w1 (fun b => (F b ∧ b < w.heap.size) ∨ B ≤ b) (.agg #[a, b, c]) L sz rows) (g2 : TlSt w1 (fun b => (F b ∧ b < w.heap.size) ∨ B ≤ b) (.agg #[d0, d1, d2, d3, d4, d5]) t) :
    GoPost w F L sz rows t (.returned (.tuple #[.agg #[a, b, c], .agg #[d0, d1, d2, d3, d4, d5]])) (set6 (set3 w1 (w.heap.size + 1 + 1) a b c) (w.heap.size + 1 + 1 + 1) d0 d1 d2 d3 d4 d5) := by
  have kk : Keep (fun k => k = w.heap.size + 1 + 1 ∨ k = w.heap.size + 1 + 1 + 1) w1 (set6 (set3 w1 (w.heap.size + 1 + 1) a b c) (w.heap.size + 1 + 1 + 1) d0 d1 d2 d3 d4 d5) := ((keep3 w1 _ a b c).mono (fun _ _ h => .inl h)).trans (keep6 _ _ d0 d1 d2 d3 d4 d5) (fun _ _ h => .inr h)
  have hz : ∀ k, k < w1.heap.size → (F k ∧ k < w.heap.size) ∨ B ≤ k → ¬ (k = w.heap.size + 1 + 1 ∨ k = w.heap.size + 1 + 1 + 1) := fun k _ h e => by
    rcases h with h | h
    · have := h.2; omega
    · omega
  have hm : ∀ k, k < (set6 (set3 w1 (w.heap.size + 1 + 1) a b c) (w.heap.size + 1 + 1 + 1) d0 d1 d2 d3 d4 d5).heap.size → (F k ∧ k < w.heap.size) ∨ B ≤ k → F k ∨ w.heap.size ≤ k := fun k _ h => by
    rcases h with h | h
    · exact .inl h.1
    · exact .inr (by omega)
  obtain ⟨dd, pp, e, t1, t2⟩ := g2
  exact ⟨_, _, rfl, (g1.keep kk hz).mono hm, ⟨dd, pp, e, By.mono (By.keep t1 kk hz) hm, (t2.keep kk hz).mono hm⟩, (hk.trans kk (fun b _ e => by omega)).to_below (Nat.le_refl _)⟩
theorem GoPost.drew {w w' : World} {F : Nat → Prop} {L : List Nat} {sz : Nat → Nat} {rows : List EnZ} {t : TlZ} {e : Ending} (h : GoPost w F L sz rows t e w') : GoPost w F L sz rows t e w'.drew := by
  obtain ⟨u, v, e, h1, h2, h3⟩ := h
  exact ⟨u, v, e, h1.same (Keep.refl _ _).drew, h2.same (Keep.refl _ _).drew, h3.drew⟩
section
variable {w : World} {F : Nat → Prop} {u : Value} {L : List Nat} {sz : Nat → Nat} {rows : List EnZ}
end
end Go.Proofs.YtglliendhbkkhaaDoor
namespace Go.Proofs.YtglliendhbkkhaaDoor
open Go.RowKit
set_option maxRecDepth 100000
set_option linter.unusedVariables false
set_option linter.unusedSimpArgs false

section
variable {w : World} {F : Nat → Prop} {u : Value} {L : List Nat} {sz : Nat → Nat} {rows : List EnZ}
end
end Go.Proofs.YtglliendhbkkhaaDoor
namespace Go.Proofs.YtglliendhbkkhaaDoor
open Go.RowKit
set_option maxRecDepth 100000
set_option linter.unusedVariables false
set_option linter.unusedSimpArgs false

theorem Own.setG {w : World} {B g n d k m : Nat} {e : TypeId} {xs : List Value} {x : Value} (h : Own w B e m (.slice (some ⟨g, 0, none⟩) n d) n xs) (hd : 0 < d) : Own (w.setCell ⟨g, k, none⟩ x) B e m (.slice (some ⟨g, 0, none⟩) n d) n (xs.set k x) := by
  obtain ⟨hl, A, c, hv, hnc, hcm, hg⟩ := h
  injection hv with e1 e2 e3
  subst e1 e3
  obtain ⟨g', cur, eg, hb, hgg, hcs, htk⟩ := hg hd
  injection eg with eg
  injection eg with eg
  subst eg
  refine ⟨by rw [List.length_set]; exact hl, _, d, rfl, hnc, hcm, fun _ => ⟨g, cur.setIfInBounds k x, rfl, hb, heap_setCell_same w g k _ _ x hgg, by simpa using hcs, ?_⟩⟩
  rw [Array.toList_setIfInBounds, List.take_set, htk]
theorem Own.atG {w : World} {B g n d m : Nat} {e : TypeId} {xs : List Value} (h : Own w B e m (.slice (some ⟨g, 0, none⟩) n d) n xs) (hd : 0 < d) : (∀ i u, xs[i]? = some u → w.cell? ⟨g, i, none⟩ = some u) ∧ ∀ i, w.frozen? ⟨g, i, none⟩ = false := by
  obtain ⟨hl, A, c, hv, hnc, hcm, hg⟩ := h
  injection hv with e1 e2 e3
  subst e1 e3
  obtain ⟨g', cur, eg, hb, hgg, hcs, htk⟩ := hg hd
  injection eg with eg
  injection eg with eg
  subst eg
  refine ⟨fun i u hu => ?_, fun i => frozen_of_row w g i _ _ hgg⟩
  rw [cell_of_row w g i _ _ _ hgg]
  rw [← htk, List.getElem?_take] at hu
  split at hu
  · simpa using hu
  · cases hu
theorem flat_set3 : ∀ (l : List (EnZ × Value)) (r : Nat) (x : EnZ × Value), r < l.length → (l.set r x).flatMap entN.cells = (((l.flatMap entN.cells).set (r * 3) (.int .i64 x.1.id.ix)).set (r * 3 + 1) (.int .i64 x.1.id.gen)).set (r * 3 + 2) x.2
  | [], _, _, h => by simp at h
  | y :: l, 0, x, _ => by simp [entN]
  | y :: l, r + 1, x, h => by
    have ih := flat_set3 l r x (by simpa using h)
    rw [List.set_cons_succ, List.flatMap_cons, ih, List.flatMap_cons, show (r + 1) * 3 + 2 = (r * 3 + 2) + 3 by omega, show (r + 1) * 3 + 1 = (r * 3 + 1) + 3 by omega, show (r + 1) * 3 = r * 3 + 3 by omega]
    simp [entN]
theorem flat_take3 (l : List (EnZ × Value)) (k : Nat) : (l.flatMap entN.cells).take (k * 3) = (l.take k).flatMap entN.cells := by
  induction l generalizing k with
  | nil => simp
  | cons x l ih =>
    cases k with
    | zero => simp
    | succ k => rw [List.take_succ_cons, List.flatMap_cons, List.flatMap_cons, ← ih k, show (k + 1) * 3 = (entN.cells x).length + k * 3 by rw [entN.len]; show (k + 1) * 3 = 3 + k * 3; omega, List.take_append, List.take_of_length_le (Nat.le_add_right _ _)]; simp
theorem zip_set {α β : Type} : ∀ (l : List α) (us : List β) (r : Nat) (x : α) (q : β), (l.set r x).zip (us.set r q) = (l.zip us).set r (x, q)
  | [], us, r, x, q => by simp
  | a :: l, [], r, x, q => by simp
  | a :: l, u :: us, 0, x, q => by simp
  | a :: l, u :: us, r + 1, x, q => by simp [zip_set l us r x q]
theorem zip_take {α β : Type} : ∀ (l : List α) (us : List β) (k : Nat), (l.take k).zip (us.take k) = (l.zip us).take k
  | [], us, k => by simp
  | a :: l, [], k => by simp
  | a :: l, u :: us, 0 => by simp
  | a :: l, u :: us, k + 1 => by simp [zip_take l us k]
section
variable {W W' : World} {B g n c : Nat} {F S : Nat → Prop} {rows : List EnZ} {us : List Value}
end
/-- The rows behind a drop. -/
def dropE (rows : List EnZ) (r : Nat) : List EnZ := (rows.set r (rows.getD (rows.length - 1) default)).take (rows.length - 1)
end Go.Proofs.YtglliendhbkkhaaDoor
namespace Go.Proofs.YtglliendhbkkhaaDoor
open Go.RowKit
set_option maxRecDepth 100000
set_option linter.unusedVariables false
set_option linter.unusedSimpArgs false

section
variable {w : World} {F : Nat → Prop} {u : Value} {L : List Nat} {sz : Nat → Nat} {rows : List EnZ}
/-- What a drop of row r tells. -/
def dropT (rows : List EnZ) (r : Nat) : TlZ := if r = rows.length - 1 then errT 0 else ⟨[], [], (rows.getD (rows.length - 1) default).id, true, 0⟩
end
end Go.Proofs.YtglliendhbkkhaaDoor
namespace Go.Proofs.YtglliendhbkkhaaDoor
open Go.RowKit
set_option maxRecDepth 100000
set_option linter.unusedVariables false
set_option linter.unusedSimpArgs false

theorem parts_put {W : World} {B g n c j : Nat} {e : TypeId} {F : Nat → Prop} {P : List PtZ} {us : List Value} {x : PtZ} {v : Value} {d : List UInt8} (h0 : 0 < n) (hn : P.length = n) (hu : us.length = P.length) (ho : Own W B e 2 (.slice (some ⟨g, 0, none⟩) n c) n ((P.zip us).flatMap parN.cells)) (hi : ∀ (i : Nat) y q, P[i]? = some y → us[i]? = some q → By W F q y.data) (hx : P[j]? = some x) (hv : By W F v d) (hg : ∀ b, F b → b ≠ g) :
    NS parN (W.setCell ⟨g, j * 2 + 1, none⟩ v) (fun b => F b ∨ B ≤ b) (.slice (some ⟨g, 0, none⟩) n c) (P.set j ⟨x.comp, d⟩) ∧ Keep (fun b => b = g) W (W.setCell ⟨g, j * 2 + 1, none⟩ v) := by
  have hk : Keep (fun b => b = g) W (W.setCell ⟨g, j * 2 + 1, none⟩ v) := Keep.setCell (S := fun b => b = g) (p := ⟨g, j * 2 + 1, none⟩) (Keep.refl _ _) (.inr rfl) _
  have hj := (List.getElem?_eq_some_iff.1 hx).1
  have hle : n ≤ c := by
    obtain ⟨_, A, c', e, h, _⟩ := ho
    injection e with _ _ e
    omega
  refine ⟨⟨us.set j v, by rw [List.length_set, List.length_set, hu], ?_, fun i y q hy hq => ?_⟩, hk⟩
  · have h2 := ho.setG (k := j * 2 + 1) (x := v) (by omega)
    have flat : ∀ (l : List (PtZ × Value)) (r : Nat) (x : PtZ × Value) (k : Int) (q : Value), l[r]? = some x → x.1.comp = k → (l.flatMap parN.cells).set (r * 2 + 1) q = (l.set r ((⟨k, d⟩ : PtZ), q)).flatMap parN.cells := by
      intro l
      induction l with
      | nil => intro r x k q h; simp at h
      | cons y l ih =>
        intro r x k q h hk
        cases r with
        | zero =>
          simp at h
          subst h hk
          simp [parN]
        | succ r =>
          have := ih r x k q (by simpa using h) hk
          rw [List.set_cons_succ, List.flatMap_cons, List.flatMap_cons, ← this, show (r + 1) * 2 + 1 = (r * 2 + 1) + 2 by omega]
          simp [parN]
    obtain ⟨q0, hq0⟩ : ∃ q0, us[j]? = some q0 := ⟨_, List.getElem?_eq_getElem (by omega)⟩
    rw [flat _ j (x, q0) x.comp v (List.getElem?_zip_eq_some.2 ⟨hx, hq0⟩) rfl, ← zip_set] at h2
    have h4 : Own (W.setCell ⟨g, j * 2 + 1, none⟩ v) B e parN.m (.slice (some ⟨g, 0, none⟩) n c) ((P.set j ⟨x.comp, d⟩).zip (us.set j v)).length (((P.set j ⟨x.comp, d⟩).zip (us.set j v)).flatMap parN.cells) := by
      rw [List.length_zip, List.length_set, List.length_set, hu, Nat.min_self, hn]; exact h2
    exact (Own.ml (n := 0) parN.pos parN.len h4).mono (fun b _ h => .inr h)
  · show By _ _ q y.data
    by_cases e1 : i = j
    · subst e1
      rw [List.getElem?_set_self hj] at hy
      rw [List.getElem?_set_self (by omega)] at hq
      obtain rfl := Option.some.inj hy
      obtain rfl := Option.some.inj hq
      exact (By.keep hv hk (fun b _ h e => hg b h e)).mono (fun _ _ h => .inl h)
    · rw [List.getElem?_set_ne (Ne.symm e1)] at hy hq
      exact (By.keep (hi i y q hy hq) hk (fun b _ h e => hg b h e)).mono (fun _ _ h => .inl h)
theorem src_mlP {W : World} {F : Nat → Prop} {A : Option Addr} {n c : Nat} {P : List PtZ} {us : List Value} (h1 : us.length = P.length) (hn : P.length = n) (h : ML parN.cells parN.m W F (.slice A n c) (P.zip us)) (hone : ∀ (i : Nat) x q, P[i]? = some x → us[i]? = some q → By W F q x.data) : Src Tryd.prog 2 118 (.slice A n c) n ((P.zip us).flatMap parN.cells) W := by
  have hl : (P.zip us).length = n := by rw [List.length_zip, h1, Nat.min_self]; exact hn
  obtain ⟨A', c', e, g1, g2, g3, -⟩ := h
  rw [hl] at e g1 g3
  injection e with e1 e2 e3
  subst e1 e3
  refine Rd.src (c := c) (P := Tryd.prog) g3 Tryd.underlying118 (fun u hu => ?_) (by decide)
  obtain ⟨p, hp, hu⟩ := List.mem_flatMap.1 hu
  obtain ⟨i, hi⟩ := List.mem_iff_getElem?.1 hp
  have := List.getElem?_zip_eq_some.1 hi
  exact parN.one (hone i p.1 p.2 this.1 this.2) u hu
theorem wpList_parts0 {ops : Array Oper} {o : Oper} {rest : List Oper} {a : Act} {w : World} {Q : Exit → Act → World → Prop} (hgd : Region.wanted o (yielded ops a.tmps) = true) (s x : Operand)
    (ho : o.op = .call { callee := .builtin .append, args := #[s, x], argTypes := #[118, 118] }) (B : Nat) (v : Value) (hv : a.eval s = v) (hown : Own w B 130 2 v 0 []) (vx : Value) (k : Nat) (ys : List Value)
    (hy : a.eval x = vx) (hsrc : Src Tryd.prog 2 118 vx k ys w) (hk : k ≤ 1099511627776) (hB : B ≤ w.heap.size)
    (h : ∀ A c w', Own w' B 130 2 (.slice A k c) k ys → Keep (fun k => ownB v = some k) w w' → wpList Tryd.prog ops Q rest (a.put o.dst (.slice A k c)) w') :
    wpList Tryd.prog ops Q (o :: rest) a w :=
  wpList_step fun _ hK => by
    obtain ⟨is, his, hs0, hs1, hs2⟩ := info_parts info_part
    refine step_append_gen w hgd s x _ _ ho B 130 is _ 2 32 Tryd.underlying118 his hs0 hs1 hs2 rfl v 0 _ hv hown vx k ys hy hsrc (by unfold maxLen; omega) (by omega) hB ?_
    intro v' w' ho' hk' hn'
    obtain ⟨A, c', rfl, _⟩ := ho'.form
    rw [Nat.zero_add] at ho' ⊢
    exact hK _ _ (h A c' w' ho' hk')
section
variable {w : World} {F : Nat → Prop} {u : Value} {L : List Nat} {sz : Nat → Nat} {rows : List EnZ}
end
end Go.Proofs.YtglliendhbkkhaaDoor

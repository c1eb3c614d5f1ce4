/- vivariumref09.add: what stands around it. -/
import Derived.Test.YtpkeahikfbmcpaaDoorTabD
import Derived.Test.YtpkeahikfbmcpaaDoorArgs
namespace Go.Proofs.YtpkeahikfbmcpaaDoor
open Go.RowKit
set_option maxRecDepth 100000
set_option linter.unusedVariables false
set_option linter.unusedSimpArgs false

/-- A step. -/
structure StZ where
  do_ : Int
  id : IdZ
  parts : List PtZ
  row : Int
  comp : Int
  data : List UInt8
deriving DecidableEq, Inhabited
def stN : Nst StZ (Value × Value) where
  cells p := [.int .i64 p.1.do_, .int .i64 p.1.id.ix, .int .i64 p.1.id.gen, p.2.1, .int .i64 p.1.row, .int .i64 p.1.comp, p.2.2]
  m := 7
  pos := by decide
  len _ := rfl
  inn w F x u := NS parN w F u.1 x.parts ∧ By w F u.2 x.data
  one h u hu := by
    obtain ⟨A, c, h1, -⟩ := h.1.form
    obtain ⟨B, d, h2, -⟩ := h.2
    simp only [List.mem_cons, List.not_mem_nil, or_false] at hu
    rcases hu with rfl | rfl | rfl | rfl | rfl | rfl | rfl
    · rfl
    · rfl
    · rfl
    · rw [h1]; rfl
    · rfl
    · rfl
    · rw [h2]; rfl
  keep h hk hs := ⟨NS.keep h.1 hk hs, By.keep h.2 hk hs⟩
  mono h hf := ⟨NS.mono h.1 hf, By.mono h.2 hf⟩
def stV (x : StZ) (p d : Value) : Value := .agg #[.int .i64 x.do_, .int .i64 x.id.ix, .int .i64 x.id.gen, p, .int .i64 x.row, .int .i64 x.comp, d]
theorem under_told : Tryd.prog.underlying 42 = some (.struct (Tryd.prog.fieldsOf 42)) := by kernel_rfl
theorem size_told : (Tryd.prog.info? 42).map (·.size) = some 6 := by kernel_rfl
theorem results_go {fn : Func} {p q : Tmp} (h : fn.results = #[.cell p 35, .cell q 42]) (tmps : Array Value) (w : World) (g gq : Nat) (c0 c1 c2 d0 d1 d2 d3 d4 d5 : Value)
    (hp : tmps.getD p undef = .pointer (some ⟨g, 0, none⟩)) (hg : w.heap[g]? = some (.cells #[c0, c1, c2] 35 (0, 0)))
    (hq : tmps.getD q undef = .pointer (some ⟨gq, 0, none⟩)) (hgq : w.heap[gq]? = some (.cells #[d0, d1, d2, d3, d4, d5] 42 (0, 0))) : (results fn tmps).run Tryd.prog w = .ok (.tuple #[.agg #[c0, c1, c2], .agg #[d0, d1, d2, d3, d4, d5]]) w := by
  have hr := run_loadVar_row (P := Tryd.prog) w g 35 35 #[c0, c1, c2] (0, 0) _ hg under_tab rfl size_tab
  have hr2 := run_loadVar_row (P := Tryd.prog) w gq 42 42 #[d0, d1, d2, d3, d4, d5] (0, 0) _ hgq under_told rfl size_told
  have e : (results fn tmps).run Tryd.prog w = ((asAddr (tmps.getD p undef)).run Tryd.prog w).andThen fun a w₁ => ((loadVar 35 a).run Tryd.prog w₁).andThen fun v w₂ => ((asAddr (tmps.getD q undef)).run Tryd.prog w₂).andThen fun a w₃ => ((loadVar 42 a).run Tryd.prog w₃).andThen fun v2 w₄ => .ok (.tuple #[v, v2]) w₄ := by
    simp only [results, h]
    simp [Sem.run_bind, Result.andThen]
  rw [e, hp, hq]
  simp [asAddr, hr, hr2]
/-- What stands ahead of a step: the table, the step, and the results. -/
def GB (w W : World) (vc vs vr : Value) (x : StZ) (p d : Value) : Prop :=
  W.heap[w.heap.size]? = some (.cells #[vc, vs, vr] 35 (0, 0)) ∧ W.heap[w.heap.size + 1]? = some (.cells #[.int .i64 x.do_, .int .i64 x.id.ix, .int .i64 x.id.gen, p, .int .i64 x.row, .int .i64 x.comp, d] 45 (0, 0)) ∧
  W.heap[w.heap.size + 1 + 1]? = some (.cells #[.slice none 0 0, .slice none 0 0, .slice none 0 0] 35 (0, 0)) ∧ W.heap[w.heap.size + 1 + 1 + 1]? = some (.cells #[.slice none 0 0, .slice none 0 0, .int .i64 0, .int .i64 0, .bool false, .int .i64 0] 42 (0, 0)) ∧ Keep (fun _ => False) w W
theorem GB.first (w : World) (vc vs vr : Value) (x : StZ) (p d : Value) : GB w ((((w.alloc (.cells #[vc, vs, vr] 35 (0, 0))).alloc (.cells #[.int .i64 x.do_, .int .i64 x.id.ix, .int .i64 x.id.gen, p, .int .i64 x.row, .int .i64 x.comp, d] 45 (0, 0))).alloc (.cells #[.slice none 0 0, .slice none 0 0, .slice none 0 0] 35 (0, 0))).alloc (.cells #[.slice none 0 0, .slice none 0 0, .int .i64 0, .int .i64 0, .bool false, .int .i64 0] 42 (0, 0))) vc vs vr x p d := by
  have k1 : ∀ (W : World) (b : Nat) (o : Obj), b < W.heap.size → (W.alloc o).heap[b]? = W.heap[b]? := fun W b o hb => ((Keep.refl (fun _ => False) W).alloc o).block b hb (fun h => h)
  exact ⟨(k1 _ _ _ (by first | (simp; done) | (simp; omega))).trans ((k1 _ _ _ (by first | (simp; done) | (simp; omega))).trans ((k1 _ _ _ (by first | (simp; done) | (simp; omega))).trans (heap_alloc_new w _))), (k1 _ _ _ (by first | (simp; done) | (simp; omega))).trans ((k1 _ _ _ (by first | (simp; done) | (simp; omega))).trans (heap_alloc_at _ _ _ (by simp))), (k1 _ _ _ (by first | (simp; done) | (simp; omega))).trans (heap_alloc_at _ _ _ (by simp)), heap_alloc_at _ _ _ (by simp), ((((Keep.refl _ w).alloc _).alloc _).alloc _).alloc _⟩
theorem GB.same {w W W' : World} {vc vs vr : Value} {x : StZ} {p d : Value} (h : GB w W vc vs vr x p d) (hk : Keep (fun _ => False) W W') : GB w W' vc vs vr x p d :=
  ⟨(hk.block _ (Array.getElem?_eq_some_iff.1 h.1).1 (fun h => h)).trans h.1, (hk.block _ (Array.getElem?_eq_some_iff.1 h.2.1).1 (fun h => h)).trans h.2.1, (hk.block _ (Array.getElem?_eq_some_iff.1 h.2.2.1).1 (fun h => h)).trans h.2.2.1, (hk.block _ (Array.getElem?_eq_some_iff.1 h.2.2.2.1).1 (fun h => h)).trans h.2.2.2.1, h.2.2.2.2.trans hk (fun _ _ h => h)⟩
theorem heap_six {w : World} {p : Nat} {t : TypeId} {a b c d e f : Value} (h : w.heap[p]? = some (.cells #[a, b, c, d, e, f] t (0, 0))) (x0 x1 x2 x3 x4 x5 : Value) : ((((((w.setCell ⟨p, 0, none⟩ x0).setCell ⟨p, 1, none⟩ x1).setCell ⟨p, 2, none⟩ x2).setCell ⟨p, 3, none⟩ x3).setCell ⟨p, 4, none⟩ x4).setCell ⟨p, 5, none⟩ x5).heap[p]? = some (.cells #[x0, x1, x2, x3, x4, x5] t (0, 0)) := by
  rw [heap_setCell_same _ p 5 _ _ x5 (heap_setCell_same _ p 4 _ _ x4 (heap_setCell_same _ p 3 _ _ x3 (heap_setCell_same _ p 2 _ _ x2 (heap_setCell_same _ p 1 _ _ x1 (heap_setCell_same w p 0 _ _ x0 h)))))]; rfl
/-- A table, in place. -/
def set3 (w : World) (p : Nat) (x y z : Value) : World := ((w.setCell ⟨p, 0, none⟩ x).setCell ⟨p, 1, none⟩ y).setCell ⟨p, 2, none⟩ z
def set6 (w : World) (p : Nat) (x0 x1 x2 x3 x4 x5 : Value) : World := (((((w.setCell ⟨p, 0, none⟩ x0).setCell ⟨p, 1, none⟩ x1).setCell ⟨p, 2, none⟩ x2).setCell ⟨p, 3, none⟩ x3).setCell ⟨p, 4, none⟩ x4).setCell ⟨p, 5, none⟩ x5
theorem keep3 (w : World) (p : Nat) (x y z : Value) : Keep (fun b => b = p) w (set3 w p x y z) :=
  Keep.setCell (S := fun b => b = p) (p := ⟨p, 2, none⟩) (Keep.setCell (S := fun b => b = p) (p := ⟨p, 1, none⟩) (Keep.setCell (S := fun b => b = p) (p := ⟨p, 0, none⟩) (Keep.refl _ _) (.inr rfl) _) (.inr rfl) _) (.inr rfl) _
theorem keep6 (w : World) (p : Nat) (x0 x1 x2 x3 x4 x5 : Value) : Keep (fun b => b = p) w (set6 w p x0 x1 x2 x3 x4 x5) :=
  Keep.setCell (S := fun b => b = p) (p := ⟨p, 5, none⟩) (Keep.setCell (S := fun b => b = p) (p := ⟨p, 4, none⟩) (Keep.setCell (S := fun b => b = p) (p := ⟨p, 3, none⟩) (Keep.setCell (S := fun b => b = p) (p := ⟨p, 2, none⟩) (Keep.setCell (S := fun b => b = p) (p := ⟨p, 1, none⟩) (Keep.setCell (S := fun b => b = p) (p := ⟨p, 0, none⟩) (Keep.refl _ _) (.inr rfl) _) (.inr rfl) _) (.inr rfl) _) (.inr rfl) _) (.inr rfl) _) (.inr rfl) _
/-- Both results stand there. -/
theorem go_stored {W : World} {p q : Nat} {u0 u1 u2 v0 v1 v2 v3 v4 v5 : Value} (hp : W.heap[p]? = some (.cells #[u0, u1, u2] 35 (0, 0))) (hq : W.heap[q]? = some (.cells #[v0, v1, v2, v3, v4, v5] 42 (0, 0))) (hpq : p ≠ q) (x y z x0 x1 x2 x3 x4 x5 : Value) :
    (set6 (set3 W p x y z) q x0 x1 x2 x3 x4 x5).heap[p]? = some (.cells #[x, y, z] 35 (0, 0)) ∧ (set6 (set3 W p x y z) q x0 x1 x2 x3 x4 x5).heap[q]? = some (.cells #[x0, x1, x2, x3, x4, x5] 42 (0, 0)) := by
  have h1 : (set3 W p x y z).heap[p]? = _ := heap_three hp x y z
  have h2 : (set3 W p x y z).heap[q]? = _ := ((keep3 W p x y z).block q (Array.getElem?_eq_some_iff.1 hq).1 (fun e => hpq e.symm)).trans hq
  exact ⟨((keep6 _ q x0 x1 x2 x3 x4 x5).block p (Array.getElem?_eq_some_iff.1 h1).1 (fun e => hpq e)).trans h1, heap_six h2 _ _ _ _ _ _⟩
/-- What a step leaves. -/
def GoPost (w : World) (F : Nat → Prop) (L : List Nat) (sz : Nat → Nat) (rows : List EnZ) (t : TlZ) (e : Ending) (w' : World) : Prop :=
  ∃ u v, e = .returned (.tuple #[u, v]) ∧ RT w' (fun b => F b ∨ w.heap.size ≤ b) u L sz rows ∧ TlSt w' (fun b => F b ∨ w.heap.size ≤ b) v t ∧ Below w.heap.size w w'
end Go.Proofs.YtpkeahikfbmcpaaDoor
namespace Go.Proofs.YtpkeahikfbmcpaaDoor
open Go.RowKit
set_option maxRecDepth 100000
set_option linter.unusedVariables false
set_option linter.unusedSimpArgs false

theorem dataT_nil (k : Int) (size : Nat) : dataT [] k size = List.replicate size 0 := rfl
theorem dataT_cons (x : PtZ) (P : List PtZ) (k : Int) (size : Nat) : dataT (x :: P) k size = if x.comp = k then x.data else dataT P k size := by
  unfold dataT fstP
  rw [List.findIdx_cons]
  by_cases h : x.comp = k
  · rw [if_pos h, decide_eq_true h]; rfl
  · rw [if_neg h, decide_eq_false h]; rfl
theorem dataT_drop {P : List PtZ} {t : Nat} {x : PtZ} (k : Int) (size : Nat) (h : P[t]? = some x) : dataT (P.drop t) k size = if x.comp = k then x.data else dataT (P.drop (t + 1)) k size := by
  obtain ⟨ht, e⟩ := List.getElem?_eq_some_iff.1 h
  rw [List.drop_eq_getElem_cons ht, e, dataT_cons]
theorem cutB_nil (n : Nat) : cutB [] n = List.replicate n 0 := by simp [cutB]
/-- The code of an add; the rows behind it. -/
def addRow (L : List Nat) (sz : Nat → Nat) (x : StZ) : EnZ := ⟨x.id, L.map fun (c : Nat) => ⟨(c : Int), dataT x.parts (c : Int) (sz c)⟩⟩
def addOkL (L : List Nat) (sz : Nat → Nat) (P : List PtZ) : Bool := L.all fun c => decide ((dataT P (c : Int) (sz c)).length = sz c)
def addCL (L : List Nat) (n : Nat) (sz : Nat → Nat) (P : List PtZ) : Int := if n = 1024 then 9 else if addOkL L sz P = true then 0 else 7
def addRL (L : List Nat) (sz : Nat → Nat) (rows : List EnZ) (x : StZ) : List EnZ := if addCL L rows.length sz x.parts = 0 then rows ++ [addRow L sz x] else rows
def errT (z : Int) : TlZ := ⟨[], [], ⟨0, 0⟩, false, z⟩
section
variable {α β : Type} {P : Program} {ops : Array Oper} {rest : List Oper} {o : Oper} {a : Act} {w : World} {K : Act → World → Prop} {Q : Exit → Act → World → Prop} {E : Prop}
theorem step_pushX (hgd : Region.wanted o (yielded ops a.tmps) = true) (s x : Operand) (t : TypeId) (ho : o.op = .call { callee := .builtin .append, args := #[s, x], argTypes := #[t, t] })
    (N : Nst α β) (X : Nat → Prop) (B : Nat) (e : TypeId) (i : TypeInfo) (z : Value) (bytes : Nat) (ht : P.underlying t = some (.slice e)) (hi : P.info? e = some i) (hz : i.zero = some z) (hsize : i.size = N.m) (hby : i.bytes = bytes) (hzs : z.cells.size = N.m)
    (v : Value) (R : List α) (n : Nat) (hn : R.length = n) (hv : a.eval s = v) (hnb : NBX N X B e w v R) (g c : Nat) (y : α) (q : β) (hy : a.eval x = .slice (some ⟨g, 0, none⟩) 1 c) (hc : ∀ j u, (N.cells (y, q))[j]? = some u → w.cell? ⟨g, j, none⟩ = some u) (hx : N.inn w (fun b => X b ∧ ownB v ≠ some b) y q)
    (h63 : n + 1 ≤ maxLen) (hbytes : (n + 1) * bytes ≤ 140737488355328) (hB : B ≤ w.heap.size)
    (h : ∀ A c w', NBX N X B e w' (.slice A (n + 1) c) (R ++ [y]) → Keep (fun k => ownB v = some k) w w' → K (a.put o.dst (.slice A (n + 1) c)) w') :
    if Region.wanted o (yielded ops a.tmps) = true then Oper.wp P o a w K Q else E := by
  rw [if_pos hgd]
  exact wp_pushX s x t ho N X B e i z bytes ht hi hz hsize hby hzs v R n hn hv hnb g c y q hy hc hx h63 hbytes hB h
end
theorem ent_push {W : World} {G : Nat → Prop} {B : Nat} {e : TypeId} {u v : Value} {rows : List EnZ} {us : List Value} {y : EnZ} (h1 : us.length = rows.length) (h3 : ∀ (i : Nat) x q, rows[i]? = some x → us[i]? = some q → NS parN W G q x.parts) (hv : NS parN W G v y.parts) (ho : Own W B e 3 u (rows.length + 1) ((rows.zip us).flatMap entN.cells ++ entN.cells (y, v))) : NS entN W (fun b => G b ∨ B ≤ b) u (rows ++ [y]) := by
  have hz : (rows ++ [y]).zip (us ++ [v]) = rows.zip us ++ [(y, v)] := by rw [List.zip_append h1.symm]; rfl
  refine ⟨us ++ [v], by rw [List.length_append, List.length_append, h1]; rfl, ?_, fun i x q hx hq => ?_⟩
  · rw [hz]
    have h4 : Own W B e entN.m u (rows.zip us ++ [(y, v)]).length ((rows.zip us ++ [(y, v)]).flatMap entN.cells) := by
      rw [List.length_append, List.length_zip, h1, Nat.min_self, List.flatMap_append, List.flatMap_cons, List.flatMap_nil, List.append_nil]; exact ho
    exact (Own.ml (n := 0) entN.pos entN.len h4).mono (fun b _ h => .inr (by simpa using h))
  · have key : ∀ (z : EnZ) (q : Value), NS parN W G q z.parts → entN.inn W (fun b => G b ∨ B ≤ b) z q := fun z q h => NS.mono h (fun _ _ h => .inl h)
    rcases Nat.lt_or_ge i rows.length with hi | hi
    · rw [List.getElem?_append_left hi] at hx
      rw [List.getElem?_append_left (by omega)] at hq
      exact key _ _ (h3 i x q hx hq)
    · rw [List.getElem?_append_right hi] at hx
      rw [List.getElem?_append_right (by omega), h1] at hq
      match hj : i - rows.length, hx, hq with
      | 0, hx, hq =>
        obtain rfl : y = x := by simpa using hx
        obtain rfl : v = q := by simpa using hq
        exact key _ _ hv
theorem step_ent {ops : Array Oper} {o : Oper} {a : Act} {w : World} {K : Act → World → Prop} {Q : Exit → Act → World → Prop} {E : Prop} (hgd : Region.wanted o (yielded ops a.tmps) = true) (s x : Operand)
    (ho : o.op = .call { callee := .builtin .append, args := #[s, x], argTypes := #[33, 33] }) (B : Nat) (v : Value) (n : Nat) (xs : List Value) (hv : a.eval s = v) (hown : Own w B 91 3 v n xs) (vx : Value) (k : Nat) (ys : List Value)
    (hy : a.eval x = vx) (hsrc : Src Tryd.prog 3 33 vx k ys w) (hk : n + k ≤ 1099511627776) (hB : B ≤ w.heap.size)
    (h : ∀ A c w', Own w' B 91 3 (.slice A (n + k) c) (n + k) (xs ++ ys) → Keep (fun k => ownB v = some k) w w' → (∀ k', ownB (.slice A (n + k) c) = some k' → ownB v = some k' ∨ w.heap.size ≤ k') → K (a.put o.dst (.slice A (n + k) c)) w') :
    if Region.wanted o (yielded ops a.tmps) = true then Oper.wp Tryd.prog o a w K Q else E := by
  obtain ⟨is, his, hs0, hs1, hs2⟩ := info_parts info_ent
  refine step_append_gen w hgd s x _ _ ho B 91 is _ 3 40 Tryd.underlying33 his hs0 hs1 hs2 rfl v n _ hv hown vx k ys hy hsrc (by unfold maxLen; omega) (by omega) hB ?_
  intro v' w' ho' hk' hn'
  obtain ⟨A, c', rfl, _⟩ := ho'.form
  exact h A c' w' ho' hk' hn'
theorem src_ent {W : World} {g : Nat} {a b : Int} {A : Option Addr} {n c : Nat} (h : W.heap[g]? = some (.cells #[.int .i64 a, .int .i64 b, .slice A n c] 91 (0, 0))) : Src Tryd.prog 3 33 (.slice (some ⟨g, 0, none⟩) 1 1) 1 [.int .i64 a, .int .i64 b, .slice A n c] W := by
  obtain ⟨c0, c1, c2, -⟩ := cells3 h
  exact Src.ofSlice _ Tryd.underlying33 _ 1 1 _ rfl (fun j u hu => by
    match j, hu with
    | 0, hu => cases hu; simpa [Addr.add] using c0
    | 1, hu => cases hu; simpa [Addr.add] using c1
    | 2, hu => cases hu; simpa [Addr.add] using c2) (fun u hu => by
    simp only [List.mem_cons, List.not_mem_nil, or_false] at hu
    rcases hu with rfl | rfl | rfl <;> rfl)
theorem src_ml {W : World} {F : Nat → Prop} {A : Option Addr} {n c : Nat} {rows : List EnZ} {us : List Value} (h1 : us.length = rows.length) (hn : rows.length = n) (h : ML entN.cells entN.m W F (.slice A n c) (rows.zip us)) (hone : ∀ (i : Nat) x q, rows[i]? = some x → us[i]? = some q → entN.inn W F x q) : Src Tryd.prog 3 33 (.slice A n c) n ((rows.zip us).flatMap entN.cells) W := by
  have hl : (rows.zip us).length = n := by rw [List.length_zip, h1, Nat.min_self]; exact hn
  obtain ⟨A', c', e, g1, g2, g3, -⟩ := h
  rw [hl] at e g1 g3
  injection e with e1 e2 e3
  subst e1 e3
  refine Rd.src (c := c) (P := Tryd.prog) g3 Tryd.underlying33 (fun u hu => ?_) (by decide)
  obtain ⟨p, hp, hu⟩ := List.mem_flatMap.1 hu
  obtain ⟨i, hi⟩ := List.mem_iff_getElem?.1 hp
  have := List.getElem?_zip_eq_some.1 hi
  exact entN.one (hone i p.1 p.2 this.1 this.2) u hu
end Go.Proofs.YtpkeahikfbmcpaaDoor
namespace Go.Proofs.YtpkeahikfbmcpaaDoor
open Go.RowKit
set_option maxRecDepth 100000
set_option linter.unusedVariables false
set_option linter.unusedSimpArgs false

section
variable {w : World} {F : Nat → Prop} {u : Value} {L : List Nat} {sz : Nat → Nat} {rows : List EnZ}
set_option maxHeartbeats 8000000 in
theorem radd_any (h : RT w F u L sz rows) (x : StZ) (p d : Value) (hp : NS parN w F p x.parts) (hd : By w F d x.data) (hP : x.parts.length ≤ 1000) (hm64 : L.length ≤ 64) (h64 : ∀ c ∈ L, c < 64 ∧ sz c ≤ 64) (h24 : rows.length ≤ 1024) :
    Calls Tryd.prog 36 #[u, stV x p d] w (GoPost w F L sz (addRL L sz rows x) (errT (addCL L rows.length sz x.parts))) := by
  have HRT := Lib.hid h
  obtain ⟨Ac, cc, As, cs, Ar, cr, rfl, hc1, hc2, hs1, hs2, hr1, hr2, k1, k2, k3⟩ := h.form
  clear h
  unfold maxLen at hc2 hs2 hr2
  obtain ⟨Ap, cp, rfl, hp2, hp1⟩ := hp.form
  unfold maxLen at hp2
  have HC := Lib.hid k1
  have HSZ := Lib.hid k2
  have HRW := Lib.hid k3
  have HP := Lib.hid hp
  have HGO := Lib.hid (show ∀ (W : World) (Vr : Value) (rows' : List EnZ) (z : Int), Keep (fun b => w.heap.size ≤ b) w W → NS entN W (fun b => F b ∨ w.heap.size ≤ b) Vr rows' → GoPost w F L sz rows' (errT z) (.returned (.tuple #[.agg #[.slice Ac L.length cc, .slice As L.length cs, Vr], .agg #[.slice none 0 0, .slice none 0 0, .int .i64 0, .int .i64 0, .bool false, .int .i64 z]])) W from
    fun W Vr rows' z g4 g3 => ⟨_, _, rfl, ⟨_, _, _, rfl, (k1.keep g4 (fun b hb _ h => by omega)).mono (fun _ _ h => .inl h), (k2.keep g4 (fun b hb _ h => by omega)).mono (fun _ _ h => .inl h), g3⟩, ⟨_, _, rfl, By.nil _ _, NS.nil _ _ _⟩, g4.to_below (Nat.le_refl _)⟩)
  have HRF := Lib.hid (show ∀ (W : World), Keep (fun b => w.heap.size ≤ b) w W → NS entN W (fun b => F b ∨ w.heap.size ≤ b) (.slice Ar rows.length cr) rows from fun W g => (k3.keep g (fun b hb _ h => by omega)).mono (fun _ _ h => .inl h))
  have KF := Lib.hid (show ∀ (W : World) (a b c d0 d1 d2 d3 d4 d5 : Value), Keep (fun b => w.heap.size ≤ b) w W → Keep (fun b => w.heap.size ≤ b) w (set6 (set3 W (w.heap.size + 1 + 1) a b c) (w.heap.size + 1 + 1 + 1) d0 d1 d2 d3 d4 d5) from fun W a b c d0 d1 d2 d3 d4 d5 g => (g.trans (keep3 W _ a b c) (fun _ _ e => by omega)).trans (keep6 _ _ d0 d1 d2 d3 d4 d5) (fun _ _ e => by omega))
  clear k1 k2 k3 hp
  obtain ⟨Ad, cd, rfl, -⟩ := hd
  generalize x.data.length = nd at *
  unfold stV
  obtain ⟨m, hm⟩ : ∃ m, L.length = m := ⟨_, rfl⟩
  have HM := Lib.hid hm
  obtain ⟨n, hn⟩ : ∃ n, rows.length = n := ⟨_, rfl⟩
  have HN := Lib.hid hn
  obtain ⟨q, hq⟩ : ∃ q, x.parts.length = q := ⟨_, rfl⟩
  have HQ := Lib.hid hq
  rw [hm] at HC HSZ hc1 hs1 hm64 HGO ⊢
  rw [hn] at HRW HRF hr1 h24 ⊢
  rw [hq] at HP hp1 hP ⊢
  have GB0 := Lib.hid (GB.first w (.slice Ac m cc) (.slice As m cs) (.slice Ar n cr) x (.slice Ap q cp) (.slice Ad nd cd))
  have H64 := Lib.hid (fun j (hj : j < m) => h64 _ (getD_mem (by rw [hm]; exact hj)))
  clear hm hn hq h64
  by_cases hfull : n = 1024
  · have hz : addCL L n sz x.parts = 9 := by unfold addCL; rw [if_pos hfull]
    have hR : addRL L sz rows x = rows := by unfold addRL; rw [HN.out, hz, if_neg (by decide)]
    rw [hz, hR]
    have hfi : ((n : Nat) : Int) = 1024 := by omega
    subst hfull
    clear hz hR
    go_enter Tryd.func36, Tryd.ntmps36
    go_upto_region 1 with fail
    refine wp_world (S := fun W => GB w W (.slice Ac m cc) (.slice As m cs) (.slice Ar 1024 cr) x (.slice Ap q cp) (.slice Ad nd cd)) GB0.out ?_
    intro X hX
    have HX := Lib.hid hX
    clear hX GB0
    obtain ⟨x0, x1, x2, xf⟩ := cells3 HX.out.1
    obtain ⟨y0, y1, y2, yf⟩ := cells3 HX.out.2.2.1
    obtain ⟨z0, z1, z2, z3, z4, z5, zf⟩ := cells6 HX.out.2.2.2.1
    have g0 := HX.out.2.2.2.2.mono (T := fun b => w.heap.size ≤ b) (fun _ _ h => h.elim)
    go_wp2
    refine bodyPost_ret (results_go Tryd.results36 _ _ (w.heap.size + 1 + 1) (w.heap.size + 1 + 1 + 1) _ _ _ _ _ _ _ _ _ (by rfl) (go_stored HX.out.2.2.1 HX.out.2.2.2.1 (by omega) _ _ _ _ _ _ _ _ _).1 (by rfl) (go_stored HX.out.2.2.1 HX.out.2.2.2.1 (by omega) _ _ _ _ _ _ _ _ _).2) rfl ?_
    exact HGO.out _ _ _ _ (KF.out _ _ _ _ _ _ _ _ _ _ g0) (HRF.out _ (KF.out _ _ _ _ _ _ _ _ _ _ g0))
  · have hnf : (((n : Nat) : Int) == 1024) = false := by rw [beq_eq_false_iff_ne]; omega
    have ADDZ := Lib.hid (show addCL L n sz x.parts = if addOkL L sz x.parts = true then 0 else 7 by unfold addCL; rw [if_neg hfull])
    have OK1 := Lib.hid (show (∀ j, j < m → (dataT x.parts ((L.getD j 0 : Nat) : Int) (sz (L.getD j 0))).length = sz (L.getD j 0)) → addOkL L sz x.parts = true from fun hh => List.all_eq_true.2 fun c hc => decide_eq_true (by
      obtain ⟨j, hj, e⟩ := List.getElem_of_mem hc
      have := hh j (by rw [← HM.out]; exact hj)
      rw [List.getD_eq_getElem?_getD, List.getElem?_eq_getElem hj] at this
      rw [← e]; exact this))
    have OK0 := Lib.hid (show ∀ j, j < m → (dataT x.parts ((L.getD j 0 : Nat) : Int) (sz (L.getD j 0))).length ≠ sz (L.getD j 0) → addOkL L sz x.parts = false from fun j hj hne => by
      unfold addOkL
      rw [List.all_eq_false]
      exact ⟨L.getD j 0, getD_mem (by rw [HM.out]; exact hj), by simpa using hne⟩)
    have hn23 : n ≤ 1023 := by omega
    clear hfull
    go_enter Tryd.func36, Tryd.ntmps36
    go_upto_region 1 with fail
    refine wp_world (S := fun W => GB w W (.slice Ac m cc) (.slice As m cs) (.slice Ar n cr) x (.slice Ap q cp) (.slice Ad nd cd)) GB0.out ?_
    intro X hX
    have HX := Lib.hid hX
    have hX4 : w.heap.size + 4 ≤ X.heap.size := by have := (Array.getElem?_eq_some_iff.1 hX.2.2.2.1).1; omega
    clear hX GB0
    obtain ⟨x0, x1, x2, xf⟩ := cells3 HX.out.1
    obtain ⟨s0, s1, s2, s3, s4, s5, s6, sf⟩ := cells7 HX.out.2.1
    go_upto_region 4 with fail
    refine wp_world (S := fun W => GB w W (.slice Ac m cc) (.slice As m cs) (.slice Ar n cr) x (.slice Ap q cp) (.slice Ad nd cd) ∧ W.heap[X.heap.size]? = some (.cells #[.int .i64 x.id.ix, .int .i64 x.id.gen, .slice none 0 0] 91 (0, 0)) ∧ Keep (fun _ => False) X W) ⟨HX.out.same (by exact (by repeat first | (with_reducible assumption) | (with_reducible exact Keep.refl _ _) | (with_reducible refine Keep.alloc ?_ _) | (with_reducible refine Keep.drew ?_) | (with_reducible refine Keep.drewN ?_ _) | (with_reducible refine Keep.setCell ?_ (.inl (by first | omega | (simp; done) | (simp; omega) | fail)) _))), by first | (exact heap_alloc_at _ _ _ (by first | rfl | (simp; done))) | (rw [Below.heap_alloc _ _ _ (by simp)]; exact heap_alloc_at _ _ _ (by first | rfl | (simp; done))) | (rw [heap_drew', Below.heap_alloc _ _ _ (by simp)]; exact heap_alloc_at _ _ _ (by first | rfl | (simp; done))) | (rw [heap_drew']; exact heap_alloc_at _ _ _ (by first | rfl | (simp; done))) | fail, by exact (by repeat first | (with_reducible assumption) | (with_reducible exact Keep.refl _ _) | (with_reducible refine Keep.alloc ?_ _) | (with_reducible refine Keep.drew ?_) | (with_reducible refine Keep.drewN ?_ _) | (with_reducible refine Keep.setCell ?_ (.inl (by first | omega | (simp; done) | (simp; omega) | fail)) _))⟩ ?_
    intro Y hY
    have HY := Lib.hid hY
    have hYX : X.heap.size < Y.heap.size := (Array.getElem?_eq_some_iff.1 hY.2.1).1
    clear hY x0 x1 x2 xf s0 s1 s2 s3 s4 s5 s6 sf
    obtain ⟨R, hR⟩ : ∃ R, X.heap.size = R := ⟨_, rfl⟩
    rw [hR] at HY hYX hX4 ⊢
    clear hR
    go_wp2
    go_loopw [7] (fun i wr => ∃ (j : Nat) (A3 : Option Addr) (c3 : Nat), j ≤ m ∧ i = .int .i64 (j : Int) ∧ Hid (wr.heap[R]? = some (.cells #[.int .i64 x.id.ix, .int .i64 x.id.gen, .slice A3 j c3] 91 (0, 0))) ∧ Hid (NBX parN (fun b => (F b ∧ b < w.heap.size) ∨ Y.heap.size ≤ b) Y.heap.size 81 wr (.slice A3 j c3) ((L.take j).map fun (c : Nat) => (⟨(c : Int), dataT x.parts (c : Int) (sz c)⟩ : PtZ))) ∧ Hid (Keep (fun b => b = R ∨ Y.heap.size ≤ b) Y wr) ∧ Hid (∀ i, i < j → (dataT x.parts ((L.getD i 0 : Nat) : Int) (sz (L.getD i 0))).length = sz (L.getD i 0))) (fun i _ => m - (intOf i).toNat)
    case atStart => exact ⟨0, none, 0, by omega, rfl, Lib.hid HY.out.2.1, Lib.hid (NBX.nil _ _ _ _ _), Lib.hid (Keep.refl _ _), Lib.hid (fun i h => absurd h (by omega))⟩
    case round =>
      obtain ⟨j, A3, c3, hj, rfl, hrow, hnb, hkr, hgd⟩ := hrel
      have hzr := hkr.out.size
      have kb : ∀ b, b < w.heap.size + 4 → wr.heap[b]? = Y.heap[b]? := fun b hb => hkr.out.block b (by omega) (fun e => by omega)
      have G0 := Lib.hid ((kb w.heap.size (by omega)).trans HY.out.1.1)
      have G1 := Lib.hid ((kb (w.heap.size + 1) (by omega)).trans HY.out.1.2.1)
      have G2 := Lib.hid ((kb (w.heap.size + 1 + 1) (by omega)).trans HY.out.1.2.2.1)
      have G3 := Lib.hid ((kb (w.heap.size + 1 + 1 + 1) (by omega)).trans HY.out.1.2.2.2.1)
      have KX := Lib.hid (show Keep (fun b => w.heap.size ≤ b) w wr from (HY.out.1.2.2.2.2.mono (T := fun b => w.heap.size ≤ b) (fun _ _ h => h.elim)).trans hkr.out (fun b _ e => by omega))
      clear kb
      by_cases hlt : j < m
      · have f1 : (j : Int) < (m : Int) := by omega
        have f0 : (0 : Int) ≤ (j : Int) := by omega
        obtain ⟨b1, o1, rfl, hcl⟩ := ints_at (HC.out.keep KX.out (fun b hb _ h => by omega)) HM.out hlt
        obtain ⟨b2, o2, rfl, hsl⟩ := ints_at (HSZ.out.keep KX.out (fun b hb _ h => by omega)) (by rw [List.length_map]; exact HM.out) hlt
        have hgd2 := hgd.out
        have MT := Lib.hid (map_take_next (fun (c : Nat) => (⟨(c : Int), dataT x.parts (c : Int) (sz c)⟩ : PtZ)) L (show j < L.length by rw [HM.out]; exact hlt))
        have hse : (L.map sz).getD j 0 = sz (L.getD j 0) := by
          rw [List.getD_eq_getElem?_getD, List.getElem?_map, List.getD_eq_getElem?_getD, List.getElem?_eq_getElem (by rw [HM.out]; exact hlt)]; rfl
        rw [hse] at hsl
        have h6 := H64.out j hlt
        have OKN := Lib.hid (OK0.out j hlt)
        have GDN := Lib.hid (show (dataT x.parts ((L.getD j 0 : Nat) : Int) (sz (L.getD j 0))).length = sz (L.getD j 0) → ∀ i, i < j + 1 → (dataT x.parts ((L.getD i 0 : Nat) : Int) (sz (L.getD i 0))).length = sz (L.getD i 0) from fun h i hi => by
          by_cases e : i = j
          · rw [e]; exact h
          · exact hgd2 i (by omega))
        clear hse hgd hgd2
        generalize L.getD j 0 = c at *
        obtain ⟨z, hz⟩ : ∃ z, sz c = z := ⟨_, rfl⟩
        have HZ := Lib.hid hz
        rw [hz] at hsl MT OKN GDN h6
        clear hz
        obtain ⟨x0, x1, x2, xf⟩ := cells3 G0.out
        obtain ⟨s0, s1, s2, s3, s4, s5, s6, sf⟩ := cells7 G1.out
        have CT := Lib.hid (refCut_any [] (.slice none 0 0) (fun _ => False) (z : Int) wr (By.nil _ _))
        have hcz : cutN (z : Int) = z := by unfold cutN; rw [if_neg (by omega), if_neg (by omega), Int.toNat_natCast]
        rw [hcz, cutB_nil] at CT
        clear hcz
        go_wp2_with fail
        with_reducible refine CT.out.mono ?_
        rintro e w4 ⟨u4, rfl, ho4, hb4⟩
        obtain ⟨A4, d4, rfl, -⟩ := ho4.form
        have HBY := Lib.hid (sl_by ho4.sl)
        have k4 := Lib.hid (show Keep (fun _ => False) wr w4 from Keep.of_below' hb4)
        have hz4 := hb4.size
        clear ho4 hb4 CT x0 x1 x2 xf s0 s1 s2 s3 s4 s5 s6 sf
        obtain ⟨x0, x1, x2, xf⟩ := cells3 ((k4.out.block _ (Array.getElem?_eq_some_iff.1 G0.out).1 (fun h => h)).trans G0.out)
        obtain ⟨s0, s1, s2, s3, s4, s5, s6, sf⟩ := cells7 ((k4.out.block _ (Array.getElem?_eq_some_iff.1 G1.out).1 (fun h => h)).trans G1.out)
        go_wp2
        obtain ⟨wo, hwo⟩ : ∃ wo, wo = wr := ⟨_, rfl⟩
        subst hwo
        go_loopw [8, 9] (fun y i wr2 => ∃ (t : Nat) (tI : Int) (A5 : Option Addr) (n5 d5 : Nat), t ≤ q ∧ tI = (t : Int) - 1 ∧ i = .int .i64 tI ∧ y = .slice A5 n5 d5 ∧ Hid (By wr2 (fun b => (F b ∧ b < w.heap.size) ∨ wo.heap.size ≤ b) (.slice A5 n5 d5) (dataT (x.parts.drop t) (c : Int) z)) ∧ Hid (Keep (fun _ => False) w4 wr2)) (fun _ i _ => (intOf i + 1).toNat)
        case atStart => exact ⟨q, _, A4, z, d4, by omega, rfl, rfl, rfl, Lib.hid (by rw [List.drop_of_length_le (by rw [HQ.out]; exact Nat.le_refl _), dataT_nil]; exact HBY.out.mono (fun _ _ h => .inr h)), Lib.hid (Keep.refl _ _)⟩
        case round =>
          obtain ⟨t, tI, A5, n5, d5, htq, hti, rfl, rfl, hby5, hk5⟩ := hrel
          clear x0 x1 x2 xf s0 s1 s2 s3 s4 s5 s6 sf
          have k45 := Lib.hid (k4.out.trans hk5.out (fun _ _ h => h))
          obtain ⟨x0, x1, x2, xf⟩ := cells3 ((k45.out.block _ (Array.getElem?_eq_some_iff.1 G0.out).1 (fun h => h)).trans G0.out)
          obtain ⟨s0, s1, s2, s3, s4, s5, s6, sf⟩ := cells7 ((k45.out.block _ (Array.getElem?_eq_some_iff.1 G1.out).1 (fun h => h)).trans G1.out)
          have hcl2 := k45.out.cell (fun h => h) hcl
          have hsl2 := k45.out.cell (fun h => h) hsl
          have KW := Lib.hid (KX.out.trans k45.out (fun _ _ h => h.elim))
          rcases t with _ | t
          · obtain rfl : tI = -1 := by omega
            clear hti
            rw [List.drop_zero] at hby5
            have g1 : ¬ (0 : Int) ≤ -1 := by omega
            have e2 : n5 = (dataT x.parts (c : Int) z).length := by
              obtain ⟨A', c', e', -⟩ := hby5.out
              injection e' with _ e2 _
            have HR5 := Lib.hid ((k45.out.block _ (Array.getElem?_eq_some_iff.1 hrow.out).1 (fun h => h)).trans hrow.out)
            have G25 := Lib.hid ((k45.out.block _ (Array.getElem?_eq_some_iff.1 G2.out).1 (fun h => h)).trans G2.out)
            have G35 := Lib.hid ((k45.out.block _ (Array.getElem?_eq_some_iff.1 G3.out).1 (fun h => h)).trans G3.out)
            have hz5 := k45.out.size
            by_cases hq5 : n5 = z
            · have GD2 := Lib.hid (GDN.out (by rw [← e2]; exact hq5))
              have eq5 : ((n5 : Int) != (z : Int)) = false := by rw [hq5]; simp
              have LEN := Lib.hid (show ((L.take j).map fun (c : Nat) => (⟨(c : Int), dataT x.parts (c : Int) (sz c)⟩ : PtZ)).length = j by rw [List.length_map, List.length_take, HM.out]; omega)
              have NEXT := Lib.hid (show ∀ (wX w6 : World) (A6 : Option Addr) (c6 : Nat), Keep (fun _ => False) wr wX → NBX parN (fun b => (F b ∧ b < w.heap.size) ∨ Y.heap.size ≤ b) Y.heap.size 81 w6 (.slice A6 (j + 1) c6) (((L.take j).map fun (c : Nat) => (⟨(c : Int), dataT x.parts (c : Int) (sz c)⟩ : PtZ)) ++ [⟨(c : Int), dataT x.parts (c : Int) z⟩]) → Keep (fun k => ownB (.slice A3 j c3) = some k) wX w6 →
                w6.heap[R]? = some (.cells #[.int .i64 x.id.ix, .int .i64 x.id.gen, .slice A3 j c3] 91 (0, 0)) ∧ Hid (∀ W', Keep (fun _ => False) (w6.setCell ⟨R, 2, none⟩ (.slice A6 (j + 1) c6)) W' → Hid (W'.heap[R]? = some (.cells #[.int .i64 x.id.ix, .int .i64 x.id.gen, .slice A6 (j + 1) c6] 91 (0, 0))) ∧ Hid (NBX parN (fun b => (F b ∧ b < w.heap.size) ∨ Y.heap.size ≤ b) Y.heap.size 81 W' (.slice A6 (j + 1) c6) ((L.take (j + 1)).map fun (c : Nat) => (⟨(c : Int), dataT x.parts (c : Int) (sz c)⟩ : PtZ))) ∧ Hid (Keep (fun b => b = R ∨ Y.heap.size ≤ b) Y W')) from fun wX w6 A6 c6 g1 g2 g3 => by
                  have hown : ∀ k, ownB (.slice A3 j c3) = some k → Y.heap.size ≤ k := fun k e => (hnb.out.own_lt e).1
                  have h6 : w6.heap[R]? = _ := ((g1.block R (Array.getElem?_eq_some_iff.1 HR5.out).1 (fun h => h)).trans HR5.out) |> fun h => (g3.block R (Array.getElem?_eq_some_iff.1 h).1 (fun e => by have := hown R e; omega)).trans h
                  refine ⟨h6, fun W' k => ⟨?_, ?_, ?_⟩⟩
                  · have h7 := heap_setCell_same w6 R 2 _ _ (.slice A6 (j + 1) c6) h6
                    exact (k.block R (Array.getElem?_eq_some_iff.1 h7).1 (fun h => h)).trans h7
                  · have hks : Keep (fun b => b = R) w6 (w6.setCell ⟨R, 2, none⟩ (.slice A6 (j + 1) c6)) := Keep.setCell (S := fun b => b = R) (p := ⟨R, 2, none⟩) (Keep.refl _ _) (.inr rfl) _
                    have := (g2.keep hks (fun b e e2 => by have := (g2.own_lt e).1; omega) (fun b hb h _ e => by omega)).keep k (fun _ _ h => h) (fun _ _ _ _ h => h)
                    show NBX _ _ _ _ _ _ _
                    rw [MT.out]; exact this
                  · have hks : Keep (fun b => b = R ∨ Y.heap.size ≤ b) w6 (w6.setCell ⟨R, 2, none⟩ (.slice A6 (j + 1) c6)) := Keep.setCell (S := fun b => b = R ∨ Y.heap.size ≤ b) (p := ⟨R, 2, none⟩) (Keep.refl _ _) (.inr (.inl rfl)) _
                    exact (((hkr.out.trans (k45.out.trans g1 (fun _ _ h => h)) (fun _ _ h => h.elim)).trans g3 (fun b _ e => .inr (hown b e))).trans hks (fun _ _ h => h)).trans k (fun _ _ h => h.elim))
              obtain ⟨rc0, rc1, rc2, rcf⟩ := cells3 HR5.out
              have HX5 := Lib.hid (show ∀ W', Keep (fun _ => False) wr W' → By W' (fun b => ((F b ∧ b < w.heap.size) ∨ Y.heap.size ≤ b) ∧ ownB (.slice A3 j c3) ≠ some b) (.slice A5 n5 d5) (dataT x.parts (c : Int) z) from fun W' k => By.mono (hby5.out.keep k (fun _ _ _ h => h)) (fun b hb h => ⟨by rcases h with h | h; exact .inl h; exact .inr (by omega), fun e => by
                have h1 := hnb.out.own_lt e
                rcases h with h | h
                · have := h.2; omega
                · omega⟩))
              have HN5 := Lib.hid (show ∀ W', Keep (fun _ => False) wr W' → NBX parN (fun b => (F b ∧ b < w.heap.size) ∨ Y.heap.size ≤ b) Y.heap.size 81 W' (.slice A3 j c3) ((L.take j).map fun (c : Nat) => (⟨(c : Int), dataT x.parts (c : Int) (sz c)⟩ : PtZ)) from fun W' k => hnb.out.keep (k45.out.trans k (fun _ _ h => h)) (fun _ _ h => h) (fun _ _ _ _ h => h))
              obtain ⟨ip, hip, hp0, hpp1, hpp2⟩ := info_parts info_part
              clear e2 hq5
              have ha1 : ∀ o, (wr.alloc o).cell? ⟨R, 2, none⟩ = some (.slice A3 j c3) := fun o => ((Keep.refl (fun _ => False) wr).alloc o).cell (fun h => h) rc2
              have ha2 : ∀ o, (wr.drew.alloc o).cell? ⟨R, 2, none⟩ = some (.slice A3 j c3) := fun o => ((Keep.refl (fun _ => False) wr.drew).alloc o).cell (fun h => h) rc2
              go_upto_region 15 with fail
              clear s0 s1 s2 s3 s4 s5 s6 sf hsl hsl2
              go_region_law (first
                | ((refine step_pushX (by rfl) _ _ _ (by rfl) parN (fun b => (F b ∧ b < w.heap.size) ∨ Y.heap.size ≤ b) Y.heap.size 81 ip _ 32 Tryd.underlying38 hip hp0 hpp1 hpp2 rfl _ _ j LEN.out (by rfl) (HN5.out _ (by exact (by repeat first | (with_reducible assumption) | (with_reducible exact Keep.refl _ _) | (with_reducible refine Keep.alloc ?_ _) | (with_reducible refine Keep.drew ?_) | (with_reducible refine Keep.drewN ?_ _) | (with_reducible refine Keep.setCell ?_ (.inl (by first | omega | (simp; done) | (simp; omega) | fail)) _)))) _ _ ⟨(c : Int), dataT x.parts (c : Int) z⟩ (.slice A5 n5 d5) (by rfl) (by first | exact lit_cells _ _ _ | (intro j' u' h'; rw [World.cell?_drew]; exact lit_cells _ _ _ j' u' h')) (HX5.out _ (by exact (by repeat first | (with_reducible assumption) | (with_reducible exact Keep.refl _ _) | (with_reducible refine Keep.alloc ?_ _) | (with_reducible refine Keep.drew ?_) | (with_reducible refine Keep.drewN ?_ _) | (with_reducible refine Keep.setCell ?_ (.inl (by first | omega | (simp; done) | (simp; omega) | fail)) _)))) (by unfold maxLen; omega) (by omega) (by simp; omega) ?_); intro A6 c6 w6 hn6 hk6; obtain ⟨h60, hnx⟩ := NEXT.out _ w6 A6 c6 (by exact (by repeat first | (with_reducible assumption) | (with_reducible exact Keep.refl _ _) | (with_reducible refine Keep.alloc ?_ _) | (with_reducible refine Keep.drew ?_) | (with_reducible refine Keep.drewN ?_ _) | (with_reducible refine Keep.setCell ?_ (.inl (by first | omega | (simp; done) | (simp; omega) | fail)) _))) hn6 hk6; obtain ⟨y0, y1, y2, yf⟩ := cells3 h60; clear hn6 hk6)
                | fail)
              all_goals
                clear ha1 ha2 NEXT
                go_wp2
                go_roundw
                case rel => obtain ⟨q1, q2, q3⟩ := hnx.out _ (by exact (by repeat first | (with_reducible assumption) | (with_reducible exact Keep.refl _ _) | (with_reducible refine Keep.alloc ?_ _) | (with_reducible refine Keep.drew ?_) | (with_reducible refine Keep.drewN ?_ _) | (with_reducible refine Keep.setCell ?_ (.inl (by first | omega | (simp; done) | (simp; omega) | fail)) _))); exact ⟨j + 1, A6, c6, by omega, by go_num, q1, q2, q3, GD2⟩
                case measure => simp [intOf]; omega
            · have h7 := OKN.out (by rw [← e2]; exact hq5)
              have h8 : addCL L n sz x.parts = 7 := by rw [ADDZ.out, h7]; rfl
              have hRR : addRL L sz rows x = rows := by unfold addRL; rw [HN.out, h8, if_neg (by decide)]
              have H8 := Lib.hid (And.intro h8 hRR)
              have eq5 : ((n5 : Int) != (z : Int)) = true := by rw [bne_iff_ne]; omega
              clear h7 h8 hRR e2 hq5
              obtain ⟨y0, y1, y2, yf⟩ := cells3 G25.out
              obtain ⟨z0, z1, z2, z3, z4, z5, zf⟩ := cells6 G35.out
              go_wp2
              refine bodyPost_ret (results_go Tryd.results36 _ _ (w.heap.size + 1 + 1) (w.heap.size + 1 + 1 + 1) _ _ _ _ _ _ _ _ _ (by rfl) (go_stored G25.out G35.out (by omega) _ _ _ _ _ _ _ _ _).1 (by rfl) (go_stored G25.out G35.out (by omega) _ _ _ _ _ _ _ _ _).2) rfl ?_
              rw [H8.out.1, H8.out.2]
              exact HGO.out _ _ _ _ (KF.out _ _ _ _ _ _ _ _ _ _ KW.out) (HRF.out _ (KF.out _ _ _ _ _ _ _ _ _ _ KW.out))
          · obtain rfl : tI = (t : Int) := by omega
            clear hti
            have g1 : (0 : Int) ≤ (t : Int) := by omega
            have g2 : (t : Int) < (q : Int) := by omega
            obtain ⟨b6, o6, y, v6, rfl, -, hx, hin, hc⟩ := NS.at_ ((HP.out.mono (G := fun b => F b ∧ b < w.heap.size) (fun b hb h => ⟨h, hb⟩)).keep KW.out (fun b hb h1 h => by have := h1.2; omega)) (show t < q by omega)
            have e0 := hc 0 _ rfl
            have e1 := hc 1 _ rfl
            have hby6 : By wr (fun b => F b ∧ b < w.heap.size) v6 y.data := hin
            have HB6 := Lib.hid hby6
            clear hby6
            obtain ⟨A6, d6, rfl, -⟩ := hin
            simp only [show parN.m = 2 from rfl, Nat.add_zero] at e0 e1
            have DD := Lib.hid (dataT_drop (c : Int) z hx)
            clear hc hx
            by_cases hyc : y.comp = (c : Int)
            · have DD2 := Lib.hid (DD.out.trans (if_pos hyc))
              rw [hyc] at e0
              have ec : ((c : Int) == (c : Int)) = true := by simp
              clear hyc DD
              generalize y.data.length = n6 at *
              go_wp2
              go_quiet (fail)
              go_wp2
              go_roundw
              case rel => exact ⟨t, (t : Int) - 1, A6, n6, d6, by omega, rfl, by go_num, rfl, Lib.hid (by rw [DD2.out]; exact HB6.out.mono (fun _ _ h => .inl h)), Lib.hid (Keep.trans hk5.out (by exact (by repeat first | (with_reducible assumption) | (with_reducible exact Keep.refl _ _) | (with_reducible refine Keep.alloc ?_ _) | (with_reducible refine Keep.drew ?_) | (with_reducible refine Keep.drewN ?_ _) | (with_reducible refine Keep.setCell ?_ (.inl (by first | omega | (simp; done) | (simp; omega) | fail)) _))) (fun _ _ h => h))⟩
              case measure => first | (simp [intOf]; done) | (simp [intOf]; omega)
            · have DD2 := Lib.hid (DD.out.trans (if_neg hyc))
              have ec : (y.comp == (c : Int)) = false := by rw [beq_eq_false_iff_ne]; exact hyc
              generalize y.comp = yc at *
              clear hyc DD
              go_wp2
              go_quiet (fail)
              go_wp2
              go_roundw
              case rel => exact ⟨t, (t : Int) - 1, A5, n5, d5, by omega, rfl, by go_num, rfl, Lib.hid (by rw [DD2.out]; exact hby5.out.keep (S := fun _ => False) (by exact (by repeat first | (with_reducible assumption) | (with_reducible exact Keep.refl _ _) | (with_reducible refine Keep.alloc ?_ _) | (with_reducible refine Keep.drew ?_) | (with_reducible refine Keep.drewN ?_ _) | (with_reducible refine Keep.setCell ?_ (.inl (by first | omega | (simp; done) | (simp; omega) | fail)) _))) (fun _ _ _ h => h)), Lib.hid (Keep.trans hk5.out (by exact (by repeat first | (with_reducible assumption) | (with_reducible exact Keep.refl _ _) | (with_reducible refine Keep.alloc ?_ _) | (with_reducible refine Keep.drew ?_) | (with_reducible refine Keep.drewN ?_ _) | (with_reducible refine Keep.setCell ?_ (.inl (by first | omega | (simp; done) | (simp; omega) | fail)) _))) (fun _ _ h => h))⟩
              case measure => first | (simp [intOf]; done) | (simp [intOf]; omega)
      · obtain rfl : j = m := by omega
        have f1 : ¬ (j : Int) < (j : Int) := by omega
        have HZ := Lib.hid (show addCL L n sz x.parts = 0 by rw [ADDZ.out, OK1.out hgd.out]; rfl)
        have HRR := Lib.hid (show addRL L sz rows x = rows ++ [addRow L sz x] by unfold addRL; rw [HN.out, HZ.out, if_pos rfl])
        have TLL := Lib.hid (show (L.take j).map (fun (c : Nat) => (⟨(c : Int), dataT x.parts (c : Int) (sz c)⟩ : PtZ)) = (addRow L sz x).parts by rw [List.take_of_length_le (by rw [HM.out]; exact Nat.le_refl _)]; rfl)
        obtain ⟨us, hu1, hu2, hu3⟩ := (HRW.out.mono (G := fun b => F b ∧ b < w.heap.size) (fun b hb h => ⟨h, hb⟩)).keep KX.out (fun b hb h1 h => by have := h1.2; omega)
        have HU3 := Lib.hid hu3
        have HU2 := Lib.hid hu2
        obtain ⟨x0, x1, x2, xf⟩ := cells3 G0.out
        obtain ⟨r0, r1, r2, rf⟩ := cells3 hrow.out
        have A0 := Lib.hid (fun W (hk : Keep (fun _ => False) wr W) => src_ml hu1 HN.out (HU2.out.keep hk (fun _ _ _ h => h)) (fun i y q h1 h2 => entN.keep (HU3.out i y q h1 h2) hk (fun _ _ _ h => h)))
        clear hu2 hu3
        have kc : ∀ (W : World) (a : Addr) (v : Value) (o : Obj), W.cell? a = some v → (W.alloc o).cell? a = some v := fun W a v o h => ((Keep.refl (fun _ => False) W).alloc o).cell (fun h => h) h
        have x2a : ∀ o, (wr.alloc o).cell? ⟨w.heap.size, 2, none⟩ = _ := fun o => kc _ _ _ o x2
        have x2b : ∀ o o', ((wr.alloc o).alloc o').cell? ⟨w.heap.size, 2, none⟩ = _ := fun o o' => kc _ _ _ o' (kc _ _ _ o x2)
        have r0a : ∀ o, (wr.alloc o).cell? ⟨R, 0, none⟩ = _ := fun o => kc _ _ _ o r0
        have r1a : ∀ o, (wr.alloc o).cell? ⟨R, 1, none⟩ = _ := fun o => kc _ _ _ o r1
        have r2a : ∀ o, (wr.alloc o).cell? ⟨R, 2, none⟩ = _ := fun o => kc _ _ _ o r2
        have r0b : ∀ o o', ((wr.alloc o).alloc o').cell? ⟨R, 0, none⟩ = _ := fun o o' => kc _ _ _ o' (kc _ _ _ o r0)
        have r1b : ∀ o o', ((wr.alloc o).alloc o').cell? ⟨R, 1, none⟩ = _ := fun o o' => kc _ _ _ o' (kc _ _ _ o r1)
        have r2b : ∀ o o', ((wr.alloc o).alloc o').cell? ⟨R, 2, none⟩ = _ := fun o o' => kc _ _ _ o' (kc _ _ _ o r2)
        have LITS := Lib.hid (show ∀ (W : World), W.heap[R]? = some (.cells #[.int .i64 x.id.ix, .int .i64 x.id.gen, .slice A3 j c3] 91 (0, 0)) → W.cell? ⟨R, 0, none⟩ = some (.int .i64 x.id.ix) ∧ W.cell? ⟨R, 1, none⟩ = some (.int .i64 x.id.gen) ∧ W.cell? ⟨R, 2, none⟩ = some (.slice A3 j c3) from fun W h => ⟨(cells3 h).1, (cells3 h).2.1, (cells3 h).2.2.1⟩)
        have FINE := Lib.hid (show ∀ (w6 : World) (A6 : Option Addr) (c6 : Nat), Keep (fun b => wr.heap.size ≤ b) wr w6 → Own w6 wr.heap.size 91 3 (.slice A6 (n + 1) c6) (n + 1) ((rows.zip us).flatMap entN.cells ++ [.int .i64 x.id.ix, .int .i64 x.id.gen, .slice A3 j c3]) → ∀ W7, Keep (fun _ => False) (w6.setCell ⟨w.heap.size, 2, none⟩ (.slice A6 (n + 1) c6)) W7 →
            W7.heap[w.heap.size]? = some (.cells #[.slice Ac j cc, .slice As j cs, .slice A6 (n + 1) c6] 35 (0, 0)) ∧ W7.heap[w.heap.size + 1 + 1]? = some (.cells #[.slice none 0 0, .slice none 0 0, .slice none 0 0] 35 (0, 0)) ∧ W7.heap[w.heap.size + 1 + 1 + 1]? = some (.cells #[.slice none 0 0, .slice none 0 0, .int .i64 0, .int .i64 0, .bool false, .int .i64 0] 42 (0, 0)) ∧ Keep (fun b => w.heap.size ≤ b) w W7 ∧
            Hid (∀ Wf, Keep (fun b => b = w.heap.size + 1 + 1 ∨ b = w.heap.size + 1 + 1 + 1) W7 Wf → NS entN Wf (fun b => F b ∨ w.heap.size ≤ b) (.slice A6 (n + 1) c6) (rows ++ [addRow L sz x])) from fun w6 A6 c6 g6 ho6 W7 g7 => by
          have hsY : w.heap.size + 4 ≤ Y.heap.size := by omega
          have hks : Keep (fun b => b = w.heap.size) w6 (w6.setCell ⟨w.heap.size, 2, none⟩ (.slice A6 (n + 1) c6)) := Keep.setCell (S := fun b => b = w.heap.size) (p := ⟨w.heap.size, 2, none⟩) (Keep.refl _ _) (.inr rfl) _
          have g67 : Keep (fun b => b = w.heap.size ∨ wr.heap.size ≤ b) wr W7 := (((g6.mono (T := fun b => b = w.heap.size ∨ wr.heap.size ≤ b) (fun _ _ h => .inr h)).trans hks (fun _ _ h => .inl h))).trans g7 (fun _ _ h => h.elim)
          have hb6 := (g6.block w.heap.size (by omega) (by omega)).trans G0.out
          have h7 := heap_setCell_same w6 w.heap.size 2 _ _ (.slice A6 (n + 1) c6) hb6
          refine ⟨(g7.block _ (Array.getElem?_eq_some_iff.1 h7).1 (fun h => h)).trans h7, (g67.block _ (by omega) (fun e => by omega)).trans G2.out, (g67.block _ (by omega) (fun e => by omega)).trans G3.out, KX.out.trans g67 (fun b _ e => by omega), fun Wf gf => ?_⟩
          have g6f : Keep (fun b => (w.heap.size ≤ b ∧ b < w.heap.size + 4) ∨ wr.heap.size ≤ b) wr Wf := (g67.mono (T := fun b => (w.heap.size ≤ b ∧ b < w.heap.size + 4) ∨ wr.heap.size ≤ b) (fun b _ h => by omega)).trans gf (fun b _ h => by omega)
          have k7f : Keep (fun b => w.heap.size ≤ b ∧ b < w.heap.size + 4) w6 Wf := ((hks.mono (T := fun b => w.heap.size ≤ b ∧ b < w.heap.size + 4) (fun b _ h => by omega)).trans g7 (fun _ _ h => h.elim)).trans gf (fun b _ h => by omega)
          have hp := ent_push (W := Wf) (G := fun b => (F b ∧ b < w.heap.size) ∨ Y.heap.size ≤ b) (B := wr.heap.size) (e := 91) (u := .slice A6 (n + 1) c6) (v := .slice A3 j c3) (rows := rows) (us := us) (y := addRow L sz x) hu1
            (fun i y q h1 h2 => NS.mono (NS.keep (show NS parN wr _ q y.parts from HU3.out i y q h1 h2) g6f (fun b hb h e => by have := h.2; omega)) (fun _ _ h => .inl h))
            (by
              have := hnb.out.ns
              rw [TLL.out] at this
              exact NS.mono (NS.keep this g6f (fun b hb h e => by rcases h with (h | h) | h <;> omega)) (fun b _ h => h.elim id .inr))
            (by
              rw [HN.out]
              exact ho6.keep k7f (fun k e e2 => by have := (ho6.ownB k e).1; omega))
          exact hp.mono (fun b _ h => by
            rcases h with (h | h) | h
            · exact .inl h.1
            · exact .inr (by omega)
            · exact .inr (by omega)))
        go_upto_region 16 with fail
        go_region_law (first
          | (refine step_ent (by rfl) _ _ (by rfl) wr.heap.size _ 0 _ (by rfl) (Own.none_ _ _ _ _ _) _ n _ (by rfl) (A0.out _ (by exact (by repeat first | (with_reducible assumption) | (with_reducible exact Keep.refl _ _) | (with_reducible refine Keep.alloc ?_ _) | (with_reducible refine Keep.drew ?_) | (with_reducible refine Keep.drewN ?_ _) | (with_reducible refine Keep.setCell ?_ (.inl (by first | omega | (simp; done) | (simp; omega) | fail)) _)))) (by omega) (by first | (simp; done) | (simp; omega)) ?_; intro A5 c5 w5 ho5 hk5 hn5; have hk5' : Keep (fun _ => False) wr w5 := Keep.trans (T := fun _ => False) (by exact (by repeat first | (with_reducible assumption) | (with_reducible exact Keep.refl _ _) | (with_reducible refine Keep.alloc ?_ _) | (with_reducible refine Keep.drew ?_) | (with_reducible refine Keep.drewN ?_ _) | (with_reducible refine Keep.setCell ?_ (.inl (by first | omega | (simp; done) | (simp; omega) | fail)) _))) (hk5.mono (fun k _ e => by cases e)) (fun _ _ h => h); obtain ⟨v0, v1, v2, vf⟩ := cells3 ((hk5'.block _ (Array.getElem?_eq_some_iff.1 G0.out).1 (fun h => h)).trans G0.out); obtain ⟨q0, q1, q2, qf⟩ := cells3 ((hk5'.block _ (Array.getElem?_eq_some_iff.1 hrow.out).1 (fun h => h)).trans hrow.out); have HO5 := Lib.hid (show Own w5 wr.heap.size 91 3 (.slice A5 n c5) n ((rows.zip us).flatMap entN.cells) from by simpa using ho5); have hkc := hk5.mono (T := fun _ => False) (fun k _ e => by cases e); clear ho5 hk5 hn5)
          | (go_loud (refine step_ent (by rfl) _ _ (by rfl) wr.heap.size _ n _ (by rfl) (HO5.out.keep (S := fun _ => False) (by exact (by repeat first | (with_reducible assumption) | (with_reducible exact Keep.refl _ _) | (with_reducible refine Keep.alloc ?_ _) | (with_reducible refine Keep.drew ?_) | (with_reducible refine Keep.drewN ?_ _) | (with_reducible refine Keep.setCell ?_ (.inl (by first | omega | (simp; done) | (simp; omega) | fail)) _))) (fun _ _ h => h)) _ 1 [.int .i64 x.id.ix, .int .i64 x.id.gen, .slice A3 j c3] (by rfl) (src_ent (by repeat (first | exact heap_alloc_at _ _ _ (by first | rfl | (simp; done)) | rw [heap_drew'] | rw [Below.heap_alloc _ _ _ (by first | (simp; done) | (simp; omega))] | (refine (hkc.block _ (by first | (simp; done) | (simp; omega)) (fun h => h)).trans ?_)))) (by omega) (by have := hk5'.size; first | omega | (simp; omega)) ?_); intro A6 c6 w6 ho6 hk6 hn6; have K6 : Keep (fun b => wr.heap.size ≤ b) wr w6 := ((hk5'.mono (T := fun b => wr.heap.size ≤ b) (fun _ _ h => h.elim)).trans (T := fun _ => False) (by exact (by repeat first | (with_reducible assumption) | (with_reducible exact Keep.refl _ _) | (with_reducible refine Keep.alloc ?_ _) | (with_reducible refine Keep.drew ?_) | (with_reducible refine Keep.drewN ?_ _) | (with_reducible refine Keep.setCell ?_ (.inl (by first | omega | (simp; done) | (simp; omega) | fail)) _))) (fun _ _ h => h.elim)).trans hk6 (fun k _ e => (HO5.out.ownB k e).1); have HO6 := Lib.hid ho6; obtain ⟨p0, p1, p2, pf⟩ := cells3 ((K6.block _ (Array.getElem?_eq_some_iff.1 G0.out).1 (by have := (Array.getElem?_eq_some_iff.1 G0.out).1; omega)).trans G0.out); clear ho6 hk6 hn6)
          | fail)
        all_goals
          have HF6 := Lib.hid (FINE.out w6 A6 c6 K6 HO6.out)
          clear FINE x2a x2b r0a r1a r2a r0b r1b r2b p0 p1 p2 pf v0 v1 v2 vf q0 q1 q2 qf x0 x1 x2 xf r0 r1 r2 rf A0 kc
          go_upto_region 17 with fail
          refine wp_world (S := fun W7 => W7.heap[w.heap.size]? = some (.cells #[.slice Ac j cc, .slice As j cs, .slice A6 (n + 1) c6] 35 (0, 0)) ∧ W7.heap[w.heap.size + 1 + 1]? = some (.cells #[.slice none 0 0, .slice none 0 0, .slice none 0 0] 35 (0, 0)) ∧ W7.heap[w.heap.size + 1 + 1 + 1]? = some (.cells #[.slice none 0 0, .slice none 0 0, .int .i64 0, .int .i64 0, .bool false, .int .i64 0] 42 (0, 0)) ∧ Keep (fun b => w.heap.size ≤ b) w W7 ∧
            Hid (∀ Wf, Keep (fun b => b = w.heap.size + 1 + 1 ∨ b = w.heap.size + 1 + 1 + 1) W7 Wf → NS entN Wf (fun b => F b ∨ w.heap.size ≤ b) (.slice A6 (n + 1) c6) (rows ++ [addRow L sz x]))) (HF6.out _ (by exact (by repeat first | (with_reducible assumption) | (with_reducible exact Keep.refl _ _) | (with_reducible refine Keep.alloc ?_ _) | (with_reducible refine Keep.drew ?_) | (with_reducible refine Keep.drewN ?_ _) | (with_reducible refine Keep.setCell ?_ (.inl (by first | omega | (simp; done) | (simp; omega) | fail)) _)))) ?_
          intro W7 hW7
          have H7 := Lib.hid hW7
          clear hW7 HF6
          obtain ⟨x0, x1, x2, xf⟩ := cells3 H7.out.1
          obtain ⟨y0, y1, y2, yf⟩ := cells3 H7.out.2.1
          obtain ⟨z0, z1, z2, z3, z4, z5, zf⟩ := cells6 H7.out.2.2.1
          go_wp2
          refine bodyPost_ret (results_go Tryd.results36 _ _ (w.heap.size + 1 + 1) (w.heap.size + 1 + 1 + 1) _ _ _ _ _ _ _ _ _ (by rfl) (go_stored H7.out.2.1 H7.out.2.2.1 (by omega) _ _ _ _ _ _ _ _ _).1 (by rfl) (go_stored H7.out.2.1 H7.out.2.2.1 (by omega) _ _ _ _ _ _ _ _ _).2) rfl ?_
          rw [HZ.out, HRR.out]
          exact HGO.out _ _ _ _ (KF.out _ _ _ _ _ _ _ _ _ _ H7.out.2.2.2.1) (H7.out.2.2.2.2.out _ (((keep3 W7 _ _ _ _).mono (fun _ _ h => .inl h)).trans (keep6 _ _ _ _ _ _ _ _) (fun _ _ h => .inr h)))
end
end Go.Proofs.YtpkeahikfbmcpaaDoor
namespace Go.Proofs.YtpkeahikfbmcpaaDoor
open Go.RowKit
set_option maxRecDepth 100000
set_option linter.unusedVariables false
set_option linter.unusedSimpArgs false

def MuchPost (l : List StZ) (e : Ending) : Prop := ∃ b : Bool, e = .returned (.bool b) ∧ (b = false → l.length ≤ 60 ∧ ∀ x ∈ l, x.parts.length ≤ 40)
set_option maxHeartbeats 1000000 in
theorem much09 (l : List StZ) (v : Value) (F : Nat → Prop) (w : World) (h : NS stN w F v l) :
    Calls Tryd.prog 7 #[v] w fun e w' => MuchPost l e ∧ w = w' := by
  have HA := Lib.hid h
  have hlen := h.len
  obtain ⟨A, c, rfl, -, -⟩ := h.form
  clear h
  obtain ⟨n, hn⟩ : ∃ n, l.length = n := ⟨_, rfl⟩
  have HN := Lib.hid hn
  rw [hn] at HA hlen ⊢
  clear hn
  have NXT := Lib.hid (show ∀ k x, l[k]? = some x → x.parts.length ≤ 40 → (∀ y ∈ l.take k, y.parts.length ≤ 40) → ∀ y ∈ l.take (k + 1), y.parts.length ≤ 40 from fun k x h1 h2 h3 y hy => by
    rw [List.take_add_one, h1] at hy
    rcases List.mem_append.1 hy with h | h
    · exact h3 y h
    · have : y = x := by simpa using h
      rw [this]; exact h2)
  go_enter Tryd.func7, Tryd.ntmps7
  go_wp2
  go_loopw [3] (fun i wr => ∃ k : Nat, k ≤ n ∧ i = .int .i64 k ∧ w = wr ∧ Hid (∀ y ∈ l.take k, y.parts.length ≤ 40)) (fun i _ => n - (intOf i).toNat)
  case atStart => exact ⟨0, by omega, rfl, rfl, Lib.hid (fun y hy => by simp at hy)⟩
  case round =>
    obtain ⟨k, hk, rfl, rfl, ht⟩ := hrel
    by_cases hlt : k < n
    · have hi : (k : Int) < (n : Int) := by omega
      by_cases hh : k < 100
      · have hi2 : (k : Int) < 100 := by omega
        have h00 : (0 : Int) ≤ (k : Int) := by omega
        obtain ⟨b, off, x, vv, rfl, -, hx, hin, hc⟩ := NS.at_ HA.out hlt
        have e3 := hc 3 _ rfl
        have e6 := hc 6 _ rfl
        obtain ⟨pv, dv⟩ := vv
        obtain ⟨hin1, hin2⟩ := hin
        have HP := Lib.hid (show NS parN w F pv x.parts from hin1)
        have hq63 := (show NS parN w F pv x.parts from hin1).len
        obtain ⟨A1, c1, rfl, -, -⟩ := (show NS parN w F pv x.parts from hin1).form
        obtain ⟨A2, c2, rfl, -⟩ := (show By w F dv x.data from hin2)
        have NX := Lib.hid (NXT.out k x hx)
        simp only [show stN.m = 7 from rfl] at e3 e6
        clear hc hx hin1 hin2
        generalize x.data.length = nd at *
        obtain ⟨q, hq⟩ : ∃ q, x.parts.length = q := ⟨_, rfl⟩
        rw [hq] at HP NX e3 hq63
        clear hq
        by_cases h40 : 40 < q
        · have t1 : (40 : Int) < (q : Int) := by omega
          go_wp2
          go_ret
          exact ⟨⟨true, rfl, (fun h => by cases h)⟩, rfl⟩
        · have t1 : ¬ (40 : Int) < (q : Int) := by omega
          have NT := Lib.hid (NX.out (by omega) ht.out)
          go_wp2
          go_loopw [4, 5] (fun s i wr => ∃ (t : Nat) (sI : Int), t ≤ q ∧ i = .int .i64 t ∧ s = .int .i64 sI ∧ w = wr) (fun _ i _ => q - (intOf i).toNat)
          case atStart => exact ⟨0, _, by omega, rfl, rfl, rfl⟩
          case round =>
            obtain ⟨t, sI, ht2, rfl, rfl, rfl⟩ := hrel
            by_cases hlt2 : t < q
            · have g1 : (t : Int) < (q : Int) := by omega
              have g0 : (0 : Int) ≤ (t : Int) := by omega
              obtain ⟨b5, o5, y, v5, rfl, -, hy, hin5, hc5⟩ := NS.at_ HP.out hlt2
              have d1 := hc5 1 _ rfl
              obtain ⟨A6, c6, rfl, -⟩ := (show By w F v5 y.data from hin5)
              simp only [show parN.m = 2 from rfl] at d1
              clear hc5 hy hin5
              generalize y.data.length = n6 at *
              by_cases hs : (1000 : Int) < wrap64 (sI + (n6 : Int))
              · go_wp2
                go_ret
                exact ⟨⟨true, rfl, (fun h => by cases h)⟩, rfl⟩
              · have hs2 : decide ((1000 : Int) < wrap64 (sI + (n6 : Int))) = false := decide_eq_false hs
                clear hs
                go_wp2
                go_roundw
                case rel => exact ⟨t + 1, _, by omega, by go_num, rfl, by first | rfl | trivial⟩
                case measure => simp [intOf]; omega
            · obtain rfl : t = q := by omega
              have g1 : ¬ (t : Int) < (t : Int) := by omega
              by_cases hs : (1000 : Int) < sI
              · go_wp2
                go_ret
                exact ⟨⟨true, rfl, (fun h => by cases h)⟩, rfl⟩
              · have hs2 : decide ((1000 : Int) < sI) = false := decide_eq_false hs
                clear hs
                go_wp2
                go_roundw
                case rel => exact ⟨k + 1, by omega, by first | rfl | trivial | go_num, by first | rfl | trivial, NT⟩
                case measure => simp [intOf]; omega
      · have hi2 : ¬ (k : Int) < 100 := by omega
        have t4 : (60 : Int) < (n : Int) := by omega
        go_wp2
        go_ret
        exact ⟨⟨true, rfl, (fun h => by cases h)⟩, rfl⟩
    · have hi : ¬ (k : Int) < (n : Int) := by omega
      obtain rfl : k = n := by omega
      have TT := Lib.hid (show ∀ y ∈ l, y.parts.length ≤ 40 from by
        have := ht.out
        rw [List.take_of_length_le (by rw [HN.out]; exact Nat.le_refl _)] at this
        exact this)
      by_cases h60 : 60 < k
      · have t4 : (60 : Int) < (k : Int) := by omega
        go_wp2
        go_ret
        exact ⟨⟨true, rfl, (fun h => by cases h)⟩, rfl⟩
      · have t4 : decide ((60 : Int) < (k : Int)) = false := decide_eq_false (by omega)
        have H60 := Lib.hid (show k ≤ 60 by omega)
        clear h60
        go_wp2
        go_ret
        exact ⟨⟨false, rfl, (fun _ => ⟨by rw [HN.out]; exact H60.out, TT.out⟩)⟩, rfl⟩
end Go.Proofs.YtpkeahikfbmcpaaDoor
namespace Go.Proofs.YtpkeahikfbmcpaaDoor
open Go.RowKit
set_option maxRecDepth 100000
set_option linter.unusedVariables false
set_option linter.unusedSimpArgs false

theorem list2_ {α : Type} {l : List α} (h : l.length = 2) : ∃ a b, l = [a, b] := by
  match l, h with
  | [a, b], _ => exact ⟨a, b, rfl⟩
theorem list7_ {α : Type} {l : List α} (h : l.length = 7) : ∃ a b c d e f g, l = [a, b, c, d, e, f, g] := by
  match l, h with
  | [a, b, c, d, e, f, g], _ => exact ⟨a, b, c, d, e, f, g, rfl⟩
section
variable {H : Type} {enc : TypeId × Value → H} {w : World} {base : Nat} {spare : Nat → Bool} {held : Bool} {A : Option Addr} {len cap : Nat} {d : DataW H} {p : List MemPlace}
theorem trod_idZ {n : Nat} {cs : List Value} {x : DataW H × List MemPlace} (hl : cs.length = 2) (h : DataW.trod enc Tryd.prog w base spare held n 40 cs = some x) : ∃ y : IdZ, cs = idC y ∧ (Lit.int .i64 y.ix).wf = true ∧ (Lit.int .i64 y.gen).wf = true := by
  obtain ⟨c0, c1, rfl⟩ := list2_ hl
  have ci : Tryd.prog.cellsOf 3 = 1 := by kernel_rfl
  obtain ⟨xs, m, _, _, _, hlen, hf⟩ := DataW.trod_struct Tryd.underlying40 h
  obtain ⟨y0, y1, rfl⟩ := list2_ hlen
  have h0 : DataW.trod enc Tryd.prog w base spare held m 3 [c0] = some y0 := by simpa [ci] using hf 0 _ rfl
  have h1 : DataW.trod enc Tryd.prog w base spare held m 3 [c1] = some y1 := by simpa [ci] using hf 1 _ rfl
  obtain ⟨a0, e0, _, w0⟩ := DataW.trod_int Tryd.underlying3 h0
  obtain ⟨a1, e1, _, w1⟩ := DataW.trod_int Tryd.underlying3 h1
  simp at e0 e1
  subst e0 e1
  exact ⟨⟨a0, a1⟩, rfl, w0, w1⟩
theorem argIDs (h : DataW.Trod enc Tryd.prog w base spare held 51 (.slice A len cap) d p) : ∃ l : List IdZ, l.length = len ∧ Sl w (fun _ => True) 2 (.slice A len cap) l.length (l.flatMap idC) := by
  haveI : Inhabited IdZ := ⟨⟨0, 0⟩⟩
  have cl : Tryd.prog.cellsOf 40 = 2 := by kernel_rfl
  obtain ⟨l, g1, g2, g3, rfl, g5, g6⟩ := argSt (f := idC) (ok := fun _ => True) idC_len (by decide) Tryd.underlying51 cl (fun n cs x hl hx => by
    obtain ⟨y, hy, _⟩ := trod_idZ hl hx
    exact ⟨y, hy, trivial⟩) h
  exact ⟨l, rfl, A, cap, rfl, g1, g2, g6, g3⟩
theorem trod_part {n : Nat} {cs : List Value} {x : DataW H × List MemPlace} (hl : cs.length = 2) (h : DataW.trod enc Tryd.prog w base spare held n 81 cs = some x) : ∃ (y : PtZ) (u : Value), cs = parN.cells (y, u) ∧ By w (fun _ => True) u y.data := by
  obtain ⟨c0, c1, rfl⟩ := list2_ hl
  have ci : Tryd.prog.cellsOf 3 = 1 := by kernel_rfl
  have cl : Tryd.prog.cellsOf 37 = 1 := by kernel_rfl
  obtain ⟨xs, m, _, _, _, hlen, hf⟩ := DataW.trod_struct Tryd.underlying81 h
  obtain ⟨y0, y1, rfl⟩ := list2_ hlen
  have h0 : DataW.trod enc Tryd.prog w base spare held m 3 [c0] = some y0 := by simpa [ci] using hf 0 _ rfl
  have h1 : DataW.trod enc Tryd.prog w base spare held m 37 [c1] = some y1 := by simpa [cl] using hf 1 _ rfl
  obtain ⟨a0, e0, _, w0⟩ := DataW.trod_int Tryd.underlying3 h0
  obtain ⟨A2, n2, k2, l2, e1, hb, _⟩ := trod_by Tryd.underlying37 Tryd.underlying5 (by kernel_rfl) h1
  simp at e0 e1
  subst e0 e1
  exact ⟨⟨a0, l2⟩, _, rfl, hb⟩
theorem zip_unzip {α β : Type} (l : List (α × β)) : (l.map Prod.fst).zip (l.map Prod.snd) = l := by
  induction l with
  | nil => rfl
  | cons y l ih => simp [ih]
theorem argParts (h : DataW.Trod enc Tryd.prog w base spare held 38 (.slice A len cap) d p) : ∃ l, NS parN w (fun _ => True) (.slice A len cap) l := by
  haveI : Inhabited (PtZ × Value) := ⟨(⟨0, []⟩, undef)⟩
  have cl : Tryd.prog.cellsOf 81 = 2 := by kernel_rfl
  obtain ⟨l, g1, g2, g3, rfl, g5, g6⟩ := argSt (f := parN.cells) (ok := fun y => By w (fun _ => True) y.2 y.1.data) parN.len (by decide) Tryd.underlying38 cl (fun n cs x hl hx => by
    obtain ⟨y, u, e, hb⟩ := trod_part hl hx
    exact ⟨(y, u), e, hb⟩) h
  refine ⟨l.map Prod.fst, l.map Prod.snd, by simp, ?_, fun i x u hx hu => ?_⟩
  · rw [zip_unzip]; exact ⟨A, cap, rfl, g1, g2, g3, g6⟩
  · have h2 : l[i]? = some (x, u) := by rw [← zip_unzip l]; exact List.getElem?_zip_eq_some.2 ⟨hx, hu⟩
    exact g5 _ (List.mem_of_getElem? h2)
/-- A step's numbers. -/
def stR (x : StZ) : Prop := (-9223372036854775808 ≤ x.row ∧ x.row ≤ 9223372036854775807) ∧ (-9223372036854775808 ≤ x.comp ∧ x.comp ≤ 9223372036854775807)
theorem trod_step {n : Nat} {cs : List Value} {x : DataW H × List MemPlace} (hl : cs.length = 7) (h : DataW.trod enc Tryd.prog w base spare held n 45 cs = some x) : ∃ (y : StZ) (u : Value × Value), cs = stN.cells (y, u) ∧ stN.inn w (fun _ => True) y u ∧ stR y := by
  obtain ⟨c0, c1, c2, c3, c4, c5, c6, rfl⟩ := list7_ hl
  have ci : Tryd.prog.cellsOf 3 = 1 := by kernel_rfl
  have cl : Tryd.prog.cellsOf 37 = 1 := by kernel_rfl
  have cp : Tryd.prog.cellsOf 38 = 1 := by kernel_rfl
  have cd : Tryd.prog.cellsOf 40 = 2 := by kernel_rfl
  obtain ⟨xs, m, _, _, _, hlen, hf⟩ := DataW.trod_struct Tryd.underlying45 h
  have cl2 : ∃ y0 y1 y2 y3 y4 y5, xs = [y0, y1, y2, y3, y4, y5] := by
    match xs, hlen with
    | [a, b, c, d, e, f], _ => exact ⟨a, b, c, d, e, f, rfl⟩
  obtain ⟨y0, y1, y2, y3, y4, y5, rfl⟩ := cl2
  have h0 : DataW.trod enc Tryd.prog w base spare held m 3 [c0] = some y0 := by simpa [ci] using hf 0 _ rfl
  have h1 : DataW.trod enc Tryd.prog w base spare held m 40 [c1, c2] = some y1 := by simpa [cd] using hf 1 _ rfl
  have h2 : DataW.trod enc Tryd.prog w base spare held m 38 [c3] = some y2 := by simpa [cp] using hf 2 _ rfl
  have h3 : DataW.trod enc Tryd.prog w base spare held m 3 [c4] = some y3 := by simpa [ci] using hf 3 _ rfl
  have h4 : DataW.trod enc Tryd.prog w base spare held m 3 [c5] = some y4 := by simpa [ci] using hf 4 _ rfl
  have h5 : DataW.trod enc Tryd.prog w base spare held m 37 [c6] = some y5 := by simpa [cl] using hf 5 _ rfl
  obtain ⟨a0, e0, _, w0⟩ := DataW.trod_int Tryd.underlying3 h0
  obtain ⟨yi, ei, _⟩ := trod_idZ rfl h1
  obtain ⟨A1, n1, k1, e2⟩ := Joins.slice_form Tryd.underlying38 h2
  simp at e2
  subst e2
  obtain ⟨pl, hp⟩ := argParts (enc := enc) (base := base) (spare := spare) (held := held) (d := y2.1) (p := y2.2) ⟨m, by simpa [Value.cells] using h2⟩
  obtain ⟨a3, e3, _, w3⟩ := DataW.trod_int Tryd.underlying3 h3
  obtain ⟨a4, e4, _, w4⟩ := DataW.trod_int Tryd.underlying3 h4
  obtain ⟨A2, n2, k2, l2, e5, hb, _⟩ := trod_by Tryd.underlying37 Tryd.underlying5 (by kernel_rfl) h5
  simp [idC] at e0 ei e3 e4 e5
  obtain ⟨ei1, ei2⟩ := ei
  subst e0 ei1 ei2 e3 e4 e5
  exact ⟨⟨a0, yi, pl, a3, a4, l2⟩, (_, _), rfl, ⟨hp, hb⟩, wf_i64 w3, wf_i64 w4⟩
theorem argSteps (h : DataW.Trod enc Tryd.prog w base spare held 26 (.slice A len cap) d p) : ∃ l, NS stN w (fun _ => True) (.slice A len cap) l ∧ ∀ x ∈ l, stR x := by
  haveI : Inhabited (StZ × (Value × Value)) := ⟨(default, (undef, undef))⟩
  have cl : Tryd.prog.cellsOf 45 = 7 := by kernel_rfl
  obtain ⟨l, g1, g2, g3, rfl, g5, g6⟩ := argSt (f := stN.cells) (ok := fun y => stN.inn w (fun _ => True) y.1 y.2 ∧ stR y.1) stN.len (by decide) Tryd.underlying26 cl (fun n cs x hl hx => by
    obtain ⟨y, u, e, hb⟩ := trod_step hl hx
    exact ⟨(y, u), e, hb⟩) h
  refine ⟨l.map Prod.fst, ⟨l.map Prod.snd, by simp, ?_, fun i x u hx hu => ?_⟩, fun x hx => ?_⟩
  · rw [zip_unzip]; exact ⟨A, cap, rfl, g1, g2, g3, g6⟩
  · have h2 : l[i]? = some (x, u) := by rw [← zip_unzip l]; exact List.getElem?_zip_eq_some.2 ⟨hx, hu⟩
    exact (g5 _ (List.mem_of_getElem? h2)).1
  · obtain ⟨y, hy, rfl⟩ := List.mem_map.1 hx
    exact (g5 y hy).2
end
end Go.Proofs.YtpkeahikfbmcpaaDoor

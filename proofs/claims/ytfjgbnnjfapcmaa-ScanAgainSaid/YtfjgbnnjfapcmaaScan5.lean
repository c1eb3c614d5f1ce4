/- Contract of vivariumref18.Scan, vivariumref18.SameTail. -/
import Derived.Test.YtfjgbnnjfapcmaaScan3
import Derived.Test.YtfjgbnnjfapcmaaScanPl
import Derived.Test.YtfjgbnnjfapcmaaPart5
namespace Go.Proofs.Ytfjgbnnjfapcmaa
open Go.RowKit
set_option maxRecDepth 100000
set_option linter.unusedVariables false
set_option linter.unusedSimpArgs false

theorem under_tail : Try.prog.underlying 44 = some (.struct (Try.prog.fieldsOf 44)) := by kernel_rfl
theorem size_tail : (Try.prog.info? 44).map (·.size) = some 4 := by kernel_rfl
theorem results_tail {fn : Func} {p : Tmp} (h : fn.results = #[.cell p 44]) (tmps : Array Value) (w : World) (g : Nat) (c0 c1 c2 c3 : Value)
    (hp : tmps.getD p undef = .pointer (some ⟨g, 0, none⟩)) (hg : w.heap[g]? = some (.cells #[c0, c1, c2, c3] 44 (0, 0))) : (results fn tmps).run Try.prog w = .ok (.agg #[c0, c1, c2, c3]) w :=
  results_cell_row h tmps w g 44 _ (0, 0) _ hp hg under_tail rfl size_tail
section
variable {w w' : World} {c : Cf} {l : List (List UInt8)} {lsn ep sq most : Int} {e : Ending}
theorem OneP.yes (h : OneP w c l lsn ep sq most e w') (hr : recB c l lsn ep sq most = true) : ∃ A n cc, e = .returned (.tuple #[.slice A n cc, .int .i64 (cntF c l lsn : Int), .int .i64 (hasF c l lsn).ep, .bool true]) ∧ By w' (fun b => w.heap.size ≤ b) (.slice A n cc) (recF c l lsn) ∧ Below w.heap.size w w' := by
  obtain ⟨A, n, cc, rfl, hy, hb⟩ := h
  rw [hr] at hy
  rw [hr]
  exact ⟨A, n, cc, rfl, hy, hb⟩
theorem OneP.no (h : OneP w c l lsn ep sq most e w') (hr : recB c l lsn ep sq most = false) : ∃ A n cc, e = .returned (.tuple #[.slice A n cc, .int .i64 0, .int .i64 0, .bool false]) ∧ Below w.heap.size w w' := by
  obtain ⟨A, n, cc, rfl, hy, hb⟩ := h
  rw [hr]
  exact ⟨A, n, cc, rfl, hb⟩
end
theorem NB.base {α β : Type} {N : Nst α β} {B B' : Nat} {e : TypeId} {w : World} {u : Value} {R : List α} (h : NB N B e w u R) (hB : B' ≤ B) : NB N B' e w u R := by
  obtain ⟨us, h1, h2, h3⟩ := h
  exact ⟨us, h1, h2.mono hB, h3⟩
theorem NBX.list {B B' : Nat} {X : Nat → Prop} {w : World} {u : Value} {R : List (List UInt8)} (h : NBX bsN X B' 29 w u R) (hX : ∀ b, X b → B ≤ b) (hB : B ≤ B') : ListSt B w u R := by
  obtain ⟨us, h1, h2, h3⟩ := h
  have h2 : Own w B' 29 1 u R.length ((R.zip us).flatMap (fun p => [p.2])) := h2
  rw [zip_snd h1] at h2
  refine ⟨us, h2.mono hB, fun i r hr => ?_⟩
  have hi : i < us.length := by rw [h1]; exact (List.getElem?_eq_some_iff.1 hr).1
  exact ⟨us[i], List.getElem?_eq_getElem hi, By.mono (h3 i r _ hr (List.getElem?_eq_getElem hi)) (fun b _ h => ⟨hX b h.1, h.2⟩)⟩
/-- What is told of a log. -/
def ScanP (w : World) (t : Tl) (e : Ending) (w' : World) : Prop :=
  ∃ v, e = .returned (.agg #[v, .int .i64 t.lsn, .int .i64 t.ep, .int .i64 t.sq]) ∧ Bys w' (fun b => w.heap.size ≤ b) v t.recs ∧ Below w.heap.size w w'
/-- Where Scan stands: a layout in the first box, the result in the second, records told so far in block p. -/
structure TSt (w W : World) (p : Nat) (a b c d u vR : Value) (R : List (List UInt8)) (lsn ep sq : Int) : Prop where
  conf : W.heap[w.heap.size]? = some (.cells #[a, b, c, d, u] 24 (0, 0))
  res : W.heap[w.heap.size + 1]? = some (.cells #[.slice none 0 0, .int .i64 0, .int .i64 0, .int .i64 0] 44 (0, 0))
  lt : w.heap.size + 1 < p
  cur : W.heap[p]? = some (.cells #[vR, .int .i64 lsn, .int .i64 ep, .int .i64 sq] 44 (0, 0))
  recs : NBX bsN (fun b => b ≠ p ∧ w.heap.size + 1 < b) (p + 1) 29 W vR R
  below : Below w.heap.size w W
section
variable {w W W' : World} {p : Nat} {a b c d u vR : Value} {R : List (List UInt8)} {lsn ep sq : Int}
theorem TSt.hp (h : TSt w W p a b c d u vR R lsn ep sq) : p < W.heap.size := (Array.getElem?_eq_some_iff.1 h.cur).1
theorem TSt.keep (h : TSt w W p a b c d u vR R lsn ep sq) : Keep (fun _ => False) w W := Keep.of_below' h.below
theorem TSt.to (h : TSt w W p a b c d u vR R lsn ep sq) (hb : Below W.heap.size W W') : TSt w W' p a b c d u vR R lsn ep sq :=
  have h1 := h.hp
  have h2 := h.lt
  ⟨(hb.block _ (by omega)).trans h.conf, (hb.block _ (by omega)).trans h.res, h.lt, (hb.block _ h1).trans h.cur, h.recs.keep (Keep.of_below' hb) (fun _ _ h => h) (fun _ _ _ _ h => h), h.below.trans (hb.mono h.below.size)⟩
/-- Behind an append and the stores. -/
theorem TSt.next {vR' : Value} {R' : List (List UInt8)} {lsn' ep' sq' : Int} (h : TSt w W p a b c d u vR R lsn ep sq) (hk : Keep (fun x => p ≤ x) W W')
    (hc : W'.heap[p]? = some (.cells #[vR', .int .i64 lsn', .int .i64 ep', .int .i64 sq'] 44 (0, 0))) (hn : NBX bsN (fun b => b ≠ p ∧ w.heap.size + 1 < b) (p + 1) 29 W' vR' R') : TSt w W' p a b c d u vR' R' lsn' ep' sq' :=
  have h1 := h.hp
  have h2 := h.lt
  ⟨(hk.block _ (by omega) (by omega)).trans h.conf, (hk.block _ (by omega) (by omega)).trans h.res, h.lt, hc, hn, ((Keep.of_below h.below).trans hk (fun x _ e => by omega)).to_below (Nat.le_refl _)⟩
/-- The result is laid. -/
theorem TSt.done (h : TSt w W p a b c d u vR R lsn ep sq) : let W' := (((W.setCell ⟨w.heap.size + 1, 0, none⟩ vR).setCell ⟨w.heap.size + 1, 1, none⟩ (.int .i64 lsn)).setCell ⟨w.heap.size + 1, 2, none⟩ (.int .i64 ep)).setCell ⟨w.heap.size + 1, 3, none⟩ (.int .i64 sq);
    W'.heap[w.heap.size + 1]? = some (.cells #[vR, .int .i64 lsn, .int .i64 ep, .int .i64 sq] 44 (0, 0)) ∧ Bys W' (fun b => w.heap.size ≤ b) vR R ∧ Below w.heap.size w W' := by
  refine ⟨stored4 h.res _ _ _ _, ?_, ?_⟩
  · have hl := h.lt
    have := h.recs.keep (keepS4 W (w.heap.size + 1) vR (.int .i64 lsn) (.int .i64 ep) (.int .i64 sq)) (fun k hk e => by have := (h.recs.own_lt hk).1; omega) (fun b _ hb _ e => by have := hb.2; omega)
    exact (this.list (B := w.heap.size) (fun b h => by have := h.2; omega) (by omega)).bys
  · exact ((Keep.of_below h.below).trans (keepS4 _ _ _ _ _ _) (fun x _ e => by omega)).to_below (Nat.le_refl _)
end
/-- A layout in the first box, the result in the second. -/
def HTt (w W : World) (a b c d u : Value) : Prop :=
  W.heap[w.heap.size]? = some (.cells #[a, b, c, d, u] 24 (0, 0)) ∧ W.heap[w.heap.size + 1]? = some (.cells #[.slice none 0 0, .int .i64 0, .int .i64 0, .int .i64 0] 44 (0, 0)) ∧ Below w.heap.size w W
section
variable {w W W' : World} {a b c d u : Value}
theorem HTt.mk_ (w : World) (a b c d u : Value) : HTt w ((w.alloc (.cells #[a, b, c, d, u] 24)).alloc (.cells #[.slice none 0 0, .int .i64 0, .int .i64 0, .int .i64 0] 44)) a b c d u :=
  ⟨(heap_alloc_old _ _ (by simp)).trans (heap_alloc_new w _), heap_alloc_at _ _ _ (by simp), ((Below.refl _ w).alloc (Nat.le_refl _) _).alloc (by simp) _⟩
theorem HTt.lt (h : HTt w W a b c d u) : w.heap.size + 1 < W.heap.size := (Array.getElem?_eq_some_iff.1 h.2.1).1
theorem HTt.to (h : HTt w W a b c d u) (hb : Below W.heap.size W W') : HTt w W' a b c d u :=
  have hl := h.lt
  ⟨(hb.block _ (by omega)).trans h.1, (hb.block _ hl).trans h.2.1, h.2.2.trans (hb.mono (by omega))⟩
theorem HTt.keep (h : HTt w W a b c d u) : Keep (fun _ => False) w W := Keep.of_below' h.2.2
/-- The records told so far: none. -/
theorem HTt.first (h : HTt w W a b c d u) (lsn ep sq : Int) : TSt w (W.alloc (.cells #[.slice none 0 0, .int .i64 lsn, .int .i64 ep, .int .i64 sq] 44)) W.heap.size a b c d u (.slice none 0 0) [] lsn ep sq :=
  have h2 := h.to ((Below.refl _ W).alloc (Nat.le_refl _) _)
  ⟨h2.1, h2.2.1, h.lt, heap_alloc_new W _, NBX.nil _ _ _ _ _, h2.2.2⟩
end
/-- The bounds of a place that a scan comes to. -/
def BdT (c : Cf) (hd lsn : Int) : Prop := lsn = hd ∨ (0 ≤ hd ∧ hd ≤ 281474976710656 ∧ 2 ≤ c.log ∧ c.log ≤ 1024 ∧ hd ≤ lsn ∧ lsn ≤ hd + c.log)
theorem BdT.next {c : Cf} {l : List (List UInt8)} {hd lsn ep sq : Int} (h : BdT c hd lsn) (hr : recB c l lsn ep sq (c.log - (lsn - hd)) = true) : BdT c hd (lsn + cntF c l lsn) ∧ (0 ≤ hd ∧ hd ≤ 281474976710656) ∧ (2 ≤ c.log ∧ c.log ≤ 1024) ∧ hd ≤ lsn ∧ lsn + cntF c l lsn ≤ hd + c.log := by
  have h1 := one_most hr
  have h2 := (placeB_iff.1 (hasB_iff.1 h1.2.2.2.2.2.2.1).1).1
  obtain ⟨⟨g1, g2⟩, -⟩ := (of_decide_eq_true h2).1
  unfold BdT at h ⊢
  omega
theorem BdT.fit {c : Cf} {hd lsn : Int} (h : BdT c hd lsn) (hc : -9223372036854775808 ≤ c.log ∧ c.log ≤ 9223372036854775807) : (-9223372036854775808 ≤ lsn - hd ∧ lsn - hd ≤ 9223372036854775807) ∧ (-9223372036854775808 ≤ c.log - (lsn - hd) ∧ c.log - (lsn - hd) ≤ 9223372036854775807) := by
  unfold BdT at h; omega
section
variable {α β : Type} {P : Program} {ops : Array Oper} {rest : List Oper} {o : Oper} {a : Act} {w : World} {Q : Exit → Act → World → Prop}
theorem wpList_pushX (hgd : Region.wanted o (yielded ops a.tmps) = true) (s x : Operand) (t : TypeId) (ho : o.op = .call { callee := .builtin .append, args := #[s, x], argTypes := #[t, t] })
    (N : Nst α β) (X : Nat → Prop) (B : Nat) (e : TypeId) (i : TypeInfo) (z : Value) (bytes : Nat) (ht : P.underlying t = some (.slice e)) (hi : P.info? e = some i) (hz : i.zero = some z) (hsize : i.size = N.m) (hby : i.bytes = bytes) (hzs : z.cells.size = N.m)
    (v : Value) (R : List α) (n : Nat) (hn : R.length = n) (hv : a.eval s = v) (hnb : NBX N X B e w v R) (g c : Nat) (y : α) (q : β) (hy : a.eval x = .slice (some ⟨g, 0, none⟩) 1 c) (hc : ∀ j u, (N.cells (y, q))[j]? = some u → w.cell? ⟨g, j, none⟩ = some u) (hx : N.inn w (fun b => X b ∧ ownB v ≠ some b) y q)
    (h63 : n + 1 ≤ maxLen) (hbytes : (n + 1) * bytes ≤ 140737488355328) (hB : B ≤ w.heap.size)
    (h : ∀ A c w', NBX N X B e w' (.slice A (n + 1) c) (R ++ [y]) → Keep (fun k => ownB v = some k) w w' → wpList P ops Q rest (a.put o.dst (.slice A (n + 1) c)) w') : wpList P ops Q (o :: rest) a w :=
  wpList_step fun _ hK => by
    rw [if_pos hgd]
    exact wp_pushX s x t ho N X B e i z bytes ht hi hz hsize hby hzs v R n hn hv hnb g c y q hy hc hx h63 hbytes hB fun A c w' h1 h2 => hK _ _ (h A c w' h1 h2)
end
/-- One's answer at the place where a scan stands. -/
def AnsP (W : World) (F : Nat → Prop) (c : Cf) (l : List (List UInt8)) (hd lsn ep sq : Int) (u v x y : Value) : Prop :=
  ∃ A n cc, u = .slice A n cc ∧ v = .int .i64 (if recB c l lsn ep sq (c.log - (lsn - hd)) = true then (cntF c l lsn : Int) else 0) ∧ x = .int .i64 (if recB c l lsn ep sq (c.log - (lsn - hd)) = true then (hasF c l lsn).ep else 0) ∧ y = .bool (recB c l lsn ep sq (c.log - (lsn - hd))) ∧
    By W F u (if recB c l lsn ep sq (c.log - (lsn - hd)) = true then recF c l lsn else [])
theorem AnsP.yes {W : World} {F : Nat → Prop} {c : Cf} {l : List (List UInt8)} {hd lsn ep sq : Int} {u v x y : Value} (h : AnsP W F c l hd lsn ep sq u v x y) (hr : recB c l lsn ep sq (c.log - (lsn - hd)) = true) :
    ∃ A n cc, u = .slice A n cc ∧ v = .int .i64 (cntF c l lsn : Int) ∧ x = .int .i64 (hasF c l lsn).ep ∧ y = .bool true ∧ By W F (.slice A n cc) (recF c l lsn) := by
  obtain ⟨A, n, cc, rfl, rfl, rfl, rfl, hy⟩ := h
  rw [hr] at hy
  rw [hr]
  exact ⟨A, n, cc, rfl, rfl, rfl, rfl, hy⟩
theorem AnsP.no {W : World} {F : Nat → Prop} {c : Cf} {l : List (List UInt8)} {hd lsn ep sq : Int} {u v x y : Value} (h : AnsP W F c l hd lsn ep sq u v x y) (hr : recB c l lsn ep sq (c.log - (lsn - hd)) = false) : ∃ A n cc, u = .slice A n cc ∧ v = .int .i64 0 ∧ x = .int .i64 0 ∧ y = .bool false := by
  obtain ⟨A, n, cc, rfl, rfl, rfl, rfl, hy⟩ := h
  rw [hr]
  exact ⟨A, n, cc, rfl, rfl, rfl, rfl⟩
theorem OneP.ans {X W : World} {c : Cf} {l : List (List UInt8)} {hd lsn ep sq : Int} {u v x y : Value} (h : OneP X c l lsn ep sq (c.log - (lsn - hd)) (.returned (.tuple #[u, v, x, y])) W) : AnsP W (fun b => X.heap.size ≤ b) c l hd lsn ep sq u v x y := by
  obtain ⟨A, n, cc, e, hy, hb⟩ := h
  cases e
  exact ⟨A, n, cc, rfl, rfl, rfl, rfl, hy⟩
theorem AnsP.mono {W : World} {F G : Nat → Prop} {c : Cf} {l : List (List UInt8)} {hd lsn ep sq : Int} {u v x y : Value} (h : AnsP W F c l hd lsn ep sq u v x y) (hf : ∀ b, b < W.heap.size → F b → G b) : AnsP W G c l hd lsn ep sq u v x y := by
  obtain ⟨A, n, cc, e1, e2, e3, e4, hy⟩ := h
  exact ⟨A, n, cc, e1, e2, e3, e4, By.mono hy hf⟩
theorem AnsP.alloc {W : World} {F : Nat → Prop} {c : Cf} {l : List (List UInt8)} {hd lsn ep sq : Int} {u v x y : Value} (h : AnsP W F c l hd lsn ep sq u v x y) (o : Obj) : AnsP (W.alloc o) F c l hd lsn ep sq u v x y := by
  obtain ⟨A, n, cc, e1, e2, e3, e4, hy⟩ := h
  exact ⟨A, n, cc, e1, e2, e3, e4, By.keep hy ((Keep.refl (fun _ => False) W).alloc o) (fun _ _ _ h => h)⟩
/-- What a scan carries from round to round. -/
structure CarT (c : Cf) (l : List (List UInt8)) (hd ep0 sq0 : Int) (R : List (List UInt8)) (lsn ep sq : Int) : Prop where
  told : Tl.after R (fromF c l hd lsn ep sq) = scanF c l hd ep0 sq0
  bd : BdT c hd lsn
  many : (R.length : Int) ≤ lsn - hd
theorem CarT.next {c : Cf} {l : List (List UInt8)} {hd ep0 sq0 lsn ep sq : Int} {R : List (List UInt8)} (h : CarT c l hd ep0 sq0 R lsn ep sq) (hr : recB c l lsn ep sq (c.log - (lsn - hd)) = true) : CarT c l hd ep0 sq0 (R ++ [recF c l lsn]) (lsn + cntF c l lsn) (hasF c l lsn).ep (sq + 1) :=
  ⟨(after_go hr).symm.trans h.told, (h.bd.next hr).1, by have := (one_most hr).1; have := h.many; rw [List.length_append, List.length_singleton]; omega⟩
theorem CarT.end_ {c : Cf} {l : List (List UInt8)} {hd ep0 sq0 lsn ep sq : Int} {R : List (List UInt8)} (h : CarT c l hd ep0 sq0 R lsn ep sq) (hr : recB c l lsn ep sq (c.log - (lsn - hd)) = false) : scanF c l hd ep0 sq0 = ⟨R, lsn, ep, sq⟩ := by
  rw [← h.told, from_stop hr]; unfold Tl.after; simp
set_option maxHeartbeats 4000000 in
theorem rscan_any (c : Cf) (u : Value) (F : Nat → Prop) (l : List (List UInt8)) (v : Value) (G : Nat → Prop) (hd ep0 sq0 : Int) (w : World) (hu : CL w F u c.l) (hv : Bys w G v l) (hs : ∀ x ∈ c.l, x.nm.size ≤ 4611686018427387904)
    (hc : -9223372036854775808 ≤ c.log ∧ c.log ≤ 9223372036854775807) :
    Calls Try.prog 19 #[confV c u, v, .int .i64 hd, .int .i64 ep0, .int .i64 sq0] w (ScanP w (scanF c l hd ep0 sq0)) := by
  have ON := Lib.hid (fun lsn ep sq z W (hz : z = c.log - (lsn - hd)) (hk : Keep (fun _ => False) w W) => show Calls Try.prog 11 #[confV c u, v, .int .i64 lsn, .int .i64 ep, .int .i64 sq, .int .i64 z] W (OneP W c l lsn ep sq (c.log - (lsn - hd))) from by subst hz; exact rone_any c u F l v G lsn ep sq (c.log - (lsn - hd)) W (hu.same hk) (hv.keep hk (fun _ _ _ h => h)) hs)
  obtain ⟨ib, hib, hb0, hb1, hb2⟩ := info_parts info_bytes
  have C0 := Lib.hid (show CarT c l hd ep0 sq0 [] hd ep0 sq0 from ⟨rfl, .inl rfl, by simp⟩)
  have HC := Lib.hid hc
  obtain ⟨A, cap, rfl, -⟩ := hv.form
  obtain ⟨Au, cu, rfl, -⟩ := hu
  unfold confV at *
  clear hv hs hc
  generalize l.length = nl at *
  generalize c.l.length = nu at *
  go_enter Try.func19, Try.ntmps19
  go_upto_region 1 with fail
  refine wp_world (S := fun X => HTt w X (.int .i64 c.log) (.int .i64 c.pages) (.int .i64 c.ents) (.int .i64 c.gens) (.slice Au nu cu)) (HTt.mk_ w _ _ _ _ _) ?_
  intro X hX
  have HX := Lib.hid hX
  clear hX
  obtain ⟨c0, c1, c2, c3, c4, cf⟩ := cells5 HX.out.1
  go_wp2_with fail
  refine (ON.out hd ep0 sq0 _ _ (by omega) HX.out.keep).mono ?_
  rintro e w1 ⟨A1, n1, d1, rfl, hy1, hb1⟩
  have H1 := Lib.hid (And.intro (HX.out.to hb1) ((OneP.ans (X := X) (W := w1) (c := c) (l := l) (hd := hd) (lsn := hd) (ep := ep0) (sq := sq0) ⟨A1, n1, d1, rfl, hy1, hb1⟩).mono (G := fun b => w.heap.size + 1 < b ∧ b < w1.heap.size) (fun b hb h => ⟨by have := HX.out.lt; omega, hb⟩)))
  generalize (if recB c l hd ep0 sq0 (c.log - (hd - hd)) = true then (cntF c l hd : Int) else 0) = z1 at *
  generalize (if recB c l hd ep0 sq0 (c.log - (hd - hd)) = true then (hasF c l hd).ep else 0) = z2 at *
  generalize recB c l hd ep0 sq0 (c.log - (hd - hd)) = z3 at *
  clear hb1 hy1 c0 c1 c2 c3 c4 cf
  go_upto_region 3 with fail
  refine wp_world (S := fun X => TSt w X w1.heap.size (.int .i64 c.log) (.int .i64 c.pages) (.int .i64 c.ents) (.int .i64 c.gens) (.slice Au nu cu) (.slice none 0 0) [] hd ep0 sq0 ∧ AnsP X (fun b => (b ≠ w1.heap.size ∧ w.heap.size + 1 < b) ∧ ownB (.slice none 0 0) ≠ some b) c l hd hd ep0 sq0 (.slice A1 n1 d1) (.int .i64 z1) (.int .i64 z2) (.bool z3)) ⟨H1.out.1.first _ _ _, (H1.out.2.alloc _).mono (fun b _ h => ⟨⟨by omega, h.1⟩, by simp [ownB]⟩)⟩ ?_
  rintro Y ⟨hY, hya⟩
  have HY := Lib.hid (And.intro hY (And.intro hya C0.out))
  clear hY hya H1 HX C0
  generalize w1.heap.size = p at *
  go_loopg [11, 12, 13, 14] (c.log - (hd - hd)).toNat (fun g u1 u2 u3 u4 wr => ∃ (R : List (List UInt8)) (lsn ep sq : Int) (vR : Value), g = (c.log - (lsn - hd)).toNat ∧ Hid (TSt w wr p (.int .i64 c.log) (.int .i64 c.pages) (.int .i64 c.ents) (.int .i64 c.gens) (.slice Au nu cu) vR R lsn ep sq ∧ AnsP wr (fun b => (b ≠ p ∧ w.heap.size + 1 < b) ∧ ownB vR ≠ some b) c l hd lsn ep sq u1 u2 u3 u4 ∧ CarT c l hd ep0 sq0 R lsn ep sq))
  case atStart => exact ⟨[], hd, ep0, sq0, _, rfl, HY.out⟩
  case round =>
    obtain ⟨R, lsn, ep, sq, vR, hg, hst⟩ := hrel
    rcases Bool.eq_false_or_eq_true (recB c l lsn ep sq (c.log - (lsn - hd))) with hr | hr
    · obtain ⟨A4, n4, d4, rfl, rfl, rfl, rfl, hy4⟩ := hst.out.2.1.yes hr
      obtain ⟨Ap, cp, rfl⟩ := hst.out.1.recs.form
      have hmo := one_most hr
      have hnx := hst.out.2.2.bd.next hr
      have hmany := hst.out.2.2.many
      have CN := Lib.hid (hst.out.2.2.next hr)
      have Y4 := Lib.hid hy4
      have OL := Lib.hid (fun e (h : ownB (.slice Ap R.length cp) = some e) => hst.out.1.recs.own_lt h)
      have HP := Lib.hid hst.out.1.hp
      obtain ⟨b0, b1, b2, b3, b4, b5, b6, b7, b8⟩ := hmo
      obtain ⟨-, ⟨d0, d1⟩, ⟨d2, d3⟩, d5, d6⟩ := hnx
      have GE := Lib.hid (show (c.log - ((lsn + cntF c l lsn) - hd)).toNat < gk by omega)
      obtain ⟨r0, r1, r2, r3, rf⟩ := cells4 hst.out.1.cur
      obtain ⟨n, hn⟩ : ∃ n, R.length = n := ⟨_, rfl⟩
      have HN := Lib.hid hn
      have RE := Lib.hid hst.out.1.recs
      rw [hn] at hmany OL r0 RE Y4
      clear hn hy4 b3 b6 hr hg
      generalize hze : (hasF c l lsn).ep = ze at *
      generalize hzc : cntF c l lsn = zc at *
      clear hze hzc
      go_wp2_with (at_builtin; refine wpList_pushX rfl _ _ _ rfl bsN (fun b => b ≠ p ∧ w.heap.size + 1 < b) (p + 1) 29 ib _ 24 Try.underlying25 hib hb0 hb1 hb2 rfl _ R n HN.out rfl (RE.out.keep ((Keep.refl (fun _ => False) wr).alloc _) (fun _ _ h => h) (fun _ _ _ _ h => h)) wr.heap.size 1 (recF c l lsn) (.slice A4 n4 d4) rfl (lit_cells wr _ _) (By.keep Y4.out ((Keep.refl (fun _ => False) wr).alloc _) (fun _ _ _ h => h)) ?c1 ?c2 ?c3 ?_)
      case c1 => unfold maxLen; omega
      case c2 => omega
      case c3 => have := HP.out; simp; omega
      intro A5 c5 w5 hn5 hk5
      have K5 : Keep (fun x => p < x) wr w5 := ((Keep.refl (fun x => p < x) wr).alloc (.cells #[.slice A4 n4 d4] 29)).trans hk5 (fun x _ e => by have := (OL.out x e).1; omega)
      have C5 : w5.heap[p]? = some (.cells #[.slice Ap n cp, .int .i64 lsn, .int .i64 ep, .int .i64 sq] 44 (0, 0)) := by
        have := (K5.block p HP.out (by omega)).trans hst.out.1.cur
        rw [HN.out] at this
        exact this
      have H5 := Lib.hid (And.intro C5 (And.intro (K5.mono (T := fun x => p ≤ x) (fun x _ h => by omega)) (And.intro hst.out.1 hn5)))
      clear K5 hk5 hn5 hst r0 r1 r2 r3 rf RE Y4 OL HP
      obtain ⟨r0, r1, r2, r3, rf⟩ := cells4 C5
      clear C5
      go_upto_region 8 with fail
      refine wp_world (S := fun X => TSt w X p (.int .i64 c.log) (.int .i64 c.pages) (.int .i64 c.ents) (.int .i64 c.gens) (.slice Au nu cu) (.slice A5 (n + 1) c5) (R ++ [recF c l lsn]) (lsn + zc) ze (sq + 1)) (H5.out.2.2.1.next (H5.out.2.1.trans (keepS4 w5 p _ _ _ _) (fun x _ e => by omega)) (stored4 H5.out.1 _ _ _ _) (H5.out.2.2.2.keep (keepS4 w5 p _ _ _ _) (fun k h e => by have := (H5.out.2.2.2.own_lt h).1; omega) (fun b _ h _ e => h.1 e))) ?_
      intro Z hZ
      have HZ := Lib.hid hZ
      clear hZ H5 r0 r1 r2 r3 rf
      obtain ⟨c0, c1, c2, c3, c4, cf⟩ := cells5 HZ.out.conf
      obtain ⟨r0, r1, r2, r3, rf⟩ := cells4 HZ.out.cur
      go_wp2_with fail
      with_reducible refine (ON.out (lsn + zc) ze (sq + 1) _ _ (by omega) HZ.out.keep).mono ?_
      rintro e w6 ⟨A6, n6, d6, rfl, hy6, hb6⟩
      have H6 := Lib.hid (And.intro (HZ.out.to hb6) (And.intro ((OneP.ans (X := Z) (W := w6) (c := c) (l := l) (hd := hd) (lsn := lsn + zc) (ep := ze) (sq := sq + 1) ⟨A6, n6, d6, rfl, hy6, hb6⟩).mono (G := fun b => (b ≠ p ∧ w.heap.size + 1 < b) ∧ ownB (.slice A5 (n + 1) c5) ≠ some b) (fun b hb h => ⟨⟨by have := HZ.out.hp; omega, by have := HZ.out.hp; have := HZ.out.lt; omega⟩, fun e => by have := (HZ.out.recs.own_lt e).2; omega⟩)) CN.out))
      clear hb6 hy6 c0 c1 c2 c3 c4 cf r0 r1 r2 r3 rf
      generalize (if recB c l (lsn + (zc : Int)) ze (sq + 1) (c.log - (lsn + (zc : Int) - hd)) = true then (cntF c l (lsn + (zc : Int)) : Int) else 0) = y1 at *
      generalize (if recB c l (lsn + (zc : Int)) ze (sq + 1) (c.log - (lsn + (zc : Int) - hd)) = true then (hasF c l (lsn + (zc : Int))).ep else 0) = y2 at *
      generalize recB c l (lsn + (zc : Int)) ze (sq + 1) (c.log - (lsn + (zc : Int) - hd)) = y3 at *
      go_wp2
      go_roundg ((c.log - ((lsn + zc) - hd)).toNat)
      case measure => exact GE.out
      case rel => exact ⟨_, _, _, _, _, rfl, H6.out⟩
    · obtain ⟨A4, n4, d4, rfl, rfl, rfl, rfl⟩ := hst.out.2.1.no hr
      obtain ⟨Ap, cp, rfl⟩ := hst.out.1.recs.form
      have EN := Lib.hid (hst.out.2.2.end_ hr)
      have DN := Lib.hid hst.out.1.done
      obtain ⟨r0, r1, r2, r3, rf⟩ := cells4 hst.out.1.cur
      obtain ⟨s0, s1, s2, s3, sf⟩ := cells4 hst.out.1.res
      clear hr hg
      go_wp2
      refine bodyPost_ret (results_tail rfl _ _ (w.heap.size + 1) _ _ _ _ rfl DN.out.1) rfl ?_
      rw [EN.out]
      exact ⟨_, rfl, DN.out.2.1, DN.out.2.2⟩
end Go.Proofs.Ytfjgbnnjfapcmaa
namespace Go.Proofs.Ytfjgbnnjfapcmaa
open Go.RowKit
set_option maxRecDepth 100000
set_option linter.unusedVariables false
set_option linter.unusedSimpArgs false

set_option maxHeartbeats 4000000 in
theorem scan_any (c : Cf) (u : Value) (F : Nat → Prop) (l : List (List UInt8)) (v : Value) (G : Nat → Prop) (hd ep0 sq0 : Int) (w : World) (hu : CL w F u c.l) (hv : Bys w G v l) (hs : ∀ s ∈ l, s.length ≤ 1099511627776)
    (hc : -9223372036854775808 ≤ c.log ∧ c.log ≤ 9223372036854775807) :
    Calls Try.prog 28 #[confV c u, v, .int .i64 hd, .int .i64 ep0, .int .i64 sq0] w (ScanP w (scanF c l hd ep0 sq0)) := by
  have ON := Lib.hid (fun lsn ep sq z W (hz : z = c.log - (lsn - hd)) (hk : Keep (fun _ => False) w W) => show Calls Try.prog 10 #[confV c u, v, .int .i64 lsn, .int .i64 ep, .int .i64 sq, .int .i64 z] W (OneP W c l lsn ep sq (c.log - (lsn - hd))) from by subst hz; exact one_any c u F l v G lsn ep sq (c.log - (lsn - hd)) W (hu.same hk) (hv.keep hk (fun _ _ _ h => h)) hs)
  obtain ⟨ib, hib, hb0, hb1, hb2⟩ := info_parts info_bytes
  have C0 := Lib.hid (show CarT c l hd ep0 sq0 [] hd ep0 sq0 from ⟨rfl, .inl rfl, by simp⟩)
  have HC := Lib.hid hc
  obtain ⟨A, cap, rfl, -⟩ := hv.form
  obtain ⟨Au, cu, rfl, -⟩ := hu
  unfold confV at *
  clear hv hs hc
  generalize l.length = nl at *
  generalize c.l.length = nu at *
  go_enter Try.func28, Try.ntmps28
  go_upto_region 1 with fail
  refine wp_world (S := fun X => HTt w X (.int .i64 c.log) (.int .i64 c.pages) (.int .i64 c.ents) (.int .i64 c.gens) (.slice Au nu cu)) (HTt.mk_ w _ _ _ _ _) ?_
  intro X hX
  have HX := Lib.hid hX
  clear hX
  go_wp2
  go_step3
  go_wp2
  go_step3
  go_wp2
  refine wp_world (S := fun Y => TSt w Y X.heap.size (.int .i64 c.log) (.int .i64 c.pages) (.int .i64 c.ents) (.int .i64 c.gens) (.slice Au nu cu) (.slice none 0 0) [] hd ep0 sq0) (HX.out.first _ _ _) ?_
  intro Y hY
  have HY := Lib.hid (And.intro hY C0.out)
  clear hY HX C0
  generalize X.heap.size = p at *
  go_loopg [12] (c.log - (hd - hd)).toNat (fun g u1 wr => ∃ (R : List (List UInt8)) (lsn ep sq : Int) (vR : Value), g = (c.log - (lsn - hd)).toNat ∧ Hid (TSt w wr p (.int .i64 c.log) (.int .i64 c.pages) (.int .i64 c.ents) (.int .i64 c.gens) (.slice Au nu cu) vR R lsn ep sq ∧ CarT c l hd ep0 sq0 R lsn ep sq))
  case atStart => exact ⟨[], hd, ep0, sq0, _, rfl, HY.out⟩
  case round =>
    obtain ⟨R, lsn, ep, sq, vR, hg, hst⟩ := hrel
    obtain ⟨Ap, cp, rfl⟩ := hst.out.1.recs.form
    obtain ⟨c0, c1, c2, c3, c4, cf⟩ := cells5 hst.out.1.conf
    obtain ⟨r0, r1, r2, r3, rf⟩ := cells4 hst.out.1.cur
    obtain ⟨⟨f0, f1⟩, f2, f3⟩ := hst.out.2.bd.fit HC.out
    go_wp2_with fail
    with_reducible refine (ON.out lsn ep sq _ _ rfl hst.out.1.keep).mono ?_
    rintro e w1 hone
    have HO := Lib.hid hone
    clear hone c0 c1 c2 c3 c4 cf r0 r1 r2 r3 rf f0 f1 f2 f3
    rcases Bool.eq_false_or_eq_true (recB c l lsn ep sq (c.log - (lsn - hd))) with hr | hr
    · obtain ⟨A4, n4, d4, rfl, hy4, hb4⟩ := HO.out.yes hr
      have hmo := one_most hr
      have hnx := hst.out.2.bd.next hr
      have hmany := hst.out.2.many
      have CN := Lib.hid (hst.out.2.next hr)
      have T1 := Lib.hid (hst.out.1.to hb4)
      have Y4 := Lib.hid (By.mono (G := fun b => (b ≠ p ∧ w.heap.size + 1 < b) ∧ ownB (.slice Ap R.length cp) ≠ some b) hy4 (fun b hb h => ⟨⟨by have := hst.out.1.hp; omega, by have := hst.out.1.hp; have := hst.out.1.lt; omega⟩, fun e => by have := (hst.out.1.recs.own_lt e).2; omega⟩))
      have OL := Lib.hid (fun e (h : ownB (.slice Ap R.length cp) = some e) => T1.out.recs.own_lt h)
      have HP := Lib.hid T1.out.hp
      obtain ⟨b0, b1, b2, b3, b4, b5, b6, b7, b8⟩ := hmo
      obtain ⟨-, ⟨d0, d1⟩, ⟨d2, d3⟩, d5, d6⟩ := hnx
      have GE := Lib.hid (show (c.log - ((lsn + cntF c l lsn) - hd)).toNat < gk by omega)
      obtain ⟨r0, r1, r2, r3, rf⟩ := cells4 T1.out.cur
      obtain ⟨n, hn⟩ : ∃ n, R.length = n := ⟨_, rfl⟩
      have HN := Lib.hid hn
      have RE := Lib.hid T1.out.recs
      rw [hn] at hmany OL r0 RE Y4
      clear hn hy4 hb4 b3 b6 hr hg HO hst
      generalize hze : (hasF c l lsn).ep = ze at *
      generalize hzc : cntF c l lsn = zc at *
      clear hze hzc
      go_wp2_with (at_builtin; refine wpList_pushX rfl _ _ _ rfl bsN (fun b => b ≠ p ∧ w.heap.size + 1 < b) (p + 1) 29 ib _ 24 Try.underlying25 hib hb0 hb1 hb2 rfl _ R n HN.out rfl (RE.out.keep ((Keep.refl (fun _ => False) w1).alloc _) (fun _ _ h => h) (fun _ _ _ _ h => h)) w1.heap.size 1 (recF c l lsn) (.slice A4 n4 d4) rfl (lit_cells w1 _ _) (By.keep Y4.out ((Keep.refl (fun _ => False) w1).alloc _) (fun _ _ _ h => h)) ?c1 ?c2 ?c3 ?_)
      case c1 => unfold maxLen; omega
      case c2 => omega
      case c3 => have := HP.out; simp; omega
      intro A5 c5 w5 hn5 hk5
      have K5 : Keep (fun x => p < x) w1 w5 := ((Keep.refl (fun x => p < x) w1).alloc (.cells #[.slice A4 n4 d4] 29)).trans hk5 (fun x _ e => by have := (OL.out x e).1; omega)
      have C5 : w5.heap[p]? = some (.cells #[.slice Ap n cp, .int .i64 lsn, .int .i64 ep, .int .i64 sq] 44 (0, 0)) := by
        have := (K5.block p HP.out (by omega)).trans T1.out.cur
        rw [HN.out] at this
        exact this
      have H5 := Lib.hid (And.intro C5 (And.intro (K5.mono (T := fun x => p ≤ x) (fun x _ h => by omega)) (And.intro T1.out hn5)))
      clear K5 hk5 hn5 r0 r1 r2 r3 rf RE Y4 OL HP T1
      obtain ⟨r0, r1, r2, r3, rf⟩ := cells4 C5
      clear C5
      go_wp2
      go_roundg ((c.log - ((lsn + zc) - hd)).toNat)
      case measure => exact GE.out
      case rel => exact ⟨_, _, _, _, _, rfl, Lib.hid ⟨H5.out.2.2.1.next (H5.out.2.1.trans (keepS4 w5 p _ _ _ _) (fun x _ e => by omega)) (stored4 H5.out.1 _ _ _ _) (H5.out.2.2.2.keep (keepS4 w5 p _ _ _ _) (fun k h e => by have := (H5.out.2.2.2.own_lt h).1; omega) (fun b _ h _ e => h.1 e)), CN.out⟩⟩
    · obtain ⟨A4, n4, d4, rfl, hb4⟩ := HO.out.no hr
      have EN := Lib.hid (hst.out.2.end_ hr)
      have T1 := Lib.hid (hst.out.1.to hb4)
      have DN := Lib.hid T1.out.done
      obtain ⟨r0, r1, r2, r3, rf⟩ := cells4 T1.out.cur
      obtain ⟨s0, s1, s2, s3, sf⟩ := cells4 T1.out.res
      clear hr hg hb4 HO hst
      go_wp2
      try rw [Exit.noGoto_ret]
      refine bodyPost_ret (results_tail rfl _ _ (w.heap.size + 1) _ _ _ _ rfl DN.out.1) rfl ?_
      rw [EN.out]
      exact ⟨_, rfl, DN.out.2.1, DN.out.2.2⟩
end Go.Proofs.Ytfjgbnnjfapcmaa
namespace Go.Proofs.Ytfjgbnnjfapcmaa
open Go.RowKit
set_option maxRecDepth 100000
set_option linter.unusedVariables false
set_option linter.unusedSimpArgs false

theorem ListSt.at_ {B : Nat} {w : World} {A : Option Addr} {n d k : Nat} {L : List (List UInt8)} (h : ListSt B w (.slice A n d) L) (hk : k < n) :
    ∃ b off A1 d1, A = some ⟨b, off, none⟩ ∧ w.cell? ⟨b, off + k, none⟩ = some (.slice A1 (L.getD k []).length d1) ∧ By w (fun b => B ≤ b) (.slice A1 (L.getD k []).length d1) (L.getD k []) := by
  obtain ⟨A', c, e, _, _, hat⟩ := h.bys.form
  injection e with e1 e2 e3
  subst e1 e2 e3
  obtain ⟨b, off, u, h1, h2, h3⟩ := hat k hk
  obtain ⟨A1, d1, rfl, -⟩ := id h3
  exact ⟨b, off, A1, d1, h1, h2, h3⟩
theorem sealedTo_next {ep lsn sq : Int} {b : List UInt8} {k : Nat} (h : k < (splitL sq b).length) : (sealedF ep lsn sq b).take (k + 1) = (sealedF ep lsn sq b).take k ++ [sealB ⟨ep, lsn + (k : Nat), 1, (splitL sq b).getD k []⟩] := by
  rw [List.take_add_one]
  congr 1
  rw [sealedF, List.getElem?_map, List.getElem?_range h]; rfl
theorem splitL_le (z : Int) (b : List UInt8) : (splitL z b).length ≤ 1024 := by
  unfold splitL
  split
  · exact Nat.zero_le _
  · rw [pieces_len]; omega
set_option maxHeartbeats 4000000 in
theorem rsealed_any (ep lsn sq : Int) (b : List UInt8) (v : Value) (F : Nat → Prop) (w : World) (hv : By w F v b) (hb : b.length ≤ 1099511627776) (h0 : -9223372036854775808 ≤ lsn) (h1 : lsn ≤ 1000000000000000) :
    Calls Try.prog 24 #[.int .i64 ep, .int .i64 lsn, .int .i64 sq, v] w fun e w' => ∃ u, e = .returned u ∧ ListSt w.heap.size w' u (sealedF ep lsn sq b) ∧ Below w.heap.size w w' := by
  obtain ⟨is, his, hs0, hs1, hs2⟩ := info_parts info_bytes
  have SP := Lib.hid (rsplit_any sq b v F w hv hb)
  have NX := Lib.hid (fun k => @sealedTo_next ep lsn sq b k)
  have SL := Lib.hid (sealedF_len ep lsn sq b)
  have hle := splitL_le sq b
  have PT := Lib.hid (fun k W u Fa (h : By W Fa u ((splitL sq b).getD k [])) => refPut_any ⟨ep, lsn + (k : Nat), 1, (splitL sq b).getD k []⟩ u Fa W h)
  have TK := Lib.hid (fun k (h : k ≤ (splitL sq b).length) => show ((sealedF ep lsn sq b).take k).length = k by rw [List.length_take, sealedF_len]; omega)
  have TA := Lib.hid (show (sealedF ep lsn sq b).take (splitL sq b).length = sealedF ep lsn sq b by rw [← sealedF_len ep lsn sq b, List.take_length])
  clear hb
  obtain ⟨A0, c0, rfl, -⟩ := hv
  go_enter Try.func24, Try.ntmps24
  go_wp2_with fail
  with_reducible refine SP.out.mono ?_
  rintro e w1 ⟨u1, rfl, hl1, hb1⟩
  obtain ⟨A1, d1, rfl⟩ := hl1.form
  have H1 := Lib.hid (And.intro hl1 hb1)
  clear hl1 hb1 SP
  generalize splitL sq b = L at *
  generalize hn : L.length = n at *
  have HN := Lib.hid hn
  clear hn
  go_wp2
  go_loopw [10, 11] (fun s i wr => ∃ k : Nat, k ≤ n ∧ i = .int .i64 k ∧ Hid (NBX bsN (fun b => w.heap.size ≤ b) w1.heap.size 29 wr s ((sealedF ep lsn sq b).take k) ∧ Keep (fun x => w1.heap.size ≤ x) w1 wr)) (fun _ i _ => n - (intOf i).toNat)
  case atStart => exact ⟨0, by omega, rfl, Lib.hid ⟨by rw [List.take_zero]; exact NBX.nil _ _ _ _ _, Keep.refl _ _⟩⟩
  case round =>
    obtain ⟨k, hk, rfl, hst⟩ := hrel
    obtain ⟨Ap, cp, es⟩ := hst.out.1.form
    rw [TK.out k hk] at es
    subst es
    by_cases hlt : k < n
    · have f1 : (k : Int) < (n : Int) := by omega
      have f2 : (0 : Int) ≤ (k : Int) := by omega
      have e1 : IntKind.i64.wrap (lsn + (k : Int)) = lsn + (k : Int) := IntWalk.i64_in _ (by omega)
      obtain ⟨b1, o1, A2, d2, rfl, x2, y2⟩ := H1.out.1.at_ hlt
      have hb1 := World.block_lt_of_cell? w1 _ x2
      have x3 := hst.out.2.cell (p := ⟨b1, o1 + k, none⟩) (by simpa using hb1) x2
      have Y2 := Lib.hid (By.keep y2 hst.out.2 (fun b h _ => by omega))
      clear y2 x2 hb1
      have OL := Lib.hid (fun e (h : ownB (.slice Ap k cp) = some e) => hst.out.1.own_lt h)
      have NK := Lib.hid (NX.out k hlt)
      have TKK := Lib.hid (TK.out k hk)
      have PTK := Lib.hid (PT.out k _ _ _ Y2.out)
      generalize L.getD k [] = r at *
      generalize r.length = rl at *
      go_wp2_with fail
      with_reducible refine PTK.out.mono ?_
      rintro e w2 ⟨A3, n3, d3, rfl, hy3, hb3⟩
      have H3 := Lib.hid (And.intro (hst.out.1.keep (Keep.of_below' hb3) (fun _ _ h => h) (fun _ _ _ _ h => h)) (hst.out.2.trans (Keep.of_below' hb3) (fun _ _ h => h.elim)))
      have SZ := Lib.hid hst.out.2.size
      have SW := Lib.hid H1.out.2.size
      have SZ2 := Lib.hid hb3.size
      have Y3 := Lib.hid (By.mono (G := fun b => w.heap.size ≤ b ∧ ownB (.slice Ap k cp) ≠ some b) hy3 (fun b _ h => ⟨by have := SW.out; have := SZ.out; omega, fun e => by have := (OL.out b e).2; omega⟩))
      clear hy3 hb3 hst Y2 PTK
      go_wp2_with (at_builtin; refine wpList_pushX rfl _ _ _ rfl bsN (fun b => w.heap.size ≤ b) w1.heap.size 29 is _ 24 Try.underlying25 his hs0 hs1 hs2 rfl _ ((sealedF ep lsn sq b).take k) k TKK.out rfl (H3.out.1.keep ((Keep.refl (fun _ => False) w2).alloc _) (fun _ _ h => h) (fun _ _ _ _ h => h)) w2.heap.size 1 (sealB ⟨ep, lsn + (k : Nat), 1, r⟩) (.slice A3 n3 d3) rfl (lit_cells w2 _ _) (By.keep Y3.out ((Keep.refl (fun _ => False) w2).alloc _) (fun _ _ _ h => h)) ?c1 ?c2 ?c3 ?_)
      case c1 => unfold maxLen; omega
      case c2 => omega
      case c3 => have := SZ.out; have := SZ2.out; simp; omega
      intro A5 c5 w5 hn5 hk5
      have H5 := Lib.hid (show NBX bsN (fun b => w.heap.size ≤ b) w1.heap.size 29 w5 (.slice A5 (k + 1) c5) ((sealedF ep lsn sq b).take (k + 1)) ∧ Keep (fun x => w1.heap.size ≤ x) w1 w5 from
        ⟨by rw [NK.out]; exact hn5, (H3.out.2.alloc _).trans hk5 (fun x _ e => (OL.out x e).1)⟩)
      clear hn5 hk5
      go_wp2
      go_roundw
      case rel => exact ⟨k + 1, by omega, by go_num, Lib.hid H5.out⟩
      case measure => simp [intOf]; omega
    · obtain rfl : k = n := by omega
      have f1 : ¬ (k : Int) < (k : Int) := by omega
      have HL := Lib.hid (show ListSt w.heap.size wr (.slice Ap k cp) (sealedF ep lsn sq b) by have := hst.out.1.list (fun _ h => h) H1.out.2.size; rwa [TA.out] at this)
      have HB := Lib.hid (show Below w.heap.size w wr from H1.out.2.trans (hst.out.2.below H1.out.2.size (fun x hx => by have := H1.out.2.size; omega)))
      go_wp2
      go_ret
      exact ⟨_, rfl, HL.out, HB.out⟩
end Go.Proofs.Ytfjgbnnjfapcmaa

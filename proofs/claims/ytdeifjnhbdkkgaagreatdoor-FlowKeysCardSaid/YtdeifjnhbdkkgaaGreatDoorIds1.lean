/- Names in memory. -/
import Derived.Test.YtdeifjnhbdkkgaaGreatDoorTab1
namespace Go.Proofs.YtdeifjnhbdkkgaaGreatDoor
open Go.RowKit
set_option maxRecDepth 100000
set_option linter.unusedVariables false
set_option linter.unusedSimpArgs false

theorem own_apart {w : World} {base base' n n' size size' : Nat} {e e' : TypeId} {v v' : Value} {xs xs' : List Value} (h : Own w base e size v n xs) (h' : Own w base' e' size' v' n' xs') (hne : e ≠ e') : ∀ k, ownB v = some k → ownB v' ≠ some k := fun k hk hk' => by
  obtain ⟨_, A, c, rfl, hnc, _, hg⟩ := h
  rcases A with _ | a
  · cases hk
  rcases c with _ | c
  · cases hk
  obtain ⟨g, cur, hA, _, hgg, _⟩ := hg (by omega)
  injection hA with hA
  subst hA
  injection hk with hk
  subst hk
  exact h'.ne_cells hgg (fun x => hne x.symm) hk'
theorem own_setQ {w : World} {B g n d k m : Nat} {e : TypeId} {xs : List Value} {x : Value} (h : Own w B e m (.slice (some ⟨g, 0, none⟩) n d) n xs) (hd : 0 < d) : Own (w.setCell ⟨g, k, none⟩ x) B e m (.slice (some ⟨g, 0, none⟩) n d) n (xs.set k x) := by
  obtain ⟨hl, A, c, hv, hnc, hcm, hg⟩ := h
  injection hv with e1 e2 e3
  subst e1 e3
  obtain ⟨g', cur, eg, hb, hgg, hcs, htk⟩ := hg hd
  injection eg with eg
  injection eg with eg
  subst eg
  refine ⟨by rw [List.length_set]; exact hl, _, d, rfl, hnc, hcm, fun _ => ⟨g, cur.setIfInBounds k x, rfl, hb, heap_setCell_same w g k _ _ x hgg, by simpa using hcs, ?_⟩⟩
  rw [Array.toList_setIfInBounds, List.take_set, htk]
/-- Its block, where it has elements. -/
theorem own_blkQ {w : World} {B n m : Nat} {e : TypeId} {v : Value} {xs : List Value} (h : Own w B e m v n xs) (hn : 0 < n) : ∃ g c, v = .slice (some ⟨g, 0, none⟩) n c ∧ n ≤ c ∧ c ≤ maxLen ∧ ownB v = some g ∧ B ≤ g ∧ g < w.heap.size ∧ ∀ W, Keep (fun _ => False) w W → (∀ i u, xs[i]? = some u → W.cell? ⟨g, i, none⟩ = some u) ∧ ∀ i, W.frozen? ⟨g, i, none⟩ = false := by
  obtain ⟨hl, A, c, rfl, hnc, hcm, hg⟩ := h
  obtain ⟨g, cur, rfl, hb, hgg, hcs, htk⟩ := hg (by omega)
  obtain ⟨d, rfl⟩ : ∃ d, c = d + 1 := ⟨c - 1, by omega⟩
  refine ⟨g, d + 1, rfl, hnc, hcm, rfl, hb, (Array.getElem?_eq_some_iff.1 hgg).1, fun W hW => ?_⟩
  have hgW := (hW.block g (Array.getElem?_eq_some_iff.1 hgg).1 (fun h => h)).trans hgg
  refine ⟨fun i u hu => ?_, fun i => frozen_of_row W g i _ _ hgW⟩
  rw [cell_of_row W g i _ _ _ hgW]
  rw [← htk, List.getElem?_take] at hu
  split at hu
  · simpa using hu
  · cases hu
def slC (x : Nat × Bool) : List Value := [.int .i64 (x.1 : Int), .bool x.2]
theorem slC_len (x : Nat × Bool) : (slC x).length = 2 := rfl
/-- Names: each index's generation, whether it is alive; those that are free; how many there may be, of how many generations. -/
structure Na where
  sl : List (Nat × Bool)
  free : List Nat
  ents : Nat
  lim : Nat
/-- They are as they may be. -/
structure NaOk (a : Na) : Prop where
  few : a.sl.length ≤ a.ents
  ents : 1 ≤ a.ents ∧ a.ents ≤ 1024
  lim : 1 ≤ a.lim ∧ a.lim ≤ 1073741824
  fr : ∀ i ∈ a.free, i < a.sl.length ∧ (a.sl.getD i (0, false)).2 = false ∧ (a.sl.getD i (0, false)).1 < a.lim
  nodup : a.free.Nodup
  gens : ∀ x ∈ a.sl, x.1 ≤ a.lim ∧ (x.2 = true → x.1 < a.lim)
  all : ∀ i, i < a.sl.length → (a.sl.getD i (0, false)).2 = false → (a.sl.getD i (0, false)).1 < a.lim → i ∈ a.free
structure IdM (w : World) (ip : Nat) (vs vf : Value) (a : Na) : Prop where
  box : w.heap[ip]? = some (.cells #[vs, vf, .int .i64 (a.ents : Int), .int .i64 (a.lim : Int)] 111 (0, 0))
  os : Own w 0 126 2 vs a.sl.length (a.sl.flatMap slC)
  of : Own w 0 3 1 vf a.free.length (iv (ints a.free))
  ok : NaOk a
def IdF (ip : Nat) (vs vf : Value) (k : Nat) : Prop := k = ip ∨ ownB vs = some k ∨ ownB vf = some k
/-- Where a call leaves names. -/
def IdTo (w : World) (ip : Nat) (Foot : Nat → Prop) (a : Na) (w' : World) : Prop :=
  ∃ vs vf, IdM w' ip vs vf a ∧ Keep Foot w w' ∧ ∀ k, IdF ip vs vf k → Foot k ∨ w.heap.size ≤ k
section
variable {w w' : World} {ip : Nat} {vs vf : Value} {a : Na} {S : Nat → Prop}
theorem IdM.lt (h : IdM w ip vs vf a) : ∀ k, IdF ip vs vf k → k < w.heap.size := fun k hk => by
  rcases hk with rfl | hk | hk
  · exact (Array.getElem?_eq_some_iff.1 h.box).1
  · exact (h.os.ownB k hk).2
  · exact (h.of.ownB k hk).2
theorem IdM.keep (h : IdM w ip vs vf a) (hk : Keep S w w') (hs : ∀ k, IdF ip vs vf k → ¬ S k) : IdM w' ip vs vf a :=
  ⟨(hk.block ip (h.lt ip (.inl rfl)) (hs ip (.inl rfl))).trans h.box, h.os.keep hk (fun k e => hs k (.inr (.inl e))), h.of.keep hk (fun k e => hs k (.inr (.inr e))), h.ok⟩
theorem IdM.same (h : IdM w ip vs vf a) (hk : Keep (fun _ => False) w w') : IdM w' ip vs vf a := h.keep hk (fun _ _ h => h)
theorem IdM.ip_vs (h : IdM w ip vs vf a) : ownB vs ≠ some ip := h.os.ne_cells h.box (by decide)
theorem IdM.ip_vf (h : IdM w ip vs vf a) : ownB vf ≠ some ip := h.of.ne_cells h.box (by decide)
theorem IdM.vs_vf (h : IdM w ip vs vf a) : ∀ k, ownB vs = some k → ownB vf ≠ some k := own_apart h.os h.of (by decide)
end
/-- The name at an index. -/
def atI (a : Na) (ix : Int) : IdZ × Bool := if 0 ≤ ix ∧ ix < a.sl.length ∧ (a.sl.getD ix.toNat (0, false)).2 = true then (⟨ix, (a.sl.getD ix.toNat (0, false)).1⟩, true) else (⟨0, 0⟩, false)
def aliveI (a : Na) (x : IdZ) : Bool := (atI a x.ix).2 && decide ((atI a x.ix).1 = x)
/-- A name is taken: the names, the name, the error. -/
def takeI (a : Na) : Na × IdZ × Int :=
  match a.free.getLast? with
  | some i => (⟨a.sl.set i ((a.sl.getD i (0, false)).1, true), a.free.dropLast, a.ents, a.lim⟩, ⟨(i : Int), (a.sl.getD i (0, false)).1⟩, 0)
  | none => if a.sl.length = a.ents then (a, ⟨0, 0⟩, 9) else (⟨a.sl ++ [(0, true)], a.free, a.ents, a.lim⟩, ⟨(a.sl.length : Int), 0⟩, 0)
/-- A name is given back. -/
def giveI (a : Na) (x : IdZ) : Na × Int :=
  if aliveI a x = true then (⟨a.sl.set x.ix.toNat ((a.sl.getD x.ix.toNat (0, false)).1 + 1, false), if (a.sl.getD x.ix.toNat (0, false)).1 + 1 < a.lim then a.free ++ [x.ix.toNat] else a.free, a.ents, a.lim⟩, 0) else (a, 5)
end Go.Proofs.YtdeifjnhbdkkgaaGreatDoor
namespace Go.Proofs.YtdeifjnhbdkkgaaGreatDoor
open Go.RowKit
set_option maxRecDepth 100000
set_option linter.unusedVariables false
set_option linter.unusedSimpArgs false

theorem results_idb {fn : Func} {p t : Tmp} (h : fn.results = #[.cell p 85, .tmp t]) (tmps : Array Value) (w : World) (g : Nat) (c0 c1 : Value)
    (hp : tmps.getD p undef = .pointer (some ⟨g, 0, none⟩)) (hg : w.heap[g]? = some (.cells #[c0, c1] 85 (0, 0))) (b : Value) (hb : tmps.getD t undef = b) : (results fn tmps).run Tryz.prog w = .ok (.tuple #[.agg #[c0, c1], b]) w := by
  have hr := run_loadVar_row (P := Tryz.prog) w g 85 85 #[c0, c1] (0, 0) _ hg under_id rfl size_id
  have e : (results fn tmps).run Tryz.prog w = ((asAddr (tmps.getD p undef)).run Tryz.prog w).andThen fun a w₁ => ((loadVar 85 a).run Tryz.prog w₁).andThen fun v w₂ => .ok (.tuple #[v, tmps.getD t undef]) w₂ := by
    simp only [results, h]
    simp [Sem.run_bind, Result.andThen]
  rw [e, hp, hb]
  simp [asAddr, hr]
theorem heap_twoJ {w : World} {p : Nat} {t : TypeId} {a b : Value} (h : w.heap[p]? = some (.cells #[a, b] t (0, 0))) (x y : Value) : ((w.setCell ⟨p, 0, none⟩ x).setCell ⟨p, 1, none⟩ y).heap[p]? = some (.cells #[x, y] t (0, 0)) := by
  rw [heap_setCell_same _ p 1 _ _ y (heap_setCell_same w p 0 _ _ x h)]; rfl
theorem keep2 (w : World) (p : Nat) (x y : Value) : Keep (fun b => b = p) w ((w.setCell ⟨p, 0, none⟩ x).setCell ⟨p, 1, none⟩ y) :=
  Keep.setCell (S := fun b => b = p) (p := ⟨p, 1, none⟩) (Keep.setCell (S := fun b => b = p) (p := ⟨p, 0, none⟩) (Keep.refl _ _) (.inr rfl) _) (.inr rfl) _
theorem slots_at {a : Na} {i : Nat} (h : i < a.sl.length) : (a.sl.flatMap slC)[i * 2]? = some (.int .i64 ((a.sl.getD i (0, false)).1 : Int)) ∧ (a.sl.flatMap slC)[i * 2 + 1]? = some (.bool (a.sl.getD i (0, false)).2) := by
  have hx : a.sl[i]? = some (a.sl.getD i (0, false)) := by rw [List.getD_eq_getElem?_getD, List.getElem?_eq_getElem h]; rfl
  exact ⟨flat_at (f := slC) (m := 2) (j := 0) slC_len hx rfl, flat_at (f := slC) (m := 2) (j := 1) slC_len hx rfl⟩
section
variable {w : World} {ip : Nat} {vs vf : Value} {a : Na}
end
end Go.Proofs.YtdeifjnhbdkkgaaGreatDoor
namespace Go.Proofs.YtdeifjnhbdkkgaaGreatDoor
open Go.RowKit
set_option maxRecDepth 100000
set_option linter.unusedVariables false
set_option linter.unusedSimpArgs false

section
variable {w : World} {ip : Nat} {vs vf : Value} {a : Na}
theorem sl_set {l : List (Nat × Bool)} {i : Nat} (h : i < l.length) (x : Nat × Bool) : (l.set i x).flatMap slC = ((l.flatMap slC).set (i * 2) (.int .i64 (x.1 : Int))).set (i * 2 + 1) (.bool x.2) := by
  induction l generalizing i with
  | nil => simp at h
  | cons y l ih =>
    cases i with
    | zero => simp [slC]
    | succ i =>
      rw [List.set_cons_succ, List.flatMap_cons, ih (by simpa using h), List.flatMap_cons, show (i + 1) * 2 + 1 = (i * 2 + 1) + 2 by omega, show (i + 1) * 2 = i * 2 + 2 by omega]
      simp [slC]
theorem sl_set1 {l : List (Nat × Bool)} {i : Nat} (h : i < l.length) (b : Bool) : (l.set i ((l.getD i (0, false)).1, b)).flatMap slC = (l.flatMap slC).set (i * 2 + 1) (.bool b) := by
  have hx : l[i]? = some (l.getD i (0, false)) := by rw [List.getD_eq_getElem?_getD, List.getElem?_eq_getElem h]; rfl
  rw [sl_set h]
  have f0 : (l.flatMap slC)[i * 2]? = some (.int .i64 ((l.getD i (0, false)).1 : Int)) := flat_at (f := slC) (m := 2) (j := 0) slC_len hx rfl
  have s0 : (l.flatMap slC).set (i * 2) (.int .i64 ((l.getD i (0, false)).1 : Int)) = l.flatMap slC := by
    obtain ⟨hh, e⟩ := List.getElem?_eq_some_iff.1 f0
    rw [← e]; exact List.set_getElem_self hh
  rw [s0]
theorem info_slot : (Tryz.prog.info? 126).map (fun i => (i.zero, i.size, i.bytes)) = some (some (.agg #[.int .i64 0, .bool false]), 2, 16) := by kernel_rfl
end
end Go.Proofs.YtdeifjnhbdkkgaaGreatDoor
namespace Go.Proofs.YtdeifjnhbdkkgaaGreatDoor
open Go.RowKit
set_option maxRecDepth 100000
set_option linter.unusedVariables false
set_option linter.unusedSimpArgs false

theorem getD_set_ne {α : Type} (d : α) (l : List α) {i j : Nat} (x : α) (h : i ≠ j) : (l.set i x).getD j d = l.getD j d := by
  rw [List.getD_eq_getElem?_getD, List.getD_eq_getElem?_getD, List.getElem?_set_ne h]
theorem getD_set_self {α : Type} (d : α) (l : List α) {i : Nat} (x : α) (h : i < l.length) : (l.set i x).getD i d = x := by
  rw [List.getD_eq_getElem?_getD, List.getElem?_set_self h]; rfl
theorem takeI_last {a : Na} {f : List Nat} {i : Nat} (h : a.free = f ++ [i]) : takeI a = (⟨a.sl.set i ((a.sl.getD i (0, false)).1, true), f, a.ents, a.lim⟩, ⟨(i : Int), (a.sl.getD i (0, false)).1⟩, 0) := by
  unfold takeI
  rw [h, List.getLast?_append, List.getLast?_singleton, List.dropLast_concat]
  rfl
theorem takeI_none {a : Na} (h : a.free = []) : takeI a = if a.sl.length = a.ents then (a, ⟨0, 0⟩, 9) else (⟨a.sl ++ [(0, true)], a.free, a.ents, a.lim⟩, ⟨(a.sl.length : Int), 0⟩, 0) := by
  unfold takeI
  rw [h]
  rfl
theorem list_last {α : Type} (l : List α) : l = [] ∨ ∃ f x, l = f ++ [x] := by
  rcases List.eq_nil_or_concat l with h | ⟨f, x, h⟩
  · exact .inl h
  · exact .inr ⟨f, x, by rw [h]; simp⟩
theorem takeI_ok {a : Na} (h : NaOk a) : NaOk (takeI a).1 := by
  rcases list_last a.free with hf | ⟨f, i, hf⟩
  · rw [takeI_none hf]
    split
    · exact h
    · rename_i hne
      refine ⟨by have := h.few; simp; omega, h.ents, h.lim, fun i hi => by rw [hf] at hi; simp at hi, h.nodup, fun x hx => ?_, fun i hi hd hg => ?_⟩
      · rcases List.mem_append.1 hx with hx | hx
        · exact h.gens x hx
        · obtain rfl := List.mem_singleton.1 hx
          exact ⟨by simp, fun _ => by have := h.lim; show 0 < a.lim; omega⟩
      · have hi' : i < a.sl.length + 1 := by simpa using hi
        by_cases e : i < a.sl.length
        · have e1 : (a.sl ++ [(0, true)]).getD i (0, false) = a.sl.getD i (0, false) := by
            rw [List.getD_eq_getElem?_getD, List.getD_eq_getElem?_getD, List.getElem?_append_left e]
          rw [e1] at hd hg
          exact h.all i e hd hg
        · obtain rfl : i = a.sl.length := by omega
          have e1 : (a.sl ++ [(0, true)]).getD a.sl.length (0, false) = (0, true) := by
            rw [List.getD_eq_getElem?_getD, List.getElem?_append_right (Nat.le_refl _), Nat.sub_self]; rfl
          rw [e1] at hd
          cases hd
  · rw [takeI_last hf]
    obtain ⟨hi, hd, hg⟩ := h.fr i (by rw [hf]; simp)
    have hnd := h.nodup
    rw [hf] at hnd
    have hnf : i ∉ f := fun hm => (List.nodup_append.1 hnd).2.2 i hm i (by simp) rfl
    refine ⟨by rw [List.length_set]; exact h.few, h.ents, h.lim, fun j hj => ?_, (List.nodup_append.1 hnd).1, fun x hx => ?_, fun j hj hd' hg' => ?_⟩
    · have hne : i ≠ j := fun e => hnf (e ▸ hj)
      show j < (a.sl.set i _).length ∧ ((a.sl.set i _).getD j (0, false)).2 = false ∧ ((a.sl.set i _).getD j (0, false)).1 < a.lim
      rw [List.length_set, getD_set_ne _ _ _ hne]
      exact h.fr j (by rw [hf]; simp [hj])
    · rcases List.mem_or_eq_of_mem_set hx with hx | hx
      · exact h.gens x hx
      · rw [hx]; exact ⟨Nat.le_of_lt hg, fun _ => hg⟩
    · have hj' : j < a.sl.length := by
        have : j < (a.sl.set i ((a.sl.getD i (0, false)).1, true)).length := hj
        rwa [List.length_set] at this
      by_cases e : i = j
      · subst e
        have hd'' : ((a.sl.set i ((a.sl.getD i (0, false)).1, true)).getD i (0, false)).2 = false := hd'
        rw [getD_set_self _ _ _ hi] at hd''
        cases hd''
      · have hd'' : ((a.sl.set i ((a.sl.getD i (0, false)).1, true)).getD j (0, false)).2 = false := hd'
        have hg'' : ((a.sl.set i ((a.sl.getD i (0, false)).1, true)).getD j (0, false)).1 < a.lim := hg'
        rw [getD_set_ne _ _ _ e] at hd'' hg''
        have := h.all j hj' hd'' hg''
        rw [hf] at this
        rcases List.mem_append.1 this with hm | hm
        · exact hm
        · exact absurd (List.mem_singleton.1 hm).symm e
theorem wpList_slot {ops : Array Oper} {o : Oper} {rest : List Oper} {a : Act} {w : World} {Q : Exit → Act → World → Prop} (hgd : Region.wanted o (yielded ops a.tmps) = true) (s x : Operand)
    (ho : o.op = .call { callee := .builtin .append, args := #[s, x], argTypes := #[109, 109] }) (B : Nat) (v : Value) (n : Nat) (xs : List Value) (hv : a.eval s = v) (hown : Own w B 126 2 v n xs) (g c : Nat) (y : Nat × Bool)
    (hy : a.eval x = .slice (some ⟨g, 0, none⟩) 1 c) (h0 : w.cell? ⟨g, 0, none⟩ = some (.int .i64 (y.1 : Int))) (h1 : w.cell? ⟨g, 1, none⟩ = some (.bool y.2)) (hk : n ≤ 1099511627776) (hB : B ≤ w.heap.size)
    (h : ∀ A c w', Own w' B 126 2 (.slice A (n + 1) c) (n + 1) (xs ++ slC y) → Keep (fun k => ownB v = some k) w w' → (∀ k, ownB (.slice A (n + 1) c) = some k → ownB v = some k ∨ w.heap.size ≤ k) → wpList Tryz.prog ops Q rest (a.put o.dst (.slice A (n + 1) c)) w') :
    wpList Tryz.prog ops Q (o :: rest) a w := by
  obtain ⟨is, his, hs0, hs1, hs2⟩ := info_parts info_slot
  have hsrc : Src Tryz.prog 2 109 (.slice (some ⟨g, 0, none⟩) 1 c) 1 (slC y) w := Src.ofSlice _ Tryz.underlying109 _ 1 c (slC y) rfl (fun j u hu => by
    match j, hu with
    | 0, hu => cases hu; simpa [Addr.add] using h0
    | 1, hu => cases hu; simpa [Addr.add] using h1) (fun u hu => by
    simp only [slC, List.mem_cons, List.not_mem_nil, or_false] at hu
    rcases hu with rfl | rfl <;> rfl)
  refine wpList_append_gen w hgd s x _ _ ho B 126 is _ 2 16 Tryz.underlying109 his hs0 hs1 hs2 rfl v n _ hv hown _ 1 _ hy hsrc (by unfold maxLen; omega) (by omega) hB ?_
  intro v' w' ho' hk' hn'
  obtain ⟨A, c', rfl, _⟩ := ho'.form
  exact h A c' w' ho' hk' hn'
/-- Behind a take: one slot is alive; the slices of the names as they are now. -/
theorem id_end {w X : World} {ip : Nat} {vs vf vs' vf' : Value} {a a' : Na} {g k0 : Nat} (h : IdM w ip vs vf a) (hb : X.heap[ip]? = some (.cells #[vs', vf', .int .i64 (a'.ents : Int), .int .i64 (a'.lim : Int)] 111 (0, 0))) (hk : Keep (IdF ip vs vf) w X) (ho : Own X 0 126 2 vs' a'.sl.length (a'.sl.flatMap slC)) (hf : Own X 0 3 1 vf' a'.free.length (iv (ints a'.free))) (hok : NaOk a')
    (hn1 : ∀ k, ownB vs' = some k → ownB vs = some k ∨ w.heap.size ≤ k) (hn2 : ∀ k, ownB vf' = some k → ownB vf = some k ∨ w.heap.size ≤ k) (x y : Value) (hr : w.heap.size ≤ g) (hg1 : ownB vs' ≠ some g) (hg2 : ownB vf' ≠ some g) (hg3 : ip ≠ g) : IdTo w ip (IdF ip vs vf) a' ((X.setCell ⟨g, 0, none⟩ x).setCell ⟨g, 1, none⟩ y) := by
  have k2 := keep2 X g x y
  exact ⟨vs', vf', ⟨(k2.block ip (Array.getElem?_eq_some_iff.1 hb).1 hg3).trans hb, ho.keep k2 (fun k e e2 => hg1 (by rw [e, e2])), hf.keep k2 (fun k e e2 => hg2 (by rw [e, e2])), hok⟩, hk.trans k2 (fun b hb e => by omega), fun k hk => by
    rcases hk with hk | hk | hk
    · exact .inl (.inl hk)
    · exact (hn1 k hk).imp_left (fun h => .inr (.inl h))
    · exact (hn2 k hk).imp_left (fun h => .inr (.inr h))⟩
section
variable {w : World} {ip : Nat} {vs vf : Value} {a : Na}
end
end Go.Proofs.YtdeifjnhbdkkgaaGreatDoor
namespace Go.Proofs.YtdeifjnhbdkkgaaGreatDoor
open Go.RowKit
set_option maxRecDepth 100000
set_option linter.unusedVariables false
set_option linter.unusedSimpArgs false

theorem aliveI_true {a : Na} {x : IdZ} (h : aliveI a x = true) : ∃ i : Nat, x = ⟨(i : Int), (a.sl.getD i (0, false)).1⟩ ∧ i < a.sl.length ∧ (a.sl.getD i (0, false)).2 = true := by
  unfold aliveI at h
  obtain ⟨h1, h2⟩ := Bool.and_eq_true_iff.1 h
  have h2 := of_decide_eq_true h2
  unfold atI at h1 h2
  by_cases hc : 0 ≤ x.ix ∧ x.ix < a.sl.length ∧ (a.sl.getD x.ix.toNat (0, false)).2 = true
  · rw [if_pos hc] at h2
    exact ⟨x.ix.toNat, by rw [Int.toNat_of_nonneg hc.1]; exact h2.symm, by omega, hc.2.2⟩
  · rw [if_neg hc] at h1
    cases h1
theorem giveI_at {a : Na} {i : Nat} (h : aliveI a ⟨(i : Int), (a.sl.getD i (0, false)).1⟩ = true) : giveI a ⟨(i : Int), (a.sl.getD i (0, false)).1⟩ = (⟨a.sl.set i ((a.sl.getD i (0, false)).1 + 1, false), if (a.sl.getD i (0, false)).1 + 1 < a.lim then a.free ++ [i] else a.free, a.ents, a.lim⟩, 0) := by
  unfold giveI
  rw [if_pos h]
  rfl
theorem giveI_ok {a : Na} (h : NaOk a) (x : IdZ) : NaOk (giveI a x).1 := by
  by_cases hx : aliveI a x = true
  · obtain ⟨i, rfl, hi, ha⟩ := aliveI_true hx
    rw [giveI_at hx]
    have hnf : i ∉ a.free := fun hm => by
      have := (h.fr i hm).2.1
      rw [ha] at this
      cases this
    have hmem : a.sl.getD i (0, false) ∈ a.sl := by
      rw [List.getD_eq_getElem?_getD, List.getElem?_eq_getElem hi]
      exact List.getElem_mem hi
    have hg := (h.gens _ hmem).2 ha
    generalize (a.sl.getD i (0, false)).1 = gen at *
    have hsub : ∀ j ∈ a.free, j ∈ (if gen + 1 < a.lim then a.free ++ [i] else a.free) := fun j hj => by
      split
      · exact List.mem_append.2 (.inl hj)
      · exact hj
    refine ⟨by rw [List.length_set]; exact h.few, h.ents, h.lim, fun j hj => ?_, ?_, fun x hx => ?_, fun j hj hd' hg' => ?_⟩
    · have hj' : j ∈ a.free ∨ (j = i ∧ gen + 1 < a.lim) := by
        have hj : j ∈ (if gen + 1 < a.lim then a.free ++ [i] else a.free) := hj
        split at hj
        · rename_i hl
          rcases List.mem_append.1 hj with hj | hj
          · exact .inl hj
          · exact .inr ⟨List.mem_singleton.1 hj, hl⟩
        · exact .inl hj
      show j < (a.sl.set i _).length ∧ ((a.sl.set i _).getD j (0, false)).2 = false ∧ ((a.sl.set i _).getD j (0, false)).1 < a.lim
      rw [List.length_set]
      rcases hj' with hj' | ⟨rfl, hl⟩
      · rw [getD_set_ne _ _ _ (fun e : i = j => hnf (e ▸ hj'))]
        exact h.fr j hj'
      · rw [getD_set_self _ _ _ hi]
        exact ⟨hi, rfl, hl⟩
    · show (if gen + 1 < a.lim then a.free ++ [i] else a.free).Nodup
      split
      · exact List.nodup_append.2 ⟨h.nodup, by simp, fun x hx y hy => by
          rw [List.mem_singleton.1 hy]
          exact fun e => hnf (e ▸ hx)⟩
      · exact h.nodup
    · rcases List.mem_or_eq_of_mem_set hx with hx | hx
      · exact h.gens x hx
      · rw [hx]; exact ⟨hg, fun hf => by cases hf⟩
    · have hj' : j < a.sl.length := by
        have : j < (a.sl.set i (gen + 1, false)).length := hj
        rwa [List.length_set] at this
      have hd'' : ((a.sl.set i (gen + 1, false)).getD j (0, false)).2 = false := hd'
      have hg'' : ((a.sl.set i (gen + 1, false)).getD j (0, false)).1 < a.lim := hg'
      show j ∈ (if gen + 1 < a.lim then a.free ++ [i] else a.free)
      by_cases e : i = j
      · subst e
        rw [getD_set_self _ _ _ hi] at hg''
        rw [if_pos hg'']
        simp
      · rw [getD_set_ne _ _ _ e] at hd'' hg''
        exact hsub j (h.all j hj' hd'' hg'')
  · unfold giveI
    rw [if_neg hx]
    exact h
theorem nodup_few : ∀ (n : Nat) (l : List Nat), l.Nodup → (∀ x ∈ l, x < n) → l.length ≤ n
  | 0, l, _, h => by
    cases l with
    | nil => simp
    | cons x l => exact absurd (h x (by simp)) (by omega)
  | n + 1, l, hn, h => by
    have := nodup_few n (l.erase n) (hn.erase n) (fun x hx => by
      have h1 := (hn.mem_erase_iff).1 hx
      have := h x h1.2
      have := h1.1
      omega)
    rw [List.length_erase] at this
    split at this <;> omega
theorem step_intI {ops : Array Oper} {o : Oper} {a : Act} {w : World} {K : Act → World → Prop} {Q : Exit → Act → World → Prop} {E : Prop} (hgd : Region.wanted o (yielded ops a.tmps) = true) (s x : Operand)
    (ho : o.op = .call { callee := .builtin .append, args := #[s, x], argTypes := #[50, 50] }) (B : Nat) (v : Value) (n : Nat) (D : List Nat) (hn : D.length = n) (hv : a.eval s = v) (hown : Own w B 3 1 v n (iv (ints D))) (g : Nat) (y : Nat)
    (hy : a.eval x = .slice (some ⟨g, 0, none⟩) 1 1) (h0 : w.cell? ⟨g, 0, none⟩ = some (.int .i64 (y : Int))) (hk : n ≤ 1099511627776) (hB : B ≤ w.heap.size)
    (h : ∀ A c w', Own w' B 3 1 (.slice A (n + 1) c) (n + 1) (iv (ints (D ++ [y]))) → Keep (fun k => ownB v = some k) w w' → (∀ k', ownB (.slice A (n + 1) c) = some k' → ownB v = some k' ∨ w.heap.size ≤ k') → K (a.put o.dst (.slice A (n + 1) c)) w') :
    if Region.wanted o (yielded ops a.tmps) = true then Oper.wp Tryz.prog o a w K Q else E := by
  obtain ⟨is, his, hs0, hs1, hs2⟩ := info_parts info_int
  refine step_append_gen w hgd s x _ _ ho B 3 is _ 1 8 Tryz.underlying50 his hs0 hs1 hs2 rfl v n _ hv hown _ 1 _ hy (src_at Tryz.underlying50 (x := .int .i64 (y : Int)) rfl h0) (by unfold maxLen; omega) (by omega) hB ?_
  intro v' w' ho' hk' hn'
  obtain ⟨A, c', rfl, _⟩ := ho'.form
  exact h A c' w' (by simpa [ints, iv] using ho') hk' hn'
theorem give_mid {w w1 : World} {ip gs cS i gen : Nat} {vf : Value} {a : Na} (h : IdM w ip (.slice (some ⟨gs, 0, none⟩) a.sl.length cS) vf a) (hi : i < a.sl.length) (hgs : ownB (.slice (some ⟨gs, 0, none⟩) a.sl.length cS) = some gs) (hS : a.sl.length ≤ cS) (hk : Keep (fun _ => False) w w1) :
    ((w1.setCell ⟨gs, i * 2, none⟩ (.int .i64 ((gen : Int) + 1))).setCell ⟨gs, i * 2 + 1, none⟩ (.bool false)).heap[ip]? = some (.cells #[.slice (some ⟨gs, 0, none⟩) a.sl.length cS, vf, .int .i64 (a.ents : Int), .int .i64 (a.lim : Int)] 111 (0, 0)) ∧ Own ((w1.setCell ⟨gs, i * 2, none⟩ (.int .i64 ((gen : Int) + 1))).setCell ⟨gs, i * 2 + 1, none⟩ (.bool false)) 0 126 2 (.slice (some ⟨gs, 0, none⟩) a.sl.length cS) (a.sl.set i (gen + 1, false)).length ((a.sl.set i (gen + 1, false)).flatMap slC) ∧ Own ((w1.setCell ⟨gs, i * 2, none⟩ (.int .i64 ((gen : Int) + 1))).setCell ⟨gs, i * 2 + 1, none⟩ (.bool false)) 0 3 1 vf a.free.length (iv (ints a.free)) ∧ Keep (IdF ip (.slice (some ⟨gs, 0, none⟩) a.sl.length cS) vf) w ((w1.setCell ⟨gs, i * 2, none⟩ (.int .i64 ((gen : Int) + 1))).setCell ⟨gs, i * 2 + 1, none⟩ (.bool false)) := by
  have sl2 : (a.sl.set i (gen + 1, false)).flatMap slC = ((a.sl.flatMap slC).set (i * 2) (.int .i64 ((gen : Int) + 1))).set (i * 2 + 1) (.bool false) := sl_set hi (gen + 1, false)
  have h1 := h.same hk
  have k1 := (Keep.refl (fun b => b = gs) w1).setCell (p := ⟨gs, i * 2, none⟩) (.inr rfl) (.int .i64 ((gen : Int) + 1))
  have k2 := k1.setCell (p := ⟨gs, i * 2 + 1, none⟩) (.inr rfl) (.bool false)
  have o1 := own_setQ (k := i * 2 + 1) (x := .bool false) (own_setQ (k := i * 2) (x := .int .i64 ((gen : Int) + 1)) h1.os (by omega)) (by omega)
  rw [← sl2] at o1
  have hne : ¬ ip = gs := fun e => h.ip_vs (e ▸ hgs)
  refine ⟨(k2.block ip (h1.lt ip (.inl rfl)) hne).trans h1.box, by rw [List.length_set]; exact o1, h1.of.keep k2 (fun k e e2 => h.vs_vf gs hgs (e2 ▸ e)), ?_⟩
  exact (((hk.mono (fun _ _ h => h.elim)).setCell (p := ⟨gs, i * 2, none⟩) (.inr (.inr (.inl hgs))) _).setCell (p := ⟨gs, i * 2 + 1, none⟩) (.inr (.inr (.inl hgs))) _)
section
variable {w : World} {ip : Nat} {vs vf : Value} {a : Na}
end
end Go.Proofs.YtdeifjnhbdkkgaaGreatDoor
namespace Go.Proofs.YtdeifjnhbdkkgaaGreatDoor
open Go.RowKit
set_option maxRecDepth 100000
set_option linter.unusedVariables false
set_option linter.unusedSimpArgs false

def clI (z : Int) (hi : Nat) : Nat := if z < 1 then 1 else if (hi : Int) < z then hi else z.toNat
def naNew (e l : Int) : Na := ⟨[], [], clI e 1024, clI l 1073741824⟩
theorem clI_of {hi : Nat} (h : 1 ≤ hi) (z : Int) : (z < 1 ∧ clI z hi = 1) ∨ (1 ≤ z ∧ z ≤ (hi : Int) ∧ (clI z hi : Int) = z) ∨ ((hi : Int) < z ∧ clI z hi = hi) := by
  unfold clI
  by_cases h1 : z < 1
  · exact .inl ⟨h1, if_pos h1⟩
  · by_cases h2 : (hi : Int) < z
    · exact .inr (.inr ⟨h2, by rw [if_neg h1, if_pos h2]⟩)
    · exact .inr (.inl ⟨by omega, by omega, by rw [if_neg h1, if_neg h2]; omega⟩)
theorem clI_bd {hi : Nat} (h : 1 ≤ hi) (z : Int) : 1 ≤ clI z hi ∧ clI z hi ≤ hi := by
  rcases clI_of h z with ⟨_, e⟩ | ⟨_, _, e⟩ | ⟨_, e⟩ <;> omega
theorem naNew_ok (e l : Int) : NaOk (naNew e l) := by
  have h1 := clI_bd (hi := 1024) (by omega) e
  have h2 := clI_bd (hi := 1073741824) (by omega) l
  exact ⟨by simp [naNew], h1, h2, fun i hi => by simp [naNew] at hi, List.nodup_nil, fun x hx => by simp [naNew] at hx, fun i hi => by simp [naNew] at hi⟩
theorem own_zero (w : World) (B m : Nat) (e : TypeId) : Own w B e m (.slice none 0 0) 0 [] := ⟨by simp, none, 0, rfl, Nat.le_refl _, by unfold maxLen; omega, fun h => absurd h (by omega)⟩
theorem idM_new (w : World) (e l : Int) (x y : Int) (hx : x = (clI e 1024 : Int)) (hy : y = (clI l 1073741824 : Int)) : IdM (w.alloc (.cells #[.slice none 0 0, .slice none 0 0, .int .i64 x, .int .i64 y] 111 (0, 0))) w.heap.size (.slice none 0 0) (.slice none 0 0) (naNew e l) := by
  subst hx hy
  exact ⟨heap_alloc_new w _, own_zero _ _ _ _, own_zero _ _ _ _, naNew_ok e l⟩
theorem id_new (w : World) (e l : Int) : Calls Tryz.prog 32 #[.int .i64 e, .int .i64 l] w fun r w' => r = .returned (.pointer (some ⟨w.heap.size, 0, none⟩)) ∧ IdM w' w.heap.size (.slice none 0 0) (.slice none 0 0) (naNew e l) ∧ Keep (fun _ => False) w w' := by
  have D := Lib.hid (idM_new w e l)
  have KA := Lib.hid (fun o => (Keep.refl (fun _ => False) w).alloc o)
  have h1 := clI_of (hi := 1024) (by omega) e
  have h2 := clI_of (hi := 1073741824) (by omega) l
  rcases h1 with ⟨a1, a2⟩ | ⟨a1, a2, a3⟩ | ⟨a1, a2⟩ <;> rcases h2 with ⟨b1, b2⟩ | ⟨b1, b2, b3⟩ | ⟨b1, b2⟩
  all_goals
    go_enter Tryz.func32, Tryz.ntmps32
    go_wp2
  all_goals
    go_ret
    exact ⟨rfl, D.out _ _ (by omega) (by omega), KA.out _⟩
/-- How many are alive. -/
def countI (a : Na) : Nat := (a.sl.filter (·.2)).length
theorem count_step (l : List (Nat × Bool)) {j : Nat} (h : j < l.length) : ((l.take (j + 1)).filter (·.2)).length = ((l.take j).filter (·.2)).length + if (l.getD j (0, false)).2 = true then 1 else 0 := by
  have e : l.take (j + 1) = l.take j ++ [l.getD j (0, false)] := by
    rw [List.take_add_one, List.getElem?_eq_getElem h, List.getD_eq_getElem?_getD, List.getElem?_eq_getElem h]; rfl
  rw [e, List.filter_append, List.length_append]
  congr 1
  by_cases hb : (l.getD j (0, false)).2 = true
  · rw [List.filter_cons_of_pos hb, if_pos hb]; rfl
  · rw [List.filter_cons_of_neg hb, if_neg hb]; rfl
section
variable {w : World} {ip : Nat} {vs vf : Value} {a : Na}
end
end Go.Proofs.YtdeifjnhbdkkgaaGreatDoor
namespace Go.Proofs.YtdeifjnhbdkkgaaGreatDoor
open Go.RowKit
set_option maxRecDepth 100000
set_option linter.unusedVariables false
set_option linter.unusedSimpArgs false

theorem clone_int (n : Nat) (xs : List Value) (v : Value) (F : Nat → Prop) (w : World) (hv : Sl w F 1 v n xs) (h1x : ∀ u ∈ xs, u.oneCell' = true) (hn : n ≤ 1099511627776) :
    Calls Tryz.prog 57 #[v] w fun e w' => ∃ A c, e = .returned (.slice A n c) ∧ Own w' w.heap.size 3 1 (.slice A n c) n xs ∧ Below w.heap.size w w' := by
  obtain ⟨i0, hi0, hz0, hz1, hz2⟩ := info_parts info_int
  have HN := Lib.hid hn
  clear hn
  obtain ⟨A, c, rfl, h1, h2, h3, h4⟩ := hv
  have hl := h4.1
  rcases A with _ | a
  · have h0 : n = 0 := by have := h3 rfl; omega
    have hx : xs = [] := List.eq_nil_of_length_eq_zero (by omega)
    subst h0 hx
    clear h1 h2 h3 h4 hl
    have hq := fun (w : World) => Lib.run_eql_slice_nil (P := Tryz.prog) w 50 3 none 0 c 0 0 Tryz.underlying50
    go_enter Tryz.func57, Tryz.ntmps57
    go_wp2
    go_ret
    exact ⟨_, _, rfl, Own.none_ _ _ _ _ _, Below.refl _ _⟩
  · have hq := fun (w : World) => Lib.run_eql_slice_nil (P := Tryz.prog) w 50 3 (some a) n c 0 0 Tryz.underlying50
    go_enter Tryz.func57, Tryz.ntmps57
    have hs := (h4.alloc (.cells #[] 3)).src (c := c) (P := Tryz.prog) Tryz.underlying50 h1x (by omega)
    have HS := Lib.hid hs
    clear hs h4
    go_wp2_with (at_builtin; refine wpList_append_gen _ rfl _ _ _ _ rfl w.heap.size 3 i0 _ 1 8 Tryz.underlying50 hi0 hz0 hz1 hz2 rfl _ _ _ rfl (Own.none_ _ _ _ _ _) _ n xs rfl HS.out ?c1 ?c2 ?c3 ?_)
    case c1 => have := HN.out; unfold maxLen; omega
    case c2 => have := HN.out; omega
    case c3 => simp
    intro v' w1 hown' hk1 _
    have hb1 := append_below (Below.refl _ w) (Own.none_ w w.heap.size 3 1 _) hk1
    clear hk1
    obtain ⟨A', c', hv', -⟩ := Own.form hown'
    subst hv'
    go_wp2
    go_ret
    exact ⟨A', c', by simp, by simpa using hown', hb1⟩
theorem info_compI : (Tryz.prog.info? 97).map (fun i => (i.zero, i.size, i.bytes)) = some (some (.agg #[.string ⟨#[]⟩, .int .i64 0]), 2, 24) := by kernel_rfl
theorem clone_comp (n : Nat) (xs : List Value) (v : Value) (F : Nat → Prop) (w : World) (hv : Sl w F 2 v n xs) (h1x : ∀ u ∈ xs, u.oneCell' = true) (hn : n ≤ 1099511627776) :
    Calls Tryz.prog 53 #[v] w fun e w' => ∃ A c, e = .returned (.slice A n c) ∧ Own w' w.heap.size 97 2 (.slice A n c) n xs ∧ Below w.heap.size w w' := by
  obtain ⟨i0, hi0, hz0, hz1, hz2⟩ := info_parts info_compI
  have HN := Lib.hid hn
  clear hn
  obtain ⟨A, c, rfl, h1, h2, h3, h4⟩ := hv
  have hl := h4.1
  rcases A with _ | a
  · have h0 : n = 0 := by have := h3 rfl; omega
    have hx : xs = [] := List.eq_nil_of_length_eq_zero (by omega)
    subst h0 hx
    clear h1 h2 h3 h4 hl
    have hq := fun (w : World) => Lib.run_eql_slice_nil (P := Tryz.prog) w 40 97 none 0 c 0 0 Tryz.underlying40
    go_enter Tryz.func53, Tryz.ntmps53
    go_wp2
    go_ret
    exact ⟨_, _, rfl, Own.none_ _ _ _ _ _, Below.refl _ _⟩
  · have hq := fun (w : World) => Lib.run_eql_slice_nil (P := Tryz.prog) w 40 97 (some a) n c 0 0 Tryz.underlying40
    go_enter Tryz.func53, Tryz.ntmps53
    have hs := (h4.alloc (.cells #[] 97)).src (c := c) (P := Tryz.prog) Tryz.underlying40 h1x (by omega)
    have HS := Lib.hid hs
    clear hs h4
    go_wp2_with (at_builtin; refine wpList_append_gen _ rfl _ _ _ _ rfl w.heap.size 97 i0 _ 2 24 Tryz.underlying40 hi0 hz0 hz1 hz2 rfl _ _ _ rfl (Own.none_ _ _ _ _ _) _ n xs rfl HS.out ?c1 ?c2 ?c3 ?_)
    case c1 => have := HN.out; unfold maxLen; omega
    case c2 => have := HN.out; omega
    case c3 => simp
    intro v' w1 hown' hk1 _
    have hb1 := append_below (Below.refl _ w) (Own.none_ w w.heap.size 97 2 _) hk1
    clear hk1
    obtain ⟨A', c', hv', -⟩ := Own.form hown'
    subst hv'
    go_wp2
    go_ret
    exact ⟨A', c', by simp, by simpa using hown', hb1⟩
section
variable {w : World} {ip : Nat} {vs vf : Value} {a : Na}
theorem id_free (h : IdM w ip vs vf a) : Calls Tryz.prog 39 #[.pointer (some ⟨ip, 0, none⟩)] w fun e w' => ∃ A c, e = .returned (.slice A a.free.length c) ∧ Own w' w.heap.size 3 1 (.slice A a.free.length c) a.free.length (iv (ints a.free)) ∧ Below w.heap.size w w' := by
  obtain ⟨d0, d1, d2, d3, df⟩ := cells4 h.box
  have hfew : a.free.length ≤ 1024 := by
    have := nodup_few a.sl.length a.free h.ok.nodup (fun x hx => (h.ok.fr x hx).1)
    have := h.ok.few
    have := h.ok.ents
    omega
  have CL := Lib.hid (clone_int a.free.length (iv (ints a.free)) vf (fun k => 0 ≤ k) w h.of.sl (fun u hu => by
    obtain ⟨x, _, rfl⟩ := List.mem_map.1 hu
    rfl) (by omega))
  obtain ⟨Af, cF, rfl, -⟩ := h.of.form
  clear h
  go_enter Tryz.func39, Tryz.ntmps39
  go_wp2_with fail
  with_reducible refine CL.out.mono ?_
  rintro e w1 ⟨A1, c1, rfl, h1, h2⟩
  go_wp2
  go_ret
  exact ⟨_, _, rfl, h1, h2⟩
end
def gensI (a : Na) : List Nat := a.sl.map (·.1)
theorem gens_step (l : List (Nat × Bool)) {j : Nat} (h : j < l.length) : (l.take (j + 1)).map (·.1) = (l.take j).map (·.1) ++ [(l.getD j (0, false)).1] := by
  rw [List.take_add_one, List.getElem?_eq_getElem h, List.getD_eq_getElem?_getD, List.getElem?_eq_getElem h, List.map_append]; rfl
theorem wpList_intI {ops : Array Oper} {o : Oper} {rest : List Oper} {a : Act} {w : World} {Q : Exit → Act → World → Prop} (hgd : Region.wanted o (yielded ops a.tmps) = true) (s x : Operand)
    (ho : o.op = .call { callee := .builtin .append, args := #[s, x], argTypes := #[50, 50] }) (B : Nat) (v : Value) (n : Nat) (D : List Nat) (hn : D.length = n) (hv : a.eval s = v) (hown : Own w B 3 1 v n (iv (ints D))) (g : Nat) (y : Nat)
    (hy : a.eval x = .slice (some ⟨g, 0, none⟩) 1 1) (h0 : w.cell? ⟨g, 0, none⟩ = some (.int .i64 (y : Int))) (hk : n ≤ 1099511627776) (hB : B ≤ w.heap.size)
    (h : ∀ A c w', Own w' B 3 1 (.slice A (n + 1) c) (n + 1) (iv (ints (D ++ [y]))) → Keep (fun k => ownB v = some k) w w' → (∀ k', ownB (.slice A (n + 1) c) = some k' → ownB v = some k' ∨ w.heap.size ≤ k') → wpList Tryz.prog ops Q rest (a.put o.dst (.slice A (n + 1) c)) w') :
    wpList Tryz.prog ops Q (o :: rest) a w :=
  wpList_step fun _ hK => step_intI hgd s x ho B v n D hn hv hown g y hy h0 hk hB fun A c w' h1 h2 h3 => hK _ _ (h A c w' h1 h2 h3)
section
variable {w : World} {ip : Nat} {vs vf : Value} {a : Na}
theorem id_gens (h : IdM w ip vs vf a) : Calls Tryz.prog 38 #[.pointer (some ⟨ip, 0, none⟩)] w fun e w' => ∃ A c, e = .returned (.slice A a.sl.length c) ∧ Own w' w.heap.size 3 1 (.slice A a.sl.length c) a.sl.length (iv (ints (gensI a))) ∧ Keep (fun _ => False) w w' := by
  have H := Lib.hid h
  obtain ⟨As, cs, rfl, -⟩ := h.os.form
  obtain ⟨d0, d1, d2, d3, df⟩ := cells4 h.box
  have hle : a.sl.length ≤ 1024 := by have := h.ok.few; have := h.ok.ents; omega
  obtain ⟨n, hn⟩ : ∃ n, a.sl.length = n := ⟨_, rfl⟩
  have HN := Lib.hid hn
  have CT := Lib.hid (show ∀ m, m = n → (a.sl.take m).map (·.1) = gensI a from fun m hm => by rw [List.take_of_length_le (by omega)]; rfl)
  rw [hn] at d0 hle ⊢
  clear h hn
  go_enter Tryz.func38, Tryz.ntmps38
  go_wp2
  go_loopw [3, 13] (fun y i wr => ∃ (j : Nat) (A : Option Addr) (c : Nat), j ≤ n ∧ i = .int .i64 (j : Int) ∧ y = .slice A j c ∧ Hid (Own wr w.heap.size 3 1 (.slice A j c) j (iv (ints ((a.sl.take j).map (·.1))))) ∧ Hid (Keep (fun _ => False) w wr)) (fun _ i _ => n - (intOf i).toNat)
  case atStart => exact ⟨0, none, 0, by omega, rfl, rfl, Lib.hid (Own.none_ _ _ _ _ _), Lib.hid (Keep.refl _ _)⟩
  case round =>
    obtain ⟨j, A2, c2, hj, rfl, rfl, ho, hkw⟩ := hrel
    by_cases hlt : j < n
    · have hi : (j : Int) < (n : Int) := by omega
      have hi0 : (0 : Int) ≤ (j : Int) := by omega
      obtain ⟨gs, cS, hv, -, -, -, -, -, hSc⟩ := own_blkQ H.out.os (by rw [HN.out]; omega)
      rw [HN.out] at hv
      injection hv with e1 e2 e3
      subst e1
      subst e3
      obtain ⟨hSv, hSf⟩ := hSc _ hkw.out
      have s0 := hSv _ _ (slots_at (a := a) (i := j) (by rw [HN.out]; exact hlt)).1
      have s1 := hSv _ _ (slots_at (a := a) (i := j) (by rw [HN.out]; exact hlt)).2
      have ST := Lib.hid (gens_step a.sl (j := j) (by rw [HN.out]; exact hlt))
      have hz := hkw.out.size
      generalize (a.sl.getD j (0, false)).1 = gen at *
      generalize (a.sl.getD j (0, false)).2 = al at *
      clear hSv hSc
      go_wp2_with (at_builtin; refine wpList_intI (by rfl) _ _ (by rfl) w.heap.size _ j ((a.sl.take j).map (·.1)) (by have := HN.out; simp; omega) (by rfl) (ho.out.keep (S := fun _ => False) (by exact (by repeat first | (with_reducible assumption) | (with_reducible exact Keep.refl _ _) | (with_reducible refine Keep.alloc ?_ _) | (with_reducible refine Keep.drew ?_) | (with_reducible refine Keep.drewN ?_ _) | (with_reducible refine Keep.setCell ?_ (.inl (by first | omega | (simp; done) | (simp; omega) | fail)) _))) (fun _ _ h => h)) _ gen (by rfl) (by simp) (by omega) (by simp; omega) ?_)
      intro A6 c6 w6 ho6 hk6 hn6
      have H6 := Lib.hid (And.intro ho6 (hkw.out.trans (T := fun k => ownB (Value.slice A2 j c2) = some k) (Keep.trans (S := fun k => ownB (Value.slice A2 j c2) = some k) (by exact (by repeat first | (with_reducible assumption) | (with_reducible exact Keep.refl _ _) | (with_reducible refine Keep.alloc ?_ _) | (with_reducible refine Keep.drew ?_) | (with_reducible refine Keep.drewN ?_ _) | (with_reducible refine Keep.setCell ?_ (.inl (by first | omega | (simp; done) | (simp; omega) | fail)) _))) hk6 (fun _ _ h => h)) (fun k hk e => by have := (ho.out.ownB k e).1; omega)))
      clear ho6 hk6 hn6
      go_wp2
      go_roundw
      case rel => exact ⟨j + 1, A6, c6, by omega, by go_num, rfl, Lib.hid (by rw [ST.out, List.map_take]; exact H6.out.1), Lib.hid H6.out.2⟩
      case measure => simp [intOf]; omega
    · have hi : ¬ (j : Int) < (n : Int) := by omega
      have EJ : j = n := by omega
      subst EJ
      have OO := Lib.hid (show Own wr w.heap.size 3 1 (.slice A2 j c2) j (iv (ints (gensI a))) from by rw [← CT.out j rfl]; exact ho.out)
      go_wp2
      go_ret
      exact ⟨_, _, rfl, OO.out, hkw.out⟩
end
end Go.Proofs.YtdeifjnhbdkkgaaGreatDoor

/- Contract of vivariumref08.Go where the rows change. -/
import Derived.Test.YtmlbkenbgajkmaaCol5
namespace Go.Proofs.Ytmlbkenbgajkmaa
open Go.RowKit
set_option maxRecDepth 100000
set_option linter.unusedVariables false

theorem info_bytes : (Try.prog.info? 22).map (fun i => (i.zero, i.size, i.bytes)) = some (some (.slice none 0 0), 1, 24) := by kernel_rfl
/-- One element of a slice of the call's own is another. -/
theorem Own.setAt {w : World} {base g n c k : Nat} {e : TypeId} {xs : List Value} (h : Own w base e 1 (.slice (some ⟨g, 0, none⟩) n c) n xs) (hk : k < n) (u : Value) :
    Own (w.setCell ⟨g, k, none⟩ u) base e 1 (.slice (some ⟨g, 0, none⟩) n c) n (xs.set k u) := by
  obtain ⟨hl, A', c', hv, hnc, hc, hg⟩ := h
  injection hv with h1 _ h3
  subst h1 h3
  obtain ⟨g', cur, hgg, hb, hgh, hcs, ht⟩ := hg (by omega)
  injection hgg with hgg
  injection hgg with hgg
  subst hgg
  refine ⟨by rw [List.length_set, hl], _, c, rfl, hnc, hc, fun _ => ⟨g, _, rfl, hb, heap_setCell_same w g k _ _ u hgh, by simpa using hcs, ?_⟩⟩
  rw [← ht, Array.toList_setIfInBounds, List.take_set]
theorem Own.at_ {w : World} {base n : Nat} {e : TypeId} {v : Value} {xs : List Value} (h : Own w base e 1 v n xs) (hn : 0 < n) :
    ∃ g c, v = .slice (some ⟨g, 0, none⟩) n c ∧ n ≤ c ∧ c ≤ maxLen ∧ base ≤ g ∧ g < w.heap.size ∧ (∀ i u, xs[i]? = some u → w.cell? ⟨g, i, none⟩ = some u) ∧ (∀ i, w.frozen? ⟨g, i, none⟩ = false) := by
  obtain ⟨hl, A, c, rfl, hnc, hc, hg⟩ := h
  obtain ⟨g, cur, rfl, hb, hgg, hcs, ht⟩ := hg (by omega)
  refine ⟨g, c, rfl, hnc, hc, hb, (Array.getElem?_eq_some_iff.1 hgg).1, fun i u hu => ?_, fun i => frozen_of_row w g i _ _ hgg⟩
  rw [cell_of_row w g i cur _ _ hgg]
  rw [← ht, List.getElem?_take] at hu
  split at hu
  · simpa using hu
  · cases hu

theorem Own.ne_block {w : World} {base g n c p : Nat} {e t : TypeId} {xs : List Value} {cs : Array Value} {fr : Nat × Nat} (h : Own w base e 1 (.slice (some ⟨g, 0, none⟩) n c) n xs) (hn : 0 < n) (hp : w.heap[p]? = some (.cells cs t fr)) (hne : e ≠ t) : g ≠ p := by
  have := h.ne_cells hp hne
  obtain ⟨_, A, c', hv, hnc, _, _⟩ := h
  injection hv with _ _ h3
  subst h3
  obtain ⟨c', rfl⟩ : ∃ c', c = c' + 1 := ⟨c - 1, by omega⟩
  intro e
  exact this (congrArg some e)
theorem cell_away {w : World} {g k p o : Nat} (h : g ≠ p) (u : Value) : (w.setCell ⟨g, k, none⟩ u).cell? ⟨p, o, none⟩ = w.cell? ⟨p, o, none⟩ :=
  World.cell?_of_block (Below.heap_setCell w ⟨g, k, none⟩ u p (fun e => h e.symm))
theorem frozen_away {w : World} {g k p o : Nat} (h : g ≠ p) (u : Value) : (w.setCell ⟨g, k, none⟩ u).frozen? ⟨p, o, none⟩ = w.frozen? ⟨p, o, none⟩ :=
  World.frozen?_of_block (Below.heap_setCell w ⟨g, k, none⟩ u p (fun e => h e.symm))

theorem heap_alloc_at (w : World) (o : Obj) (k : Nat) (h : k = w.heap.size) : (w.alloc o).heap[k]? = some o := by subst h; exact heap_alloc_new w o
theorem two_cells {W : World} {p : Nat} {t : TypeId} {a b : Value} (h : W.heap[p]? = some (.cells #[a, b] t (0, 0))) (v0 v1 : Value) :
    ((W.setCell ⟨p, 0, none⟩ v0).setCell ⟨p, 1, none⟩ v1).cell? ⟨p, 0, none⟩ = some v0 ∧ ((W.setCell ⟨p, 0, none⟩ v0).setCell ⟨p, 1, none⟩ v1).cell? ⟨p, 1, none⟩ = some v1 := by
  have h2 := heap_setCell_same _ p 1 _ _ v1 (heap_setCell_same W p 0 _ _ v0 h)
  exact ⟨by rw [cell_of_row _ p 0 _ _ _ h2]; rfl, by rw [cell_of_row _ p 1 _ _ _ h2]; rfl⟩
theorem keep_two (W : World) (p : Nat) (v0 v1 : Value) : Keep (fun b => b = p) W ((W.setCell ⟨p, 0, none⟩ v0).setCell ⟨p, 1, none⟩ v1) :=
  Keep.setCell (S := fun b => b = p) (p := ⟨p, 1, none⟩) (Keep.setCell (S := fun b => b = p) (p := ⟨p, 0, none⟩) (Keep.refl _ _) (.inr rfl) _) (.inr rfl) _
theorem bys_own {w : World} {base : Nat} {v : Value} {n : Nat} {cs : List Value} {R : List (List UInt8)} {F : Nat → Prop} {e : TypeId} (h : Own w base e 1 v n cs) (hn : R.length = n) (hr : ∀ (i : Nat) (r : List UInt8), R[i]? = some r → ∃ u, cs[i]? = some u ∧ By w F u r) : Bys w (fun b => F b ∨ base ≤ b) v R := by
  subst hn
  refine ⟨cs, h.sl.mono (fun _ _ h => .inr h), fun i r hi => ?_⟩
  obtain ⟨u, hu, hb⟩ := hr i r hi
  exact ⟨u, hu, hb.mono (fun _ _ h => .inl h)⟩

theorem rgo_set (size n c c2 k : Nat) (A A2 : Option Addr) (R : List (List UInt8)) (l : List UInt8) (F : Nat → Prop) (w : World) (hv : Bys w F (.slice A n c) R) (hd : By w F (.slice A2 size c2) l) (hk : k < n) (hn : n ≤ 1024) :
    Calls Try.prog 61 (rgArgs size A n c 1 k A2 size c2) w (RgoPost w F size (R.set k l, [], 0)) := by
  obtain ⟨i0, hi0, hz0, hz1, hz2⟩ := info_parts info_bytes
  obtain ⟨cs, hsl, hrows⟩ := hv
  obtain ⟨A', c', hv', h1, h2, h3, hrd⟩ := hsl
  injection hv' with e1 hRn e3
  subst e1 e3
  rw [← hRn] at h1 hrd
  have hlen : cs.length = R.length := by have := hrd.1; omega
  have SR := Lib.hid (show ∀ W : World, Keep (fun _ => False) w W → Src Try.prog 1 85 (.slice A n c) n cs W from fun W hk => (hrd.keep hk (fun _ _ _ h => h)).src Try.underlying85 (bys_one hlen hrows) (by omega))
  obtain ⟨u0, hu0⟩ : ∃ u, cs[k]? = some u := ⟨cs[k]'(by omega), List.getElem?_eq_getElem _⟩
  have CK := Lib.hid hu0
  clear hu0
  have FIN := Lib.hid (show ∀ w1 w' g c1, Keep (fun _ => False) w w1 → Own w1 w.heap.size 22 1 (.slice (some ⟨g, 0, none⟩) n c1) n cs → g ≠ w.heap.size + 1 + 1 → Keep (fun b => b = w.heap.size + 1 + 1) (w1.setCell ⟨g, k, none⟩ (.slice A2 size c2)) w' →
      RgoPost w F size (R.set k l, [], 0) (.returned (.tuple #[.agg #[.int .i64 (size : Nat), .slice (some ⟨g, 0, none⟩) n c1], .slice none 0 0, .int .i64 0])) w' from fun w1 w' g c1 k1 ho hg k2 => by
    have ho2 := (ho.setAt hk (.slice A2 size c2)).keep k2 (fun x hx => by
      have := ho.1
      obtain ⟨_, A', c', hv, hnc, _, _⟩ := ho
      injection hv with _ _ h3
      subst h3
      obtain ⟨c', rfl⟩ : ∃ c', c1 = c' + 1 := ⟨c1 - 1, by omega⟩
      have : g = x := by simpa [ownB] using hx
      omega)
    have hgb : w.heap.size ≤ g := (ho.ownB g (by
      obtain ⟨_, A', c', hv, hnc, _, _⟩ := ho
      injection hv with _ _ h3
      subst h3
      obtain ⟨c', rfl⟩ : ∃ c', c1 = c' + 1 := ⟨c1 - 1, by omega⟩
      rfl)).1
    have kk : Keep (fun _ => False) w w' := (k1.setCell (p := ⟨g, k, none⟩) (.inl hgb) (.slice A2 size c2)).trans k2 (fun x hx e => by omega)
    refine ⟨_, _, rfl, bys_own (F := F) ho2 (by rw [List.length_set, hRn]) (fun i r hr => ?_), By.nil _ _, kk.to_below'⟩
    rw [List.getElem?_set] at hr ⊢
    by_cases e : k = i
    · rw [if_pos e] at hr ⊢
      split at hr
      · rw [if_pos (by omega)]
        obtain rfl : l = r := Option.some.inj hr
        exact ⟨_, rfl, hd.keep kk (fun _ _ _ h => h)⟩
      · cases hr
    · rw [if_neg e] at hr ⊢
      obtain ⟨u, hu, hb⟩ := hrows i r hr
      exact ⟨u, hu, hb.keep kk (fun _ _ _ h => h)⟩)
  clear hrows hrd h3 hlen
  have f1 : (0 : Int) ≤ (k : Int) := by omega
  have f2 : (k : Int) < (n : Int) := by omega
  have hsz : ((size : Int) != (size : Int)) = false := by simp
  have H := Lib.hid (And.intro h1 (And.intro h2 (And.intro hRn hd)))
  clear h1 h2 hRn hd
  unfold rgArgs
  go_enter Try.func61, Try.ntmps61
  go_wp2_with (at_builtin; refine wpList_append_gen _ rfl _ _ _ _ rfl w.heap.size 22 i0 _ 1 24 Try.underlying85 hi0 hz0 hz1 hz2 rfl _ _ _ rfl (Own.none_ _ _ _ _ _) _ n _ rfl (SR.out _ ?b1) ?c1 ?c2 ?c3 ?_)
  case b1 => exact Keep.alloc (Keep.alloc (Keep.alloc (Keep.alloc (Keep.refl _ _) _) _) _) _
  case c1 => unfold maxLen; omega
  case c2 => omega
  case c3 => simp; omega
  intro v1 w1 ho1 hk1 _
  have hk1' : Keep (fun _ => False) w w1 := (Keep.alloc (Keep.alloc (Keep.alloc (Keep.alloc (Keep.refl _ _) _) _) _) _).trans hk1 (fun x _ h => by simp [ownB] at h)
  have b0 : w1.heap[w.heap.size]? = some (.cells #[.int .i64 (size : Nat), .slice A n c] 87 (0, 0)) := (hk1.block _ (by first | omega | (simp; done) | (simp; omega)) (by simp [ownB])).trans (by repeat (first | exact heap_alloc_at _ _ _ (by first | rfl | simp) | rw [Below.heap_alloc _ _ _ (by first | (simp; done) | (simp; omega))]))
  have b1 : w1.heap[w.heap.size + 1]? = some (.cells #[.int .i64 1, .int .i64 k, .slice A2 size c2] 92 (0, 0)) := (hk1.block _ (by first | omega | (simp; done) | (simp; omega)) (by simp [ownB])).trans (by repeat (first | exact heap_alloc_at _ _ _ (by first | rfl | simp) | rw [Below.heap_alloc _ _ _ (by first | (simp; done) | (simp; omega))]))
  have b2 : w1.heap[w.heap.size + 1 + 1]? = some (.cells #[.int .i64 0, .slice none 0 0] 87 (0, 0)) := (hk1.block _ (by first | omega | (simp; done) | (simp; omega)) (by simp [ownB])).trans (by repeat (first | exact heap_alloc_at _ _ _ (by first | rfl | simp) | rw [Below.heap_alloc _ _ _ (by first | (simp; done) | (simp; omega))]))
  obtain ⟨g, c1, rfl, q1, q2, q3, q4, q5, q6⟩ := ho1.at_ (by omega)
  have n0 := ho1.ne_block (by omega) b0 (by decide)
  have n1 := ho1.ne_block (by omega) b1 (by decide)
  have n2 := ho1.ne_block (by omega) b2 (by decide)
  have x00 : w1.cell? ⟨w.heap.size, 0, none⟩ = some (.int .i64 (size : Nat)) := by rw [cell_of_row w1 _ 0 _ _ _ b0]; rfl
  have x10 : w1.cell? ⟨w.heap.size + 1, 0, none⟩ = some (.int .i64 1) := by rw [cell_of_row w1 _ 0 _ _ _ b1]; rfl
  have x11 : w1.cell? ⟨w.heap.size + 1, 1, none⟩ = some (.int .i64 k) := by rw [cell_of_row w1 _ 1 _ _ _ b1]; rfl
  have x12 : w1.cell? ⟨w.heap.size + 1, 2, none⟩ = some (.slice A2 size c2) := by rw [cell_of_row w1 _ 2 _ _ _ b1]; rfl
  have x20 : w1.cell? ⟨w.heap.size + 1 + 1, 0, none⟩ = some (.int .i64 0) := by rw [cell_of_row w1 _ 0 _ _ _ b2]; rfl
  have x21 : w1.cell? ⟨w.heap.size + 1 + 1, 1, none⟩ = some (.slice none 0 0) := by rw [cell_of_row w1 _ 1 _ _ _ b2]; rfl
  have x2f := fun i => frozen_of_row w1 _ i _ _ b2
  have y0 := fun i o (u : Value) => cell_away (w := w1) (k := i) (o := o) n0 u
  have y2 := fun i o (u : Value) => cell_away (w := w1) (k := i) (o := o) n2 u
  have y3 := fun i o (u : Value) => frozen_away (w := w1) (k := i) (o := o) n2 u
  have HO := Lib.hid (And.intro ho1 hk1')
  have hb2 : (w1.setCell ⟨g, k, none⟩ (.slice A2 size c2)).heap[w.heap.size + 1 + 1]? = some (.cells #[.int .i64 0, .slice none 0 0] 87 (0, 0)) := (Below.heap_setCell w1 ⟨g, k, none⟩ _ _ (fun e => n2 e.symm)).trans b2
  have Z := Lib.hid (two_cells hb2 (.int .i64 (size : Nat)) (.slice (some ⟨g, 0, none⟩) n c1))
  clear hb2
  have xk := q5 k _ (CK.out)
  have xf := q6 k
  clear q5 q6 ho1 hk1' hk1 b0 b1 b2
  go_wp2
  exact bodyPost_ret (v := .tuple #[.agg #[.int .i64 (size : Nat), .slice (some ⟨g, 0, none⟩) n c1], .slice none 0 0, .int .i64 0]) (by simp [results, Try.results61, go_sem, Z.out.1, Z.out.2]) rfl (FIN.out _ _ _ _ HO.out.2 HO.out.1 n2 (keep_two _ _ _ _))
end Go.Proofs.Ytmlbkenbgajkmaa

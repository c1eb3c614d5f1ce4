/- For the law PartMixed: a list whose cells are cut, joined or turned; such a list of pieces is not joined. No program in sight but the element's type. -/
import Derived.Test.YtakchlaoimnnhaaPartPl
import Derived.Test.YtakchlaoimnnhaaList
namespace Go.Proofs.Ytakchlaoimnnhaa
open Go.RowKit
set_option maxRecDepth 100000
set_option linter.unusedVariables false

/-- A slice of its own that is not empty: its block, read and written. -/
theorem Own.cells_ {w : World} {base n c : Nat} {e : TypeId} {A : Option Addr} {xs : List Value} (h : Own w base e 1 (.slice A n c) n xs) (hn : 0 < n) :
    ∃ g, A = some ⟨g, 0, none⟩ ∧ base ≤ g ∧ g < w.heap.size ∧ (∀ i u, xs[i]? = some u → w.cell? ⟨g, i, none⟩ = some u) ∧ (∀ i, w.frozen? ⟨g, i, none⟩ = false) ∧ ∀ i u, Own (w.setCell ⟨g, i, none⟩ u) base e 1 (.slice A n c) n (xs.set i u) := by
  obtain ⟨hl, A', c', hv, hnc, hc, hg⟩ := h
  injection hv with h1 h2 h3
  subst h1 h3
  obtain ⟨g, cur, rfl, hb, hgg, hs, ht⟩ := hg (by omega)
  refine ⟨g, rfl, hb, (Array.getElem?_eq_some_iff.1 hgg).1, fun i u hu => ?_, fun i => frozen_of_row w g i _ _ hgg, fun i u => ⟨by rw [List.length_set]; exact hl, _, c, rfl, hnc, hc, fun _ => ⟨g, _, rfl, hb, heap_setCell_same _ g i _ _ u hgg, by rw [Array.size_setIfInBounds]; exact hs, ?_⟩⟩⟩
  · rw [cell_of_row w g i _ _ _ hgg]
    rw [← ht, List.getElem?_take] at hu
    split at hu
    · simpa using hu
    · cases hu
  · rw [← ht, Array.toList_setIfInBounds, List.take_set]

/-- The cells zs bear the byte slices Z. -/
def Bear (w : World) (F : Nat → Prop) (zs : List Value) (Z : List (List UInt8)) : Prop :=
  zs.length = Z.length ∧ ∀ (i : Nat) (r : List UInt8), Z[i]? = some r → ∃ u, zs[i]? = some u ∧ By w F u r
section
variable {w w' : World} {F S : Nat → Prop} {zs ys : List Value} {Z Y : List (List UInt8)} {v : Value}
theorem Bear.keep (h : Bear w F zs Z) (hk : Keep S w w') (hs : ∀ b, b < w.heap.size → F b → ¬ S b) : Bear w' F zs Z :=
  ⟨h.1, fun i r hr => by obtain ⟨u, h1, h2⟩ := h.2 i r hr; exact ⟨u, h1, h2.keep hk hs⟩⟩
theorem Bear.take (h : Bear w F zs Z) (k : Nat) : Bear w F (zs.take k) (Z.take k) :=
  ⟨by rw [List.length_take, List.length_take, h.1], fun i r hr => by
    rw [List.getElem?_take] at hr ⊢
    split at hr
    · rename_i hi; rw [if_pos hi]; exact h.2 i r hr
    · cases hr⟩
theorem Bear.drop (h : Bear w F zs Z) (k : Nat) : Bear w F (zs.drop k) (Z.drop k) :=
  ⟨by rw [List.length_drop, List.length_drop, h.1], fun i r hr => by
    rw [List.getElem?_drop] at hr ⊢
    exact h.2 _ r hr⟩
theorem Bear.append (h : Bear w F zs Z) (k : Bear w F ys Y) : Bear w F (zs ++ ys) (Z ++ Y) :=
  ⟨by rw [List.length_append, List.length_append, h.1, k.1], fun i r hr => by
    have hl := h.1
    rcases Nat.lt_or_ge i Z.length with hi | hi
    · rw [List.getElem?_append_left hi] at hr
      rw [List.getElem?_append_left (by omega)]
      exact h.2 i r hr
    · rw [List.getElem?_append_right hi] at hr
      rw [List.getElem?_append_right (by omega), hl]
      exact k.2 _ r hr⟩
theorem Bear.set (h : Bear w F zs Z) {u : Value} {r : List UInt8} (hu : By w F u r) (k : Nat) : Bear w F (zs.set k u) (Z.set k r) :=
  ⟨by rw [List.length_set, List.length_set, h.1], fun i q hq => by
    have hl := h.1
    by_cases hi : k = i
    · subst hi
      rcases Nat.lt_or_ge k Z.length with hk | hk
      · rw [List.getElem?_set_self hk] at hq
        injection hq with hq
        subst hq
        exact ⟨u, by rw [List.getElem?_set_self (by omega)], hu⟩
      · rw [List.getElem?_eq_none (by rw [List.length_set]; exact hk)] at hq
        cases hq
    · rw [List.getElem?_set_ne hi] at hq ⊢
      exact h.2 i q hq⟩
theorem Bear.bys (h : Bear w F zs Z) {G : Nat → Prop} (hs : Sl w G 1 v Z.length zs) (hg : ∀ b, b < w.heap.size → G b → F b) : Bys w F v Z := ⟨zs, hs.mono hg, h.2⟩
end
theorem ListSt.open_ {B : Nat} {w : World} {u : Value} {R : List (List UInt8)} (h : ListSt B w u R) : ∃ cs, Own w B 22 1 u R.length cs ∧ Bear w (fun b => B ≤ b) cs R := by
  obtain ⟨cs, h1, h2⟩ := h
  refine ⟨cs, h1, by have := h1.1; omega, fun i r hr => ?_⟩
  obtain ⟨x, hx, hb⟩ := h2 i r hr
  exact ⟨x, hx, hb.mono (fun _ _ h => h.1)⟩
theorem Bear.one {w : World} {F : Nat → Prop} {zs : List Value} {Z : List (List UInt8)} (h : Bear w F zs Z) : ∀ u ∈ zs, u.oneCell' = true := bys_one h.1 h.2

theorem src_take {W : World} {B n c i g : Nat} {w : World} {cs : List Value} {R : List (List UInt8)} {F : Nat → Prop} (h : Own w B 22 1 (.slice (some ⟨g, 0, none⟩) n c) n cs) (hz : Bear w F cs R) (hi : i ≤ n) (hk : Keep (fun _ => False) w W) :
    Src Try.prog 1 24 (.slice (some ⟨g, 0, none⟩) i c) i (cs.take i) W := by
  obtain ⟨A', c', e, hr⟩ := (h.take hi).form
  injection e with e1 e2 e3
  subst e1 e3
  rw [show cs.take (i * 1) = cs.take i by rw [Nat.mul_one]] at hr
  exact (hr.keep hk (fun _ _ _ h => h)).src (n := i) (size := 1) Try.underlying24 (fun u hu => hz.one u (List.mem_of_mem_take hu)) (by omega)
theorem src_all {W : World} {B n c g : Nat} {w : World} {cs : List Value} {R : List (List UInt8)} {F : Nat → Prop} (h : Own w B 22 1 (.slice (some ⟨g, 0, none⟩) n c) n cs) (hz : Bear w F cs R) (hk : Keep (fun _ => False) w W) :
    Src Try.prog 1 24 (.slice (some ⟨g, 0, none⟩) n c) n cs W := by
  have := src_take h hz (Nat.le_refl n) hk
  rwa [List.take_of_length_le (by have := h.1; omega)] at this
theorem src_drop {W : World} {B n c c' i g : Nat} {w : World} {cs : List Value} {R : List (List UInt8)} {F : Nat → Prop} (h : Own w B 22 1 (.slice (some ⟨g, 0, none⟩) n c) n cs) (hz : Bear w F cs R) (hi : i ≤ n) (hk : Keep (fun _ => False) w W) :
    Src Try.prog 1 24 (.slice (some ⟨g, i, none⟩) (n - i) c') (n - i) (cs.drop i) W := by
  obtain ⟨A1, c1, e, hr⟩ := h.form
  injection e with e1 e2 e3
  subst e1 e3
  have hp := hr.piece (size := 1) (lo := i) (hi := n) (A' := some ⟨g, i, none⟩) hi (by omega) (fun b off e _ => by injection e with e; injection e with e1 e2; subst e1 e2; simp)
  rw [List.take_of_length_le (by rw [List.length_drop]; have := h.1; omega), show cs.drop (i * 1) = cs.drop i by rw [Nat.mul_one]] at hp
  exact (hp.keep hk (fun _ _ _ h => h)).src (n := n - i) (size := 1) Try.underlying24 (fun u hu => hz.one u (List.mem_of_mem_drop hu)) (by omega)
theorem src_none {W : World} {A : Option Addr} {c : Nat} : Src Try.prog 1 24 (.slice A 0 c) 0 [] W :=
  Rd.src (F := fun _ => True) (n := 0) (size := 1) (Rd.nil W _ A) Try.underlying24 (fun u hu => by simp at hu) (by omega)

/-- One piece short. -/
theorem less_not {s n i : Nat} {b : List UInt8} (hs : s ≤ 281474976710656) (hi : i < n) (hn : n ≤ 1024) : joinOk ((pieces s b n).take i ++ (pieces s b n).drop (i + 1)) = false := by
  have hl := pieces_len s b n
  rcases Nat.lt_or_ge 1 n with h1 | h1
  · rcases Nat.eq_zero_or_pos i with h0 | h0
    · subst h0
      refine not_joined (i := 0) (k := 1) (n := n) (seq := s) (c := chunk b 1) ?_ (by omega) (by omega) hs (.inl (by omega))
      rw [List.take_zero, List.nil_append, List.getElem?_drop]
      exact pieces_at h1
    · refine not_joined (i := 0) (k := 0) (n := n) (seq := s) (c := chunk b 0) ?_ (by omega) (by omega) hs (.inr ?_)
      · rw [List.getElem?_append_left (by rw [List.length_take, hl]; omega), List.getElem?_take, if_pos h0]
        exact pieces_at (by omega)
      · rw [List.length_append, List.length_take, List.length_drop, hl]; omega
  · obtain rfl : i = 0 := by omega
    obtain rfl : n = 1 := by omega
    rw [List.take_zero, List.nil_append, List.drop_eq_nil_of_le (by rw [hl]; omega)]
    rfl
/-- One piece of another record. -/
theorem mixed_not {s t n m i : Nat} {a b : List UInt8} (hs : s ≤ 281474976710656) (ht : t ≤ 281474976710656) (hi : i < n) (him : i < m) (hn : n ≤ 1024) (hm : m ≤ 1024) (h1 : 1 < n) (h : s ≠ t ∨ n ≠ m) :
    joinOk ((pieces s a n).set i (hdrB i m t ++ chunk b i)) = false := by
  have hl := pieces_len s a n
  have hat : ((pieces s a n).set i (hdrB i m t ++ chunk b i))[i]? = some (hdrB i m t ++ chunk b i) := List.getElem?_set_self (by omega)
  by_cases hnm : n = m
  · have hst : s ≠ t := h.resolve_right (fun h => h hnm)
    obtain ⟨j, hj, hji⟩ : ∃ j, j < n ∧ i ≠ j := by
      rcases Nat.eq_zero_or_pos i with h0 | h0
      · exact ⟨1, h1, by omega⟩
      · exact ⟨0, by omega, by omega⟩
    exact not_joined2 (i := j) (j := i) (k := j) (n := n) (seq := s) (c := chunk a j) (by rw [List.getElem?_set_ne hji]; exact pieces_at hj) hat (by omega) (by omega) (by omega) (by omega) hs ht hst
  · exact not_joined hat (by omega) (by omega) ht (.inr (by rw [List.length_set, hl]; omega))
/-- Two pieces turned. -/
theorem turned_not {s n i j : Nat} {a : List UInt8} (hs : s ≤ 281474976710656) (hi : i < n) (hj : j < n) (hij : i ≠ j) (hn : n ≤ 1024) :
    joinOk (((pieces s a n).set i (hdrB j n s ++ chunk a j)).set j (hdrB i n s ++ chunk a i)) = false := by
  have hl := pieces_len s a n
  refine not_joined (i := j) (k := i) (n := n) (seq := s) (c := chunk a i) (List.getElem?_set_self (by rw [List.length_set]; omega)) (by omega) (by omega) hs (.inl hij)
end Go.Proofs.Ytakchlaoimnnhaa

/- A slice of structs that came in: its elements' cells, one after the other. -/
import Derived.Test.YthkgchlndfcmpaaArgs
import Derived.Deep.Slices
import Derived.Lib.SmallJoins
namespace Go.Proofs.Ythkgchlndfcmpaa
open Go.ChangeShapes Go.WideShapes Go.ChangeAt Go.RowKit
set_option maxRecDepth 100000

theorem flat_len {α : Type} {f : α → List Value} {m : Nat} (hf : ∀ x, (f x).length = m) (l : List α) : (l.flatMap f).length = l.length * m := by
  induction l with
  | nil => simp
  | cons x l ih => rw [List.flatMap_cons, List.length_append, hf, ih, List.length_cons, Nat.succ_mul]; omega
theorem flat_at {α : Type} {f : α → List Value} {m : Nat} (hf : ∀ x, (f x).length = m) {l : List α} {i j : Nat} {x : α} {u : Value} (hx : l[i]? = some x) (hu : (f x)[j]? = some u) : (l.flatMap f)[i * m + j]? = some u := by
  induction l generalizing i with
  | nil => simp at hx
  | cons y l ih =>
    rw [List.flatMap_cons]
    have hj : j < m := by rw [← hf x]; exact (List.getElem?_eq_some_iff.1 hu).1
    match i with
    | 0 =>
      simp at hx
      subst hx
      rw [Nat.zero_mul, Nat.zero_add, List.getElem?_append_left (by rw [hf]; exact hj)]
      exact hu
    | i + 1 =>
      rw [List.getElem?_append_right (by rw [hf, Nat.succ_mul]; omega), hf, show (i + 1) * m + j - m = i * m + j by rw [Nat.succ_mul]; omega]
      exact ih (by simpa using hx)
theorem flat_of {α : Type} {f : α → List Value} {m : Nat} (hf : ∀ x, (f x).length = m) {l : List α} {i : Nat} {u : Value} (h : (l.flatMap f)[i]? = some u) : ∃ k j x, l[k]? = some x ∧ (f x)[j]? = some u ∧ i = k * m + j ∧ j < m := by
  induction l generalizing i with
  | nil => simp at h
  | cons y l ih =>
    rw [List.flatMap_cons] at h
    rcases Nat.lt_or_ge i m with hi | hi
    · rw [List.getElem?_append_left (by rw [hf]; exact hi)] at h
      exact ⟨0, i, y, rfl, h, by omega, hi⟩
    · rw [List.getElem?_append_right (by rw [hf]; exact hi), hf] at h
      obtain ⟨k, j, x, h1, h2, h3, h4⟩ := ih h
      exact ⟨k + 1, j, x, by simpa using h1, h2, by rw [Nat.succ_mul]; omega, h4⟩

/-- A slice of structs that came in, element by element. -/
def ArgSt {α : Type} (f : α → List Value) (m : Nat) (ok : α → Prop) (w : World) (A : Option Addr) (len cap : Nat) (l : List α) : Prop :=
  len ≤ cap ∧ cap ≤ maxLen ∧ Rd w (fun _ => True) A (len * m) (l.flatMap f) ∧ l.length = len ∧ (∀ x ∈ l, ok x) ∧ (A = none → cap = 0)

theorem argSt {H : Type} {enc : TypeId × Value → H} {P : Program} {w : World} {base : Nat} {spare : Nat → Bool} {held : Bool} {T E : TypeId} {A : Option Addr} {len cap : Nat} {d : DataW H} {p : List MemPlace} {α : Type} [Inhabited α]
    {f : α → List Value} {m : Nat} {ok : α → Prop} (hf : ∀ x, (f x).length = m) (hm0 : 0 < m)
    (hT : P.underlying T = some (.slice E)) (hC : P.cellsOf E = m)
    (hE : ∀ n cs x, cs.length = m → DataW.trod enc P w base spare held n E cs = some x → ∃ y, cs = f y ∧ ok y)
    (h : DataW.Trod enc P w base spare held T (.slice A len cap) d p) : ∃ l, ArgSt f m ok w A len cap l := by
  obtain ⟨fuel, hfu⟩ := h
  rcases Deep.open_slice hT hfu with ⟨hcs, _⟩ | ⟨a, l, c, k, n, D, Pl, hcs, _, hl, hmx, hk, _, hx⟩
  · simp [Value.cells] at hcs
    obtain ⟨rfl, rfl, rfl⟩ := hcs
    exact ⟨[], Nat.le_refl _, Nat.zero_le _, by rw [Nat.zero_mul]; exact Rd.nil _ _ _, rfl, fun n hn => (by cases hn), fun _ => rfl⟩
  · simp [Value.cells] at hcs
    obtain ⟨rfl, rfl, rfl⟩ := hcs
    have hlk : len ≤ k := by rw [hk]; split <;> omega
    have each : ∀ i, i < len → ∃ y : α, ok y ∧ ∀ j u, (f y)[j]? = some u → w.cell? (a.add (i * m + j)) = some u := by
      intro i hi
      obtain ⟨cs', h1, h2⟩ := hx i (by omega)
      rw [hC] at h1
      obtain ⟨_, hlen, hcell⟩ := World.cells?_some h1
      obtain ⟨y, rfl, hy⟩ := hE _ _ _ hlen h2
      refine ⟨y, hy, fun j u hu => ?_⟩
      obtain ⟨hj, e⟩ := List.getElem?_eq_some_iff.1 hu
      have hc := hcell j (by rw [← hlen]; exact hj)
      rw [Deep.add_add] at hc
      rw [hc]
      simpa using hu
    obtain ⟨Y, hY⟩ := Deep.choose_lt each
    refine ⟨(List.range len).map Y, hl, hmx, ⟨by rw [flat_len hf]; simp, fun h0 => ?_⟩, by simp, fun x hx => ?_, fun h => by cases h⟩
    · obtain ⟨b, off, spot⟩ := a
      have hl0 : 0 < len := Nat.pos_of_mul_pos_right h0
      have h00 := (hY 0 hl0).2 0 ((f (Y 0))[0]'(by rw [hf]; exact hm0)) (List.getElem?_eq_getElem _)
      have hspot : spot = none := by simpa [Addr.add] using World.cell?_spot h00
      subst hspot
      refine ⟨b, off, rfl, trivial, fun i u hu => ?_⟩
      obtain ⟨k', j, x, e1, e2, rfl, _⟩ := flat_of hf hu
      rw [List.getElem?_map] at e1
      cases hr : (List.range len)[k']? with
      | none => rw [hr] at e1; cases e1
      | some q =>
        rw [hr] at e1
        obtain ⟨hq, e3⟩ := List.getElem?_eq_some_iff.1 hr
        simp at e1 e3 hq
        subst e3 e1
        have := (hY k' hq).2 j u e2
        have e : (⟨b, off, none⟩ : Addr).add (k' * m + j) = ⟨b, off + (k' * m + j), none⟩ := by unfold Addr.add; split <;> simp_all
        rwa [e] at this
    · obtain ⟨i, hi, rfl⟩ := List.mem_map.1 hx
      exact (hY i (by simpa using hi)).1

/-- Element k's cells. -/
theorem flat_cells {α : Type} {f : α → List Value} {m : Nat} {w : World} {A : Option Addr} {len : Nat} {l : List α} (hf : ∀ x, (f x).length = m) {F : Nat → Prop} (h : Rd w F A (len * m) (l.flatMap f)) (hl : l.length = len) (hm : 0 < m) {k : Nat} (hk : k < len) :
    ∃ b off x, A = some ⟨b, off, none⟩ ∧ F b ∧ l[k]? = some x ∧ ∀ j u, (f x)[j]? = some u → w.cell? ⟨b, off + k * m + j, none⟩ = some u := by
  obtain ⟨b, off, e, hF, hc⟩ := h.2 (Nat.mul_pos (by omega) hm)
  have hx := List.getElem?_eq_getElem (l := l) (i := k) (by omega)
  refine ⟨b, off, _, e, hF, hx, fun j u hu => ?_⟩
  rw [Nat.add_assoc]
  exact hc _ u (flat_at hf hx hu)
end Go.Proofs.Ythkgchlndfcmpaa

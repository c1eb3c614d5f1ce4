/- A slice of structs that came in: its elements' cells, one after the other. -/
import Derived.Test.YthkgchlndfcmpaaArgs
import Derived.Deep.Slices
import Derived.Lib.SmallJoins
import Derived.Test.YthkgchlndfcmpaaLe1
namespace Go.Proofs.Ythkgchlndfcmpaa
open Go.ChangeShapes Go.WideShapes Go.ChangeAt Go.RowKit
set_option maxRecDepth 100000

theorem flat_len {α : Type} {f : α → List Value} {m : Nat} (hf : ∀ x, (f x).length = m) (l : List α) : (l.flatMap f).length = l.length * m := by
  induction l with
  | nil => simp
  | cons x l ih => rw [List.flatMap_cons, List.length_append, hf, ih, List.length_cons, Nat.succ_mul]; omega
theorem flat_at {α : Type} {f : α → List Value} {m : Nat} (hf : ∀ x, (f x).length = m) {l : List α} {i j : Nat} {x : α} {u : Value} (hx : l[i]? = some x) (hu : (f x)[j]? = some u) : (l.flatMap f)[i * m + j]? = some u := by
  induction l generalizing i with
  | nil => simp at hx
  | cons y l ih =>
    rw [List.flatMap_cons]
    have hj : j < m := by rw [← hf x]; exact (List.getElem?_eq_some_iff.1 hu).1
    match i with
    | 0 =>
      simp at hx
      subst hx
      rw [Nat.zero_mul, Nat.zero_add, List.getElem?_append_left (by rw [hf]; exact hj)]
      exact hu
    | i + 1 =>
      rw [List.getElem?_append_right (by rw [hf, Nat.succ_mul]; omega), hf, show (i + 1) * m + j - m = i * m + j by rw [Nat.succ_mul]; omega]
      exact ih (by simpa using hx)
theorem flat_of {α : Type} {f : α → List Value} {m : Nat} (hf : ∀ x, (f x).length = m) {l : List α} {i : Nat} {u : Value} (h : (l.flatMap f)[i]? = some u) : ∃ k j x, l[k]? = some x ∧ (f x)[j]? = some u ∧ i = k * m + j ∧ j < m := by
  induction l generalizing i with
  | nil => simp at h
  | cons y l ih =>
    rw [List.flatMap_cons] at h
    rcases Nat.lt_or_ge i m with hi | hi
    · rw [List.getElem?_append_left (by rw [hf]; exact hi)] at h
      exact ⟨0, i, y, rfl, h, by omega, hi⟩
    · rw [List.getElem?_append_right (by rw [hf]; exact hi), hf] at h
      obtain ⟨k, j, x, h1, h2, h3, h4⟩ := ih h
      exact ⟨k + 1, j, x, by simpa using h1, h2, by rw [Nat.succ_mul]; omega, h4⟩

/-- A slice of structs that came in, element by element. -/
def ArgSt {α : Type} (f : α → List Value) (m : Nat) (ok : α → Prop) (w : World) (A : Option Addr) (len cap : Nat) (l : List α) : Prop :=
  len ≤ cap ∧ cap ≤ maxLen ∧ Rd w (fun _ => True) A (len * m) (l.flatMap f) ∧ l.length = len ∧ (∀ x ∈ l, ok x) ∧ (A = none → cap = 0)

theorem argSt {H : Type} {enc : TypeId × Value → H} {P : Program} {w : World} {base : Nat} {spare : Nat → Bool} {held : Bool} {T E : TypeId} {A : Option Addr} {len cap : Nat} {d : DataW H} {p : List MemPlace} {α : Type} [Inhabited α]
    {f : α → List Value} {m : Nat} {ok : α → Prop} (hf : ∀ x, (f x).length = m) (hm0 : 0 < m)
    (hT : P.underlying T = some (.slice E)) (hC : P.cellsOf E = m)
    (hE : ∀ n cs x, cs.length = m → DataW.trod enc P w base spare held n E cs = some x → ∃ y, cs = f y ∧ ok y)
    (h : DataW.Trod enc P w base spare held T (.slice A len cap) d p) : ∃ l, ArgSt f m ok w A len cap l := by
  obtain ⟨fuel, hfu⟩ := h
  rcases Deep.open_slice hT hfu with ⟨hcs, _⟩ | ⟨a, l, c, k, n, D, Pl, hcs, _, hl, hmx, hk, _, hx⟩
  · simp [Value.cells] at hcs
    obtain ⟨rfl, rfl, rfl⟩ := hcs
    exact ⟨[], Nat.le_refl _, Nat.zero_le _, by rw [Nat.zero_mul]; exact Rd.nil _ _ _, rfl, fun n hn => (by cases hn), fun _ => rfl⟩
  · simp [Value.cells] at hcs
    obtain ⟨rfl, rfl, rfl⟩ := hcs
    have hlk : len ≤ k := by rw [hk]; split <;> omega
    have each : ∀ i, i < len → ∃ y : α, ok y ∧ ∀ j u, (f y)[j]? = some u → w.cell? (a.add (i * m + j)) = some u := by
      intro i hi
      obtain ⟨cs', h1, h2⟩ := hx i (by omega)
      rw [hC] at h1
      obtain ⟨_, hlen, hcell⟩ := World.cells?_some h1
      obtain ⟨y, rfl, hy⟩ := hE _ _ _ hlen h2
      refine ⟨y, hy, fun j u hu => ?_⟩
      obtain ⟨hj, e⟩ := List.getElem?_eq_some_iff.1 hu
      have hc := hcell j (by rw [← hlen]; exact hj)
      rw [Deep.add_add] at hc
      rw [hc]
      simpa using hu
    obtain ⟨Y, hY⟩ := Deep.choose_lt each
    refine ⟨(List.range len).map Y, hl, hmx, ⟨by rw [flat_len hf]; simp, fun h0 => ?_⟩, by simp, fun x hx => ?_, fun h => by cases h⟩
    · obtain ⟨b, off, spot⟩ := a
      have hl0 : 0 < len := Nat.pos_of_mul_pos_right h0
      have h00 := (hY 0 hl0).2 0 ((f (Y 0))[0]'(by rw [hf]; exact hm0)) (List.getElem?_eq_getElem _)
      have hspot : spot = none := by simpa [Addr.add] using World.cell?_spot h00
      subst hspot
      refine ⟨b, off, rfl, trivial, fun i u hu => ?_⟩
      obtain ⟨k', j, x, e1, e2, rfl, _⟩ := flat_of hf hu
      rw [List.getElem?_map] at e1
      cases hr : (List.range len)[k']? with
      | none => rw [hr] at e1; cases e1
      | some q =>
        rw [hr] at e1
        obtain ⟨hq, e3⟩ := List.getElem?_eq_some_iff.1 hr
        simp at e1 e3 hq
        subst e3 e1
        have := (hY k' hq).2 j u e2
        have e : (⟨b, off, none⟩ : Addr).add (k' * m + j) = ⟨b, off + (k' * m + j), none⟩ := by unfold Addr.add; split <;> simp_all
        rwa [e] at this
    · obtain ⟨i, hi, rfl⟩ := List.mem_map.1 hx
      exact (hY i (by simpa using hi)).1

/-- Element k's cells. -/
theorem flat_cells {α : Type} {f : α → List Value} {m : Nat} {w : World} {A : Option Addr} {len : Nat} {l : List α} (hf : ∀ x, (f x).length = m) {F : Nat → Prop} (h : Rd w F A (len * m) (l.flatMap f)) (hl : l.length = len) (hm : 0 < m) {k : Nat} (hk : k < len) :
    ∃ b off x, A = some ⟨b, off, none⟩ ∧ F b ∧ l[k]? = some x ∧ ∀ j u, (f x)[j]? = some u → w.cell? ⟨b, off + k * m + j, none⟩ = some u := by
  obtain ⟨b, off, e, hF, hc⟩ := h.2 (Nat.mul_pos (by omega) hm)
  have hx := List.getElem?_eq_getElem (l := l) (i := k) (by omega)
  refine ⟨b, off, _, e, hF, hx, fun j u hu => ?_⟩
  rw [Nat.add_assoc]
  exact hc _ u (flat_at hf hx hu)
end Go.Proofs.Ythkgchlndfcmpaa
namespace Go.Proofs.Ythkgchlndfcmpaa
open Go.ChangeShapes Go.WideShapes Go.ChangeAt Go.RowKit
set_option maxRecDepth 100000

theorem bytes_of (zs : List Int) (h : ∀ n ∈ zs, (Lit.int .u8 n).wf = true) : ∃ l : List UInt8, zs.map (Value.int .u8) = bv l ∧ l.length = zs.length := by
  refine ⟨zs.map fun n => UInt8.ofNat n.toNat, ?_, by simp⟩
  unfold bv
  rw [List.map_map]
  refine List.map_congr_left fun n hn => ?_
  have := wf_u8 (h n hn)
  show Value.int .u8 n = Value.int .u8 ((UInt8.ofNat n.toNat).toNat : Int)
  rw [u8_toNat]
  congr 1
  omega
theorem argBy {w : World} {A : Option Addr} {len cap : Nat} {zs : List Int} (h : ArgRow .u8 w A len cap zs) : ∃ l : List UInt8, By w (fun _ => True) (.slice A len cap) l ∧ l.length = len := by
  obtain ⟨h1, h2, h3, h4, h5⟩ := h
  obtain ⟨l, hl, hn⟩ := bytes_of zs h4
  have hz : zs.length = len := by have := h3.1; simpa using this
  rw [hl] at h3
  refine ⟨l, ⟨A, cap, ?_, by omega, h2, h5, ?_⟩, by omega⟩
  · rw [show l.length = len by omega]
  · rw [Nat.mul_one, show l.length = len by omega]; exact h3
end Go.Proofs.Ythkgchlndfcmpaa
namespace Go.Proofs.Ythkgchlndfcmpaa
open Go.ChangeShapes Go.WideShapes Go.ChangeAt Go.RowKit
set_option maxRecDepth 100000

/-- The slice value v reads as these byte slices; all lies in blocks of F. -/
def Bys (w : World) (F : Nat → Prop) (v : Value) (R : List (List UInt8)) : Prop :=
  ∃ cs, Sl w F 1 v R.length cs ∧ ∀ (i : Nat) (r : List UInt8), R[i]? = some r → ∃ u, cs[i]? = some u ∧ By w F u r
section
variable {F G S : Nat → Prop} {w w' : World} {v : Value} {R : List (List UInt8)}
theorem By.keep {l : List UInt8} (h : By w F v l) (hk : Keep S w w') (hs : ∀ b, b < w.heap.size → F b → ¬ S b) : By w' F v l := Sl.keep h hk hs
theorem By.below {l : List UInt8} (h : By w F v l) (hb : Below w.heap.size w w') : By w' F v l := Sl.below h hb
theorem By.mono {l : List UInt8} (h : By w F v l) (hf : ∀ b, b < w.heap.size → F b → G b) : By w G v l := Sl.mono h hf
theorem Bys.keep (h : Bys w F v R) (hk : Keep S w w') (hs : ∀ b, b < w.heap.size → F b → ¬ S b) : Bys w' F v R := by
  obtain ⟨cs, h1, h2⟩ := h
  refine ⟨cs, h1.keep hk hs, fun i r hr => ?_⟩
  obtain ⟨u, hu, hb⟩ := h2 i r hr
  exact ⟨u, hu, hb.keep hk hs⟩
theorem Bys.below (h : Bys w F v R) (hb : Below w.heap.size w w') : Bys w' F v R := h.keep (Keep.of_below' hb) (fun _ _ _ h => h)
theorem Bys.alloc (h : Bys w F v R) (o : Obj) : Bys (w.alloc o) F v R := h.keep ((Keep.refl (fun _ => False) w).alloc o) (fun _ _ _ h => h)
theorem Bys.drewN (h : Bys w F v R) (k : Nat) : Bys (w.drewN k) F v R := h.keep ((Keep.refl (fun _ => False) w).drewN k) (fun _ _ _ h => h)
theorem Bys.mono (h : Bys w F v R) (hf : ∀ b, b < w.heap.size → F b → G b) : Bys w G v R := by
  obtain ⟨cs, h1, h2⟩ := h
  refine ⟨cs, h1.mono hf, fun i r hr => ?_⟩
  obtain ⟨u, hu, hb⟩ := h2 i r hr
  exact ⟨u, hu, hb.mono hf⟩
theorem Bys.nil (w : World) (F : Nat → Prop) : Bys w F (.slice none 0 0) [] := ⟨[], Sl.nil w F 1, fun i r hr => by simp at hr⟩
/-- Its form, and the place of each. -/
theorem Bys.form (h : Bys w F v R) : ∃ A c, v = .slice A R.length c ∧ R.length ≤ c ∧ c ≤ maxLen ∧ ∀ k, k < R.length → ∃ b off u, A = some ⟨b, off, none⟩ ∧ w.cell? ⟨b, off + k, none⟩ = some u ∧ By w F u (R.getD k []) := by
  obtain ⟨cs, ⟨A, c, rfl, h1, h2, h3, h4⟩, h5⟩ := h
  refine ⟨A, c, rfl, h1, h2, fun k hk => ?_⟩
  rw [Nat.mul_one] at h4
  obtain ⟨b, off, rfl, _, hc⟩ := h4.at_ hk
  obtain ⟨u, hu, hb⟩ := h5 k (R.getD k []) (by rw [List.getD_eq_getElem?_getD, List.getElem?_eq_getElem hk]; rfl)
  exact ⟨b, off, u, rfl, hc k u hu, hb⟩
end

/-- Cells that hold byte slices are one cell each. -/
theorem bys_one {w : World} {F : Nat → Prop} {cs : List Value} {R : List (List UInt8)} (hl : cs.length = R.length) (h : ∀ (i : Nat) (r : List UInt8), R[i]? = some r → ∃ u, cs[i]? = some u ∧ By w F u r) : ∀ u ∈ cs, u.oneCell' = true := by
  intro u hu
  obtain ⟨i, hi, rfl⟩ := List.mem_iff_getElem.1 hu
  obtain ⟨u, e, A, c, rfl, _⟩ := h i (R[i]'(by omega)) (List.getElem?_eq_getElem _)
  rw [List.getElem?_eq_getElem hi] at e
  injection e with e
  rw [e]; rfl

/-- A field of bytes that came in. -/
theorem trod_by {H : Type} {enc : TypeId × Value → H} {P : Program} {w : World} {base : Nat} {spare : Nat → Bool} {held : Bool} {T E : TypeId} {fuel : Nat} {cs : List Value} {x : DataW H × List MemPlace}
    (hT : P.underlying T = some (.slice E)) (hE : P.underlying E = some (.int .u8)) (hC : P.cellsOf E = 1) (h : DataW.trod enc P w base spare held fuel T cs = some x) :
    ∃ A len cap l, cs = [.slice A len cap] ∧ By w (fun _ => True) (.slice A len cap) l ∧ l.length = len := by
  obtain ⟨A, len, cap, rfl⟩ := Joins.slice_form hT h
  obtain ⟨zs, hz⟩ := argRow (enc := enc) (base := base) (spare := spare) (held := held) (d := x.1) (p := x.2) hT hE hC ⟨fuel, by simpa [Value.cells] using h⟩
  obtain ⟨l, hl, hn⟩ := argBy hz
  exact ⟨A, len, cap, l, rfl, hl, hn⟩

theorem flatMap_one {α β : Type} (f : α → β) (l : List α) : l.flatMap (fun y => [f y]) = l.map f := by
  induction l with
  | nil => rfl
  | cons x l ih => rw [List.flatMap_cons, List.map_cons, ih]; rfl
/-- A slice of byte slices that came in. -/
theorem argBys {H : Type} {enc : TypeId × Value → H} {P : Program} {w : World} {base : Nat} {spare : Nat → Bool} {held : Bool} {T E U : TypeId} {A : Option Addr} {len cap : Nat} {d : DataW H} {p : List MemPlace}
    (hT : P.underlying T = some (.slice E)) (hE : P.underlying E = some (.slice U)) (hU : P.underlying U = some (.int .u8)) (hCE : P.cellsOf E = 1) (hCU : P.cellsOf U = 1)
    (h : DataW.Trod enc P w base spare held T (.slice A len cap) d p) : ∃ R, Bys w (fun _ => True) (.slice A len cap) R ∧ R.length = len := by
  obtain ⟨l, h1, h2, h3, h4, h5, h6⟩ := argSt (α := Value × List UInt8) (f := fun y => [y.1]) (m := 1) (ok := fun y => By w (fun _ => True) y.1 y.2) (fun _ => rfl) (by omega) hT hCE (fun n cs x hl hx => by
    obtain ⟨A, len, cap, l, rfl, hb, _⟩ := trod_by hE hU hCU hx
    exact ⟨(_, l), rfl, hb⟩) h
  rw [flatMap_one] at h3
  refine ⟨l.map (·.2), ⟨l.map (·.1), ⟨A, cap, ?_, ?_, h2, h6, ?_⟩, fun i r hr => ?_⟩, by simpa using h4⟩
  · rw [List.length_map, h4]
  · rw [List.length_map, h4]; exact h1
  · rw [List.length_map, h4]; exact h3
  · rw [List.getElem?_map] at hr
    cases hl : l[i]? with
    | none => rw [hl] at hr; cases hr
    | some y =>
      rw [hl] at hr
      simp at hr
      subst hr
      exact ⟨y.1, by rw [List.getElem?_map, hl]; rfl, h5 y (List.mem_of_getElem? hl)⟩
end Go.Proofs.Ythkgchlndfcmpaa

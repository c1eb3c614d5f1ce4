/- Slices of byte slices: in memory, as arguments; vivariumref17.Same where the seat has it. -/
import Derived.Test.YthkgchlndfcmpaaArgS
import Derived.Test.YthkgchlndfcmpaaArgsB
namespace Go.Proofs.Ythkgchlndfcmpaa
open Go.ChangeShapes Go.WideShapes Go.ChangeAt Go.RowKit
set_option maxRecDepth 100000

/-- The slice value v reads as these byte slices; all lies in blocks of F. -/
def Bys (w : World) (F : Nat → Prop) (v : Value) (R : List (List UInt8)) : Prop :=
  ∃ cs, Sl w F 1 v R.length cs ∧ ∀ (i : Nat) (r : List UInt8), R[i]? = some r → ∃ u, cs[i]? = some u ∧ By w F u r
section
variable {F G S : Nat → Prop} {w w' : World} {v : Value} {R : List (List UInt8)}
theorem By.keep {l : List UInt8} (h : By w F v l) (hk : Keep S w w') (hs : ∀ b, b < w.heap.size → F b → ¬ S b) : By w' F v l := Sl.keep h hk hs
theorem By.below {l : List UInt8} (h : By w F v l) (hb : Below w.heap.size w w') : By w' F v l := Sl.below h hb
theorem By.mono {l : List UInt8} (h : By w F v l) (hf : ∀ b, b < w.heap.size → F b → G b) : By w G v l := Sl.mono h hf
theorem Bys.keep (h : Bys w F v R) (hk : Keep S w w') (hs : ∀ b, b < w.heap.size → F b → ¬ S b) : Bys w' F v R := by
  obtain ⟨cs, h1, h2⟩ := h
  refine ⟨cs, h1.keep hk hs, fun i r hr => ?_⟩
  obtain ⟨u, hu, hb⟩ := h2 i r hr
  exact ⟨u, hu, hb.keep hk hs⟩
theorem Bys.below (h : Bys w F v R) (hb : Below w.heap.size w w') : Bys w' F v R := h.keep (Keep.of_below' hb) (fun _ _ _ h => h)
theorem Bys.alloc (h : Bys w F v R) (o : Obj) : Bys (w.alloc o) F v R := h.keep ((Keep.refl (fun _ => False) w).alloc o) (fun _ _ _ h => h)
theorem Bys.drewN (h : Bys w F v R) (k : Nat) : Bys (w.drewN k) F v R := h.keep ((Keep.refl (fun _ => False) w).drewN k) (fun _ _ _ h => h)
theorem Bys.mono (h : Bys w F v R) (hf : ∀ b, b < w.heap.size → F b → G b) : Bys w G v R := by
  obtain ⟨cs, h1, h2⟩ := h
  refine ⟨cs, h1.mono hf, fun i r hr => ?_⟩
  obtain ⟨u, hu, hb⟩ := h2 i r hr
  exact ⟨u, hu, hb.mono hf⟩
theorem Bys.nil (w : World) (F : Nat → Prop) : Bys w F (.slice none 0 0) [] := ⟨[], Sl.nil w F 1, fun i r hr => by simp at hr⟩
/-- Its form, and the place of each. -/
theorem Bys.form (h : Bys w F v R) : ∃ A c, v = .slice A R.length c ∧ R.length ≤ c ∧ c ≤ maxLen ∧ ∀ k, k < R.length → ∃ b off u, A = some ⟨b, off, none⟩ ∧ w.cell? ⟨b, off + k, none⟩ = some u ∧ By w F u (R.getD k []) := by
  obtain ⟨cs, ⟨A, c, rfl, h1, h2, h3, h4⟩, h5⟩ := h
  refine ⟨A, c, rfl, h1, h2, fun k hk => ?_⟩
  rw [Nat.mul_one] at h4
  obtain ⟨b, off, rfl, _, hc⟩ := h4.at_ hk
  obtain ⟨u, hu, hb⟩ := h5 k (R.getD k []) (by rw [List.getD_eq_getElem?_getD, List.getElem?_eq_getElem hk]; rfl)
  exact ⟨b, off, u, rfl, hc k u hu, hb⟩
end

/-- Cells that hold byte slices are one cell each. -/
theorem bys_one {w : World} {F : Nat → Prop} {cs : List Value} {R : List (List UInt8)} (hl : cs.length = R.length) (h : ∀ (i : Nat) (r : List UInt8), R[i]? = some r → ∃ u, cs[i]? = some u ∧ By w F u r) : ∀ u ∈ cs, u.oneCell' = true := by
  intro u hu
  obtain ⟨i, hi, rfl⟩ := List.mem_iff_getElem.1 hu
  obtain ⟨u, e, A, c, rfl, _⟩ := h i (R[i]'(by omega)) (List.getElem?_eq_getElem _)
  rw [List.getElem?_eq_getElem hi] at e
  injection e with e
  rw [e]; rfl

/-- A field of bytes that came in. -/
theorem trod_by {H : Type} {enc : TypeId × Value → H} {P : Program} {w : World} {base : Nat} {spare : Nat → Bool} {held : Bool} {T E : TypeId} {fuel : Nat} {cs : List Value} {x : DataW H × List MemPlace}
    (hT : P.underlying T = some (.slice E)) (hE : P.underlying E = some (.int .u8)) (hC : P.cellsOf E = 1) (h : DataW.trod enc P w base spare held fuel T cs = some x) :
    ∃ A len cap l, cs = [.slice A len cap] ∧ By w (fun _ => True) (.slice A len cap) l ∧ l.length = len := by
  obtain ⟨A, len, cap, rfl⟩ := Joins.slice_form hT h
  obtain ⟨zs, hz⟩ := argRow (enc := enc) (base := base) (spare := spare) (held := held) (d := x.1) (p := x.2) hT hE hC ⟨fuel, by simpa [Value.cells] using h⟩
  obtain ⟨l, hl, hn⟩ := argBy hz
  exact ⟨A, len, cap, l, rfl, hl, hn⟩

theorem flatMap_one {α β : Type} (f : α → β) (l : List α) : l.flatMap (fun y => [f y]) = l.map f := by
  induction l with
  | nil => rfl
  | cons x l ih => rw [List.flatMap_cons, List.map_cons, ih]; rfl
/-- A slice of byte slices that came in. -/
theorem argBys {H : Type} {enc : TypeId × Value → H} {P : Program} {w : World} {base : Nat} {spare : Nat → Bool} {held : Bool} {T E U : TypeId} {A : Option Addr} {len cap : Nat} {d : DataW H} {p : List MemPlace}
    (hT : P.underlying T = some (.slice E)) (hE : P.underlying E = some (.slice U)) (hU : P.underlying U = some (.int .u8)) (hCE : P.cellsOf E = 1) (hCU : P.cellsOf U = 1)
    (h : DataW.Trod enc P w base spare held T (.slice A len cap) d p) : ∃ R, Bys w (fun _ => True) (.slice A len cap) R ∧ R.length = len := by
  obtain ⟨l, h1, h2, h3, h4, h5, h6⟩ := argSt (α := Value × List UInt8) (f := fun y => [y.1]) (m := 1) (ok := fun y => By w (fun _ => True) y.1 y.2) (fun _ => rfl) (by omega) hT hCE (fun n cs x hl hx => by
    obtain ⟨A, len, cap, l, rfl, hb, _⟩ := trod_by hE hU hCU hx
    exact ⟨(_, l), rfl, hb⟩) h
  rw [flatMap_one] at h3
  refine ⟨l.map (·.2), ⟨l.map (·.1), ⟨A, cap, ?_, ?_, h2, h6, ?_⟩, fun i r hr => ?_⟩, by simpa using h4⟩
  · rw [List.length_map, h4]
  · rw [List.length_map, h4]; exact h1
  · rw [List.length_map, h4]; exact h3
  · rw [List.getElem?_map] at hr
    cases hl : l[i]? with
    | none => rw [hl] at hr; cases hr
    | some y =>
      rw [hl] at hr
      simp at hr
      subst hr
      exact ⟨y.1, by rw [List.getElem?_map, hl]; rfl, h5 y (List.mem_of_getElem? hl)⟩
end Go.Proofs.Ythkgchlndfcmpaa

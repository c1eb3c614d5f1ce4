/- Arguments opened: a uint64 as a natural number; an int's bounds; slices of integers. -/
import Derived.Test.YtdeifjnhbdkkgaaGreatDoorMem
import Derived.WalkKit
import Derived.ProofKit
import Derived.Deep.Slices
import Derived.Lib.SmallJoins
import Derived.Test.YtdeifjnhbdkkgaaGreatDoorLe1
import Derived.Laws.StructEq
import Derived.Deep.MidRow
import Derived.Deep.WholeRow
namespace Go.Proofs.YtdeifjnhbdkkgaaGreatDoor
open Go.ChangeShapes Go.WideShapes Go.ChangeAt Go.RowKit
set_option maxRecDepth 100000

theorem wf_u64 {a : Int} (h : (Lit.int .u64 a).wf = true) : ∃ n : Nat, a = n ∧ n < 18446744073709551616 := by
  have hx : 0 ≤ a ∧ a ≤ 18446744073709551615 := by simpa [Lit.wf, IntKind.min, IntKind.max, IntKind.signed, IntKind.bits] using h
  exact ⟨a.toNat, by omega, by omega⟩
theorem wf_i64 {a : Int} (h : (Lit.int .i64 a).wf = true) : -9223372036854775808 ≤ a ∧ a ≤ 9223372036854775807 := by
  simpa [Lit.wf, IntKind.min, IntKind.max, IntKind.signed, IntKind.bits] using h
theorem wf_u8 {a : Int} (h : (Lit.int .u8 a).wf = true) : 0 ≤ a ∧ a ≤ 255 := by
  simpa [Lit.wf, IntKind.min, IntKind.max, IntKind.signed, IntKind.bits] using h

/-- A slice of integers that came in. -/
def ArgRow (k : IntKind) (w : World) (A : Option Addr) (len cap : Nat) (zs : List Int) : Prop :=
  len ≤ cap ∧ cap ≤ maxLen ∧ Rd w (fun _ => True) A len (zs.map (Value.int k)) ∧ (∀ n ∈ zs, (Lit.int k n).wf = true) ∧ (A = none → cap = 0)

theorem argRow {H : Type} {enc : TypeId × Value → H} {P : Program} {w : World} {base : Nat} {spare : Nat → Bool} {held : Bool} {T E : TypeId} {k : IntKind} {A : Option Addr} {len cap : Nat} {d : DataW H} {p : List MemPlace}
    (hT : P.underlying T = some (.slice E)) (hE : P.underlying E = some (.int k)) (hC : P.cellsOf E = 1) (h : DataW.Trod enc P w base spare held T (.slice A len cap) d p) : ∃ zs, ArgRow k w A len cap zs := by
  obtain ⟨fuel, hf⟩ := h
  rcases open_ints hT hE hC hf with ⟨hcs, _⟩ | ⟨x, l, c, zs, hcs, _, hl, hm, hz, _, hcell, hwz⟩
  · simp [Value.cells] at hcs
    obtain ⟨rfl, rfl, rfl⟩ := hcs
    exact ⟨[], Nat.le_refl _, Nat.zero_le _, Rd.nil _ _ _, fun n hn => (by cases hn), fun _ => rfl⟩
  · simp [Value.cells] at hcs
    obtain ⟨rfl, rfl, rfl⟩ := hcs
    refine ⟨zs.take len, hl, hm, ⟨?_, fun h0 => ?_⟩, fun n hn => hwz n (List.mem_of_mem_take hn), fun h => by cases h⟩
    · rw [List.length_map, List.length_take, hz]; split <;> omega
    · have hzl : len ≤ zs.length := by rw [hz]; split <;> omega
      obtain ⟨b, off, spot⟩ := x
      have hc0 := hcell 0 (by omega)
      have hspot : spot = none := by simpa [Addr.add] using World.cell?_spot hc0
      subst hspot
      refine ⟨b, off, rfl, trivial, fun i u hu => ?_⟩
      rw [List.getElem?_map, List.getElem?_take] at hu
      split at hu
      · have hi := hcell i (by omega)
        rw [List.getElem?_eq_getElem (by omega)] at hu
        simp at hu
        subst hu
        have e : (⟨b, off, none⟩ : Addr).add i = ⟨b, off + i, none⟩ := by unfold Addr.add; split <;> simp_all
        rw [e] at hi
        rw [hi, List.getD_eq_getElem?_getD, List.getElem?_eq_getElem (by omega)]
        rfl
      · cases hu
end Go.Proofs.YtdeifjnhbdkkgaaGreatDoor
namespace Go.Proofs.YtdeifjnhbdkkgaaGreatDoor
open Go.ChangeShapes Go.WideShapes Go.ChangeAt Go.RowKit
set_option maxRecDepth 100000

theorem flat_len {α : Type} {f : α → List Value} {m : Nat} (hf : ∀ x, (f x).length = m) (l : List α) : (l.flatMap f).length = l.length * m := by
  induction l with
  | nil => simp
  | cons x l ih => rw [List.flatMap_cons, List.length_append, hf, ih, List.length_cons, Nat.succ_mul]; omega
theorem flat_at {α : Type} {f : α → List Value} {m : Nat} (hf : ∀ x, (f x).length = m) {l : List α} {i j : Nat} {x : α} {u : Value} (hx : l[i]? = some x) (hu : (f x)[j]? = some u) : (l.flatMap f)[i * m + j]? = some u := by
  induction l generalizing i with
  | nil => simp at hx
  | cons y l ih =>
    rw [List.flatMap_cons]
    have hj : j < m := by rw [← hf x]; exact (List.getElem?_eq_some_iff.1 hu).1
    match i with
    | 0 =>
      simp at hx
      subst hx
      rw [Nat.zero_mul, Nat.zero_add, List.getElem?_append_left (by rw [hf]; exact hj)]
      exact hu
    | i + 1 =>
      rw [List.getElem?_append_right (by rw [hf, Nat.succ_mul]; omega), hf, show (i + 1) * m + j - m = i * m + j by rw [Nat.succ_mul]; omega]
      exact ih (by simpa using hx)
theorem flat_of {α : Type} {f : α → List Value} {m : Nat} (hf : ∀ x, (f x).length = m) {l : List α} {i : Nat} {u : Value} (h : (l.flatMap f)[i]? = some u) : ∃ k j x, l[k]? = some x ∧ (f x)[j]? = some u ∧ i = k * m + j ∧ j < m := by
  induction l generalizing i with
  | nil => simp at h
  | cons y l ih =>
    rw [List.flatMap_cons] at h
    rcases Nat.lt_or_ge i m with hi | hi
    · rw [List.getElem?_append_left (by rw [hf]; exact hi)] at h
      exact ⟨0, i, y, rfl, h, by omega, hi⟩
    · rw [List.getElem?_append_right (by rw [hf]; exact hi), hf] at h
      obtain ⟨k, j, x, h1, h2, h3, h4⟩ := ih h
      exact ⟨k + 1, j, x, by simpa using h1, h2, by rw [Nat.succ_mul]; omega, h4⟩

/-- A slice of structs that came in, element by element. -/
def ArgSt {α : Type} (f : α → List Value) (m : Nat) (ok : α → Prop) (w : World) (A : Option Addr) (len cap : Nat) (l : List α) : Prop :=
  len ≤ cap ∧ cap ≤ maxLen ∧ Rd w (fun _ => True) A (len * m) (l.flatMap f) ∧ l.length = len ∧ (∀ x ∈ l, ok x) ∧ (A = none → cap = 0)

theorem argSt {H : Type} {enc : TypeId × Value → H} {P : Program} {w : World} {base : Nat} {spare : Nat → Bool} {held : Bool} {T E : TypeId} {A : Option Addr} {len cap : Nat} {d : DataW H} {p : List MemPlace} {α : Type} [Inhabited α]
    {f : α → List Value} {m : Nat} {ok : α → Prop} (hf : ∀ x, (f x).length = m) (hm0 : 0 < m)
    (hT : P.underlying T = some (.slice E)) (hC : P.cellsOf E = m)
    (hE : ∀ n cs x, cs.length = m → DataW.trod enc P w base spare held n E cs = some x → ∃ y, cs = f y ∧ ok y)
    (h : DataW.Trod enc P w base spare held T (.slice A len cap) d p) : ∃ l, ArgSt f m ok w A len cap l := by
  obtain ⟨fuel, hfu⟩ := h
  rcases Deep.open_slice hT hfu with ⟨hcs, _⟩ | ⟨a, l, c, k, n, D, Pl, hcs, _, hl, hmx, hk, _, hx⟩
  · simp [Value.cells] at hcs
    obtain ⟨rfl, rfl, rfl⟩ := hcs
    exact ⟨[], Nat.le_refl _, Nat.zero_le _, by rw [Nat.zero_mul]; exact Rd.nil _ _ _, rfl, fun n hn => (by cases hn), fun _ => rfl⟩
  · simp [Value.cells] at hcs
    obtain ⟨rfl, rfl, rfl⟩ := hcs
    have hlk : len ≤ k := by rw [hk]; split <;> omega
    have each : ∀ i, i < len → ∃ y : α, ok y ∧ ∀ j u, (f y)[j]? = some u → w.cell? (a.add (i * m + j)) = some u := by
      intro i hi
      obtain ⟨cs', h1, h2⟩ := hx i (by omega)
      rw [hC] at h1
      obtain ⟨_, hlen, hcell⟩ := World.cells?_some h1
      obtain ⟨y, rfl, hy⟩ := hE _ _ _ hlen h2
      refine ⟨y, hy, fun j u hu => ?_⟩
      obtain ⟨hj, e⟩ := List.getElem?_eq_some_iff.1 hu
      have hc := hcell j (by rw [← hlen]; exact hj)
      rw [Deep.add_add] at hc
      rw [hc]
      simpa using hu
    obtain ⟨Y, hY⟩ := Deep.choose_lt each
    refine ⟨(List.range len).map Y, hl, hmx, ⟨by rw [flat_len hf]; simp, fun h0 => ?_⟩, by simp, fun x hx => ?_, fun h => by cases h⟩
    · obtain ⟨b, off, spot⟩ := a
      have hl0 : 0 < len := Nat.pos_of_mul_pos_right h0
      have h00 := (hY 0 hl0).2 0 ((f (Y 0))[0]'(by rw [hf]; exact hm0)) (List.getElem?_eq_getElem _)
      have hspot : spot = none := by simpa [Addr.add] using World.cell?_spot h00
      subst hspot
      refine ⟨b, off, rfl, trivial, fun i u hu => ?_⟩
      obtain ⟨k', j, x, e1, e2, rfl, _⟩ := flat_of hf hu
      rw [List.getElem?_map] at e1
      cases hr : (List.range len)[k']? with
      | none => rw [hr] at e1; cases e1
      | some q =>
        rw [hr] at e1
        obtain ⟨hq, e3⟩ := List.getElem?_eq_some_iff.1 hr
        simp at e1 e3 hq
        subst e3 e1
        have := (hY k' hq).2 j u e2
        have e : (⟨b, off, none⟩ : Addr).add (k' * m + j) = ⟨b, off + (k' * m + j), none⟩ := by unfold Addr.add; split <;> simp_all
        rwa [e] at this
    · obtain ⟨i, hi, rfl⟩ := List.mem_map.1 hx
      exact (hY i (by simpa using hi)).1

/-- Element k's cells. -/
theorem flat_cells {α : Type} {f : α → List Value} {m : Nat} {w : World} {A : Option Addr} {len : Nat} {l : List α} (hf : ∀ x, (f x).length = m) {F : Nat → Prop} (h : Rd w F A (len * m) (l.flatMap f)) (hl : l.length = len) (hm : 0 < m) {k : Nat} (hk : k < len) :
    ∃ b off x, A = some ⟨b, off, none⟩ ∧ F b ∧ l[k]? = some x ∧ ∀ j u, (f x)[j]? = some u → w.cell? ⟨b, off + k * m + j, none⟩ = some u := by
  obtain ⟨b, off, e, hF, hc⟩ := h.2 (Nat.mul_pos (by omega) hm)
  have hx := List.getElem?_eq_getElem (l := l) (i := k) (by omega)
  refine ⟨b, off, _, e, hF, hx, fun j u hu => ?_⟩
  rw [Nat.add_assoc]
  exact hc _ u (flat_at hf hx hu)
end Go.Proofs.YtdeifjnhbdkkgaaGreatDoor
namespace Go.Proofs.YtdeifjnhbdkkgaaGreatDoor
open Go.ChangeShapes Go.WideShapes Go.ChangeAt Go.RowKit
set_option maxRecDepth 100000

theorem bytes_of (zs : List Int) (h : ∀ n ∈ zs, (Lit.int .u8 n).wf = true) : ∃ l : List UInt8, zs.map (Value.int .u8) = bv l ∧ l.length = zs.length := by
  refine ⟨zs.map fun n => UInt8.ofNat n.toNat, ?_, by simp⟩
  unfold bv
  rw [List.map_map]
  refine List.map_congr_left fun n hn => ?_
  have := wf_u8 (h n hn)
  show Value.int .u8 n = Value.int .u8 ((UInt8.ofNat n.toNat).toNat : Int)
  rw [u8_toNat]
  congr 1
  omega
theorem argBy {w : World} {A : Option Addr} {len cap : Nat} {zs : List Int} (h : ArgRow .u8 w A len cap zs) : ∃ l : List UInt8, By w (fun _ => True) (.slice A len cap) l ∧ l.length = len := by
  obtain ⟨h1, h2, h3, h4, h5⟩ := h
  obtain ⟨l, hl, hn⟩ := bytes_of zs h4
  have hz : zs.length = len := by have := h3.1; simpa using this
  rw [hl] at h3
  refine ⟨l, ⟨A, cap, ?_, by omega, h2, h5, ?_⟩, by omega⟩
  · rw [show l.length = len by omega]
  · rw [Nat.mul_one, show l.length = len by omega]; exact h3
end Go.Proofs.YtdeifjnhbdkkgaaGreatDoor
namespace Go.Proofs.YtdeifjnhbdkkgaaGreatDoor
open Go.ChangeShapes Go.WideShapes Go.ChangeAt Go.RowKit
set_option maxRecDepth 100000

/-- The slice value v reads as these byte slices; all lies in blocks of F. -/
def Bys (w : World) (F : Nat → Prop) (v : Value) (R : List (List UInt8)) : Prop :=
  ∃ cs, Sl w F 1 v R.length cs ∧ ∀ (i : Nat) (r : List UInt8), R[i]? = some r → ∃ u, cs[i]? = some u ∧ By w F u r
section
variable {F G S : Nat → Prop} {w w' : World} {v : Value} {R : List (List UInt8)}
theorem By.keep {l : List UInt8} (h : By w F v l) (hk : Keep S w w') (hs : ∀ b, b < w.heap.size → F b → ¬ S b) : By w' F v l := Sl.keep h hk hs
theorem By.below {l : List UInt8} (h : By w F v l) (hb : Below w.heap.size w w') : By w' F v l := Sl.below h hb
theorem By.mono {l : List UInt8} (h : By w F v l) (hf : ∀ b, b < w.heap.size → F b → G b) : By w G v l := Sl.mono h hf
theorem Bys.keep (h : Bys w F v R) (hk : Keep S w w') (hs : ∀ b, b < w.heap.size → F b → ¬ S b) : Bys w' F v R := by
  obtain ⟨cs, h1, h2⟩ := h
  refine ⟨cs, h1.keep hk hs, fun i r hr => ?_⟩
  obtain ⟨u, hu, hb⟩ := h2 i r hr
  exact ⟨u, hu, hb.keep hk hs⟩
theorem Bys.below (h : Bys w F v R) (hb : Below w.heap.size w w') : Bys w' F v R := h.keep (Keep.of_below' hb) (fun _ _ _ h => h)
theorem Bys.alloc (h : Bys w F v R) (o : Obj) : Bys (w.alloc o) F v R := h.keep ((Keep.refl (fun _ => False) w).alloc o) (fun _ _ _ h => h)
theorem Bys.drewN (h : Bys w F v R) (k : Nat) : Bys (w.drewN k) F v R := h.keep ((Keep.refl (fun _ => False) w).drewN k) (fun _ _ _ h => h)
theorem Bys.mono (h : Bys w F v R) (hf : ∀ b, b < w.heap.size → F b → G b) : Bys w G v R := by
  obtain ⟨cs, h1, h2⟩ := h
  refine ⟨cs, h1.mono hf, fun i r hr => ?_⟩
  obtain ⟨u, hu, hb⟩ := h2 i r hr
  exact ⟨u, hu, hb.mono hf⟩
theorem Bys.nil (w : World) (F : Nat → Prop) : Bys w F (.slice none 0 0) [] := ⟨[], Sl.nil w F 1, fun i r hr => by simp at hr⟩
/-- Its form, and the place of each. -/
theorem Bys.form (h : Bys w F v R) : ∃ A c, v = .slice A R.length c ∧ R.length ≤ c ∧ c ≤ maxLen ∧ ∀ k, k < R.length → ∃ b off u, A = some ⟨b, off, none⟩ ∧ w.cell? ⟨b, off + k, none⟩ = some u ∧ By w F u (R.getD k []) := by
  obtain ⟨cs, ⟨A, c, rfl, h1, h2, h3, h4⟩, h5⟩ := h
  refine ⟨A, c, rfl, h1, h2, fun k hk => ?_⟩
  rw [Nat.mul_one] at h4
  obtain ⟨b, off, rfl, _, hc⟩ := h4.at_ hk
  obtain ⟨u, hu, hb⟩ := h5 k (R.getD k []) (by rw [List.getD_eq_getElem?_getD, List.getElem?_eq_getElem hk]; rfl)
  exact ⟨b, off, u, rfl, hc k u hu, hb⟩
end

/-- Cells that hold byte slices are one cell each. -/
theorem bys_one {w : World} {F : Nat → Prop} {cs : List Value} {R : List (List UInt8)} (hl : cs.length = R.length) (h : ∀ (i : Nat) (r : List UInt8), R[i]? = some r → ∃ u, cs[i]? = some u ∧ By w F u r) : ∀ u ∈ cs, u.oneCell' = true := by
  intro u hu
  obtain ⟨i, hi, rfl⟩ := List.mem_iff_getElem.1 hu
  obtain ⟨u, e, A, c, rfl, _⟩ := h i (R[i]'(by omega)) (List.getElem?_eq_getElem _)
  rw [List.getElem?_eq_getElem hi] at e
  injection e with e
  rw [e]; rfl

/-- A field of bytes that came in. -/
theorem trod_by {H : Type} {enc : TypeId × Value → H} {P : Program} {w : World} {base : Nat} {spare : Nat → Bool} {held : Bool} {T E : TypeId} {fuel : Nat} {cs : List Value} {x : DataW H × List MemPlace}
    (hT : P.underlying T = some (.slice E)) (hE : P.underlying E = some (.int .u8)) (hC : P.cellsOf E = 1) (h : DataW.trod enc P w base spare held fuel T cs = some x) :
    ∃ A len cap l, cs = [.slice A len cap] ∧ By w (fun _ => True) (.slice A len cap) l ∧ l.length = len := by
  obtain ⟨A, len, cap, rfl⟩ := Joins.slice_form hT h
  obtain ⟨zs, hz⟩ := argRow (enc := enc) (base := base) (spare := spare) (held := held) (d := x.1) (p := x.2) hT hE hC ⟨fuel, by simpa [Value.cells] using h⟩
  obtain ⟨l, hl, hn⟩ := argBy hz
  exact ⟨A, len, cap, l, rfl, hl, hn⟩

theorem flatMap_one {α β : Type} (f : α → β) (l : List α) : l.flatMap (fun y => [f y]) = l.map f := by
  induction l with
  | nil => rfl
  | cons x l ih => rw [List.flatMap_cons, List.map_cons, ih]; rfl
/-- A slice of byte slices that came in. -/
theorem argBys {H : Type} {enc : TypeId × Value → H} {P : Program} {w : World} {base : Nat} {spare : Nat → Bool} {held : Bool} {T E U : TypeId} {A : Option Addr} {len cap : Nat} {d : DataW H} {p : List MemPlace}
    (hT : P.underlying T = some (.slice E)) (hE : P.underlying E = some (.slice U)) (hU : P.underlying U = some (.int .u8)) (hCE : P.cellsOf E = 1) (hCU : P.cellsOf U = 1)
    (h : DataW.Trod enc P w base spare held T (.slice A len cap) d p) : ∃ R, Bys w (fun _ => True) (.slice A len cap) R ∧ R.length = len := by
  obtain ⟨l, h1, h2, h3, h4, h5, h6⟩ := argSt (α := Value × List UInt8) (f := fun y => [y.1]) (m := 1) (ok := fun y => By w (fun _ => True) y.1 y.2) (fun _ => rfl) (by omega) hT hCE (fun n cs x hl hx => by
    obtain ⟨A, len, cap, l, rfl, hb, _⟩ := trod_by hE hU hCU hx
    exact ⟨(_, l), rfl, hb⟩) h
  rw [flatMap_one] at h3
  refine ⟨l.map (·.2), ⟨l.map (·.1), ⟨A, cap, ?_, ?_, h2, h6, ?_⟩, fun i r hr => ?_⟩, by simpa using h4⟩
  · rw [List.length_map, h4]
  · rw [List.length_map, h4]; exact h1
  · rw [List.length_map, h4]; exact h3
  · rw [List.getElem?_map] at hr
    cases hl : l[i]? with
    | none => rw [hl] at hr; cases hr
    | some y =>
      rw [hl] at hr
      simp at hr
      subst hr
      exact ⟨y.1, by rw [List.getElem?_map, hl]; rfl, h5 y (List.mem_of_getElem? hl)⟩
end Go.Proofs.YtdeifjnhbdkkgaaGreatDoor
namespace Go.Proofs.YtdeifjnhbdkkgaaGreatDoor
open Go.RowKit
set_option maxRecDepth 100000
set_option linter.unusedVariables false

theorem info_bytes : (Tryz.prog.info? 28).map (fun i => (i.zero, i.size, i.bytes)) = some (some (.slice none 0 0), 1, 24) := by kernel_rfl
/-- The slice value u holds the byte slices R: all of it in new memory. -/
def ListSt (B : Nat) (w : World) (u : Value) (R : List (List UInt8)) : Prop :=
  ∃ cs, Own w B 28 1 u R.length cs ∧ ∀ (i : Nat) (r : List UInt8), R[i]? = some r → ∃ x, cs[i]? = some x ∧ By w (fun b => B ≤ b ∧ ownB u ≠ some b) x r
theorem ListSt.nil (B : Nat) (w : World) : ListSt B w (.slice none 0 0) [] := ⟨[], Own.none_ _ _ _ _ _, fun i r h => by simp at h⟩
theorem ListSt.keep {B : Nat} {w w' : World} {u : Value} {R : List (List UInt8)} {S : Nat → Prop} (h : ListSt B w u R) (hk : Keep S w w') (hs : ∀ b, B ≤ b → b < w.heap.size → ¬ S b) : ListSt B w' u R := by
  obtain ⟨cs, h1, h2⟩ := h
  refine ⟨cs, h1.keep hk (fun k e => by obtain ⟨h3, h4⟩ := h1.ownB k e; exact hs k h3 h4), fun i r hr => ?_⟩
  obtain ⟨x, hx, hb⟩ := h2 i r hr
  exact ⟨x, hx, hb.keep hk (fun b hl h => hs b h.1 hl)⟩
theorem ListSt.below {B : Nat} {w w' : World} {u : Value} {R : List (List UInt8)} (h : ListSt B w u R) (hb : Below w.heap.size w w') : ListSt B w' u R := h.keep (Keep.of_below' hb) (fun _ _ _ h => h)
theorem ListSt.bys {B : Nat} {w : World} {u : Value} {R : List (List UInt8)} (h : ListSt B w u R) : Bys w (fun b => B ≤ b) u R := by
  obtain ⟨cs, h1, h2⟩ := h
  refine ⟨cs, h1.sl, fun i r hr => ?_⟩
  obtain ⟨x, hx, hb⟩ := h2 i r hr
  exact ⟨x, hx, hb.mono (fun _ _ h => h.1)⟩
theorem ListSt.form {B : Nat} {w : World} {u : Value} {R : List (List UInt8)} (h : ListSt B w u R) : ∃ A c, u = .slice A R.length c := by
  obtain ⟨cs, h1, _⟩ := h
  obtain ⟨A, c, e, _⟩ := h1.form
  exact ⟨A, c, e⟩
/-- Behind 'append(u, x)': W is the world in which x lies, o the element's box. -/
theorem ListSt.push {B : Nat} {w W w' : World} {u u' x : Value} {R : List (List UInt8)} {r : List UInt8} {cs : List Value}
    (h1 : Own w B 28 1 u R.length cs) (h2 : ∀ (i : Nat) (r : List UInt8), R[i]? = some r → ∃ x, cs[i]? = some x ∧ By w (fun b => B ≤ b ∧ ownB u ≠ some b) x r)
    (hW : Keep (fun b => w.heap.size ≤ b) w W) (hx : By W (fun b => w.heap.size ≤ b) x r) (hBw : B ≤ w.heap.size)
    (ho : Own w' B 28 1 u' (R.length + 1) (cs ++ [x])) (hk : Keep (fun k => ownB u = some k) W w') (hn : ∀ k, ownB u' = some k → ownB u = some k ∨ W.heap.size ≤ k) : ListSt B w' u' (R ++ [r]) := by
  have hlen : cs.length = R.length := by have := h1.1; omega
  have hlt := fun k e => (h1.ownB k e).2
  have hsz := hW.size
  refine ⟨cs ++ [x], by rw [List.length_append]; exact ho, fun i r' hr => ?_⟩
  rcases Nat.lt_or_ge i R.length with hi | hi
  · rw [List.getElem?_append_left hi] at hr
    rw [List.getElem?_append_left (by omega)]
    obtain ⟨y, hy, hb⟩ := h2 i r' hr
    refine ⟨y, hy, (((hb.mono (G := fun b => (B ≤ b ∧ ownB u ≠ some b) ∧ b < w.heap.size) (fun b hl h => ⟨h, hl⟩)).keep hW (fun b _ h e => by have := h.2; omega)).keep hk (fun b _ h e => h.1.2 e)).mono (fun b _ h => ⟨h.1.1, fun e => ?_⟩)⟩
    rcases hn b e with e | e
    · exact h.1.2 e
    · have := h.2; omega
  · rw [List.getElem?_append_right hi] at hr
    rw [List.getElem?_append_right (by omega), hlen]
    match hj : i - R.length, hr with
    | 0, hr =>
      obtain rfl : r = r' := by simpa using hr
      refine ⟨x, rfl, ((hx.mono (G := fun b => w.heap.size ≤ b ∧ b < W.heap.size) (fun b hl h => ⟨h, hl⟩)).keep hk (fun b _ h e => by have := hlt b e; omega)).mono (fun b _ h => ⟨by omega, fun e => ?_⟩)⟩
      rcases hn b e with e | e
      · have := hlt b e; omega
      · omega
end Go.Proofs.YtdeifjnhbdkkgaaGreatDoor
namespace Go.Proofs.YtdeifjnhbdkkgaaGreatDoor
open Go.RowKit
set_option maxRecDepth 100000
set_option linter.unusedVariables false

section
variable {P : Program}
theorem run_part_byte (w : World) (e : TypeId) (he : P.underlying e = some (.int .u8)) (l : List UInt8) (i : Nat) (hi : i < l.length) :
    (part e (bv l).toArray i).run P w = .ok (.int .u8 ((l.getD i 0).toNat : Int)) w := by
  have h := (bv_at hi).1
  have hagg : (isAgg e).run P w = .ok false w := by
    unfold isAgg
    rw [Sem.run_bind, run_underlying he w]
    rfl
  simp only [part, Sem.run_bind, hagg, Result.andThen_ok, Bool.false_eq_true, if_false, Sem.run_ite]
  have h2 : (bv l).toArray[i]? = some (.int .u8 ((l.getD i 0).toNat : Int)) := by simpa using h
  rw [h2]
  rfl
theorem bytes_eq_of {xs ys : List UInt8} (hl : xs.length = ys.length) (h : ∀ i, i < xs.length → xs.getD i 0 = ys.getD i 0) : xs = ys := by
  apply List.ext_getElem hl
  intro i h1 h2
  have := h i h1
  rwa [List.getD_eq_getElem?_getD, List.getD_eq_getElem?_getD, List.getElem?_eq_getElem h1, List.getElem?_eq_getElem h2] at this
def eqFrom (xs ys : List UInt8) : Nat → Nat → Bool
  | _, 0 => true
  | k, m + 1 => xs.getD k 0 == ys.getD k 0 && eqFrom xs ys (k + 1) m
theorem eqFrom_iff (xs ys : List UInt8) : ∀ m k, eqFrom xs ys k m = true ↔ ∀ i, k ≤ i → i < k + m → xs.getD i 0 = ys.getD i 0
  | 0, k => ⟨fun _ i h1 h2 => by omega, fun _ => rfl⟩
  | m + 1, k => by
    rw [eqFrom, Bool.and_eq_true, beq_iff_eq, eqFrom_iff xs ys m (k + 1)]
    constructor
    · rintro ⟨h1, h2⟩ i h3 h4
      rcases Nat.eq_or_lt_of_le h3 with rfl | h5
      · exact h1
      · exact h2 i h5 (by omega)
    · intro h
      exact ⟨h k (Nat.le_refl _) (by omega), fun i h3 h4 => h i (by omega) (by omega)⟩
theorem eqFrom_all {xs ys : List UInt8} {n : Nat} (hx : xs.length = n) (hy : ys.length = n) : eqFrom xs ys 0 n = decide (xs = ys) := by
  rw [Bool.eq_iff_iff, eqFrom_iff, decide_eq_true_iff]
  constructor
  · intro h; exact bytes_eq_of (by omega) (fun i hi => h i (by omega) (by omega))
  · rintro rfl i _ _; rfl
theorem forIn_bytes (e : TypeId) (D : Nat) (he : P.underlying e = some (.int .u8)) (hin : ∀ (w : World) (a b : Int), (Op.equalIn D e (.int .u8 a) (.int .u8 b)).run P w = .ok (a == b) w)
    (xs ys : List UInt8) (w : World) : ∀ m k, k + m ≤ xs.length → k + m ≤ ys.length → Sem.run P
          (forIn (List.range' k m 1) ((none : Option Bool), ()) fun i __s => do
            let __do_lift ← part e (bv xs).toArray i
            let __do_lift_1 ← part e (bv ys).toArray i
            let __do_lift ← Op.equalIn D e __do_lift __do_lift_1
            if (!__do_lift) = true then pure (ForInStep.done (some false, ())) else pure (ForInStep.yield (none, ())))
          w = .ok (if eqFrom xs ys k m = true then (none, ()) else (some false, ())) w
  | 0, k, _, _ => by simp [eqFrom, List.range']
  | m + 1, k, h1, h2 => by
    have ih := forIn_bytes e D he hin xs ys w m (k + 1) (by omega) (by omega)
    rw [List.range'_succ, List.forIn_cons]
    simp only [Sem.run_bind, run_part_byte w e he xs k (by omega), run_part_byte w e he ys k (by omega), Result.andThen_ok, hin, Sem.run_ite]
    by_cases h : xs.getD k 0 = ys.getD k 0
    · rw [h, beq_self_eq_true]
      simp only [Bool.not_true, Bool.false_eq_true, if_false, Sem.run_pure, Result.andThen_ok]
      rw [ih, eqFrom, h, beq_self_eq_true, Bool.true_and]
    · have h3 : (((xs.getD k 0).toNat : Int) == ((ys.getD k 0).toNat : Int)) = false := by
        rw [beq_eq_false_iff_ne]
        intro hh
        exact h (UInt8.toNat_inj.1 (by omega))
      rw [h3]
      simp only [Bool.not_false, if_true, Sem.run_pure, Result.andThen_ok]
      rw [eqFrom, show (xs.getD k 0 == ys.getD k 0) = false by rw [beq_eq_false_iff_ne]; exact h]
      rfl
theorem equal_loop (e : TypeId) (D : Nat) (n : Nat) (he : P.underlying e = some (.int .u8)) (hin : ∀ (w : World) (a b : Int), (Op.equalIn D e (.int .u8 a) (.int .u8 b)).run P w = .ok (a == b) w)
    (t : TypeId) (ht : P.underlying t = some (.array n e)) (hso : ∀ w, (sizeOf e).run P w = .ok 1 w) (xs ys : List UInt8) (hx : xs.length = n) (hy : ys.length = n) (w : World) :
    (Op.equalIn (D + 1) t (.agg (bv xs).toArray) (.agg (bv ys).toArray)).run P w = .ok (decide (xs = ys)) w := by
  simp only [Op.equalIn, Sem.run_bind, run_underlying ht, Result.andThen_ok, hso, Nat.mul_one]
  rw [Std.Legacy.Range.forIn_eq_forIn_range']
  have h := forIn_bytes (P := P) e D he hin xs ys w n 0 (by omega) (by omega)
  rw [show [:n].start = 0 from rfl, show [:n].size = n by simp [Std.Legacy.Range.size], show [:n].step = 1 from rfl, h, eqFrom_all hx hy]
  by_cases hh : xs = ys
  · rw [decide_eq_true hh]; rfl
  · rw [decide_eq_false hh]; rfl
/-- Two arrays of bytes, compared. -/
theorem run_equal_bytes (w : World) (t e : TypeId) (n d : Nat) (ht : P.underlying t = some (.array n e)) (he : P.underlying e = some (.int .u8)) (hs : (P.info? e).map (·.size) = some 1)
    (xs ys : List UInt8) (hx : xs.length = n) (hy : ys.length = n) :
    (Op.equalIn (d + 2) t (.agg (bv xs).toArray) (.agg (bv ys).toArray)).run P w = .ok (decide (xs = ys)) w := by
  refine equal_loop e (d + 1) n he (fun w a b => run_equalIn_int w d e .u8 .u8 a b he) t ht (fun w => ?_) xs ys hx hy w
  cases hq : P.info? e with
  | none => simp [hq] at hs
  | some i => simp [hq] at hs; simp [sizeOf, typeInfo, hq, hs]
end
end Go.Proofs.YtdeifjnhbdkkgaaGreatDoor
namespace Go.Proofs.YtdeifjnhbdkkgaaGreatDoor
open Go.RowKit
set_option maxRecDepth 100000
set_option linter.unusedVariables false

/-- v holds the bytes l, in memory of its own from block B on (or it has no room at all). -/
def Ob (W : World) (B : Nat) (v : Value) (l : List UInt8) : Prop := ∃ n, Own W B 5 1 v n (bv l)
section
variable {W W' : World} {B B' : Nat} {v : Value} {l m : List UInt8} {S : Nat → Prop}
theorem Ob.form (h : Ob W B v l) : ∃ A n c, v = .slice A n c := by
  obtain ⟨n, h⟩ := h
  obtain ⟨A, c, e, _⟩ := h.form
  exact ⟨A, n, c, e⟩
theorem Ob.by_ (h : Ob W B v l) : By W (fun k => B ≤ k) v l := by
  obtain ⟨n, h⟩ := h
  exact sl_by h.sl
theorem Ob.keep (h : Ob W B v l) (hk : Keep S W W') (hs : ∀ k, ownB v = some k → B ≤ k → k < W.heap.size → ¬ S k) : Ob W' B v l := by
  obtain ⟨n, h⟩ := h
  exact ⟨n, h.keep hk (fun k e => hs k e (h.ownB k e).1 (h.ownB k e).2)⟩
theorem Ob.same (h : Ob W B v l) (hk : Keep (fun _ => False) W W') : Ob W' B v l := h.keep hk (fun _ _ _ _ h => h)
theorem Ob.ownB_ (h : Ob W B v l) : ∀ k, ownB v = some k → B ≤ k ∧ k < W.heap.size := by
  obtain ⟨n, h⟩ := h
  exact h.ownB
theorem Ob.mono (h : Ob W B v l) (hb : B' ≤ B) : Ob W B' v l := by
  obtain ⟨n, h⟩ := h
  exact ⟨n, h.mono hb⟩
theorem Ob.nil (W : World) (B : Nat) (A : Option Addr) : Ob W B (.slice A 0 0) [] := ⟨0, Own.none_ _ _ _ _ _⟩
theorem Ob.len {A : Option Addr} {n c : Nat} (h : Ob W B (.slice A n c) l) : n = l.length := by
  obtain ⟨k, h⟩ := h
  have h1 := h.1
  obtain ⟨_, _, _, e, _⟩ := h
  injection e with _ e2 _
  rw [bv_len] at h1
  omega
/-- What an append onto it leaves. -/
theorem Ob.keeps (h : Ob W B v l) (hk : Keep (fun k => ownB v = some k) W W') : Keep (fun k => B ≤ k) W W' := hk.mono fun k _ e => (h.ownB_ k e).1
end
theorem step_app {ops : Array Oper} {o : Oper} {a : Act} {w : World} {K : Act → World → Prop} {Q : Exit → Act → World → Prop} {E : Prop} (hgd : Region.wanted o (yielded ops a.tmps) = true) (s x : Operand)
    (ho : o.op = .call { callee := .builtin .append, args := #[s, x], argTypes := #[28, 28] }) (B : Nat) (v : Value) (l : List UInt8) (hv : a.eval s = v) (hob : Ob w B v l)
    (F : Nat → Prop) (y : Value) (m : List UInt8) (hy : a.eval x = y) (hby : By w F y m) (h40 : l.length + m.length ≤ 140737488355328) (hB : B ≤ w.heap.size)
    (h : ∀ A n c w', Ob w' B (.slice A n c) (l ++ m) → Keep (fun k => ownB v = some k) w w' → K (a.put o.dst (.slice A n c)) w') :
    if Region.wanted o (yielded ops a.tmps) = true then Oper.wp Tryz.prog o a w K Q else E := by
  obtain ⟨ib, hib, hb0, hb1, hb2⟩ := info_parts info_byte
  obtain ⟨n, hown⟩ := hob
  have hn : n = l.length := by have := hown.1; rw [bv_len] at this; omega
  subst hn
  refine step_append_gen w hgd s x _ _ ho B 5 ib _ 1 1 Tryz.underlying28 hib hb0 hb1 hb2 rfl v _ (bv l) hv hown y m.length (bv m) hy (By.src hby Tryz.underlying28) (by unfold maxLen; omega) (by omega) hB ?_
  intro v' w' ho' hk _
  obtain ⟨A, c, rfl, _⟩ := ho'.form
  exact h A _ c w' ⟨_, by rw [bv_append]; exact ho'⟩ hk
theorem wpList_app {ops : Array Oper} {rest : List Oper} {o : Oper} {a : Act} {w : World} {Q : Exit → Act → World → Prop} (hgd : Region.wanted o (yielded ops a.tmps) = true) (s x : Operand)
    (ho : o.op = .call { callee := .builtin .append, args := #[s, x], argTypes := #[28, 28] }) (B : Nat) (v : Value) (l : List UInt8) (hv : a.eval s = v) (hob : Ob w B v l)
    (F : Nat → Prop) (y : Value) (m : List UInt8) (hy : a.eval x = y) (hby : By w F y m) (h40 : l.length + m.length ≤ 140737488355328) (hB : B ≤ w.heap.size)
    (h : ∀ A n c w', Ob w' B (.slice A n c) (l ++ m) → Keep (fun k => ownB v = some k) w w' → wpList Tryz.prog ops Q rest (a.put o.dst (.slice A n c)) w') : wpList Tryz.prog ops Q (o :: rest) a w :=
  wpList_step fun _ hK => step_app hgd s x ho B v l hv hob F y m hy hby h40 hB fun A n c w' h1 h2 => hK _ _ (h A n c w' h1 h2)
/-- One byte, as a literal. -/
theorem By.byte (w : World) (c : UInt8) (z : Int) (hz : z = (c.toNat : Int)) : By (w.alloc (.cells #[.int .u8 z] 5)) (fun k => k = w.heap.size) (.slice (some ⟨w.heap.size, 0, none⟩) 1 1) [c] := by
  subst hz
  exact By.lit w 5 [c] (by simp)
/-- A call that hands back bytes in new memory, all its own. -/
def ObPost (w : World) (l : List UInt8) (e : Ending) (w' : World) : Prop := ∃ A n c, e = .returned (.slice A n c) ∧ Ob w' w.heap.size (.slice A n c) l ∧ Below w.heap.size w w'
end Go.Proofs.YtdeifjnhbdkkgaaGreatDoor

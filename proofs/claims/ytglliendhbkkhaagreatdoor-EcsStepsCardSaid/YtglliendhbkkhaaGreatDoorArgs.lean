/- Arguments opened: a uint64 as a natural number; an int's bounds; slices of integers. -/
import Derived.Test.YtglliendhbkkhaaGreatDoorMem
import Derived.WalkKit
import Derived.ProofKit
import Derived.Deep.Slices
import Derived.Lib.SmallJoins
import Derived.Test.YtglliendhbkkhaaGreatDoorLe1
import Derived.Laws.StructEq
import Derived.Deep.MidRow
import Derived.Deep.WholeRow
namespace Go.Proofs.YtglliendhbkkhaaGreatDoor
open Go.ChangeShapes Go.WideShapes Go.ChangeAt Go.RowKit
set_option maxRecDepth 100000

theorem wf_u64 {a : Int} (h : (Lit.int .u64 a).wf = true) : ∃ n : Nat, a = n ∧ n < 18446744073709551616 := by
  have hx : 0 ≤ a ∧ a ≤ 18446744073709551615 := by simpa [Lit.wf, IntKind.min, IntKind.max, IntKind.signed, IntKind.bits] using h
  exact ⟨a.toNat, by omega, by omega⟩
theorem wf_i64 {a : Int} (h : (Lit.int .i64 a).wf = true) : -9223372036854775808 ≤ a ∧ a ≤ 9223372036854775807 := by
  simpa [Lit.wf, IntKind.min, IntKind.max, IntKind.signed, IntKind.bits] using h
theorem wf_u8 {a : Int} (h : (Lit.int .u8 a).wf = true) : 0 ≤ a ∧ a ≤ 255 := by
  simpa [Lit.wf, IntKind.min, IntKind.max, IntKind.signed, IntKind.bits] using h

/-- A slice of integers that came in. -/
def ArgRow (k : IntKind) (w : World) (A : Option Addr) (len cap : Nat) (zs : List Int) : Prop :=
  len ≤ cap ∧ cap ≤ maxLen ∧ Rd w (fun _ => True) A len (zs.map (Value.int k)) ∧ (∀ n ∈ zs, (Lit.int k n).wf = true) ∧ (A = none → cap = 0)

theorem argRow {H : Type} {enc : TypeId × Value → H} {P : Program} {w : World} {base : Nat} {spare : Nat → Bool} {held : Bool} {T E : TypeId} {k : IntKind} {A : Option Addr} {len cap : Nat} {d : DataW H} {p : List MemPlace}
    (hT : P.underlying T = some (.slice E)) (hE : P.underlying E = some (.int k)) (hC : P.cellsOf E = 1) (h : DataW.Trod enc P w base spare held T (.slice A len cap) d p) : ∃ zs, ArgRow k w A len cap zs := by
  obtain ⟨fuel, hf⟩ := h
  rcases open_ints hT hE hC hf with ⟨hcs, _⟩ | ⟨x, l, c, zs, hcs, _, hl, hm, hz, _, hcell, hwz⟩
  · simp [Value.cells] at hcs
    obtain ⟨rfl, rfl, rfl⟩ := hcs
    exact ⟨[], Nat.le_refl _, Nat.zero_le _, Rd.nil _ _ _, fun n hn => (by cases hn), fun _ => rfl⟩
  · simp [Value.cells] at hcs
    obtain ⟨rfl, rfl, rfl⟩ := hcs
    refine ⟨zs.take len, hl, hm, ⟨?_, fun h0 => ?_⟩, fun n hn => hwz n (List.mem_of_mem_take hn), fun h => by cases h⟩
    · rw [List.length_map, List.length_take, hz]; split <;> omega
    · have hzl : len ≤ zs.length := by rw [hz]; split <;> omega
      obtain ⟨b, off, spot⟩ := x
      have hc0 := hcell 0 (by omega)
      have hspot : spot = none := by simpa [Addr.add] using World.cell?_spot hc0
      subst hspot
      refine ⟨b, off, rfl, trivial, fun i u hu => ?_⟩
      rw [List.getElem?_map, List.getElem?_take] at hu
      split at hu
      · have hi := hcell i (by omega)
        rw [List.getElem?_eq_getElem (by omega)] at hu
        simp at hu
        subst hu
        have e : (⟨b, off, none⟩ : Addr).add i = ⟨b, off + i, none⟩ := by unfold Addr.add; split <;> simp_all
        rw [e] at hi
        rw [hi, List.getD_eq_getElem?_getD, List.getElem?_eq_getElem (by omega)]
        rfl
      · cases hu
end Go.Proofs.YtglliendhbkkhaaGreatDoor
namespace Go.Proofs.YtglliendhbkkhaaGreatDoor
open Go.ChangeShapes Go.WideShapes Go.ChangeAt Go.RowKit
set_option maxRecDepth 100000

theorem flat_len {α : Type} {f : α → List Value} {m : Nat} (hf : ∀ x, (f x).length = m) (l : List α) : (l.flatMap f).length = l.length * m := by
  induction l with
  | nil => simp
  | cons x l ih => rw [List.flatMap_cons, List.length_append, hf, ih, List.length_cons, Nat.succ_mul]; omega
theorem flat_at {α : Type} {f : α → List Value} {m : Nat} (hf : ∀ x, (f x).length = m) {l : List α} {i j : Nat} {x : α} {u : Value} (hx : l[i]? = some x) (hu : (f x)[j]? = some u) : (l.flatMap f)[i * m + j]? = some u := by
  induction l generalizing i with
  | nil => simp at hx
  | cons y l ih =>
    rw [List.flatMap_cons]
    have hj : j < m := by rw [← hf x]; exact (List.getElem?_eq_some_iff.1 hu).1
    match i with
    | 0 =>
      simp at hx
      subst hx
      rw [Nat.zero_mul, Nat.zero_add, List.getElem?_append_left (by rw [hf]; exact hj)]
      exact hu
    | i + 1 =>
      rw [List.getElem?_append_right (by rw [hf, Nat.succ_mul]; omega), hf, show (i + 1) * m + j - m = i * m + j by rw [Nat.succ_mul]; omega]
      exact ih (by simpa using hx)
theorem flat_of {α : Type} {f : α → List Value} {m : Nat} (hf : ∀ x, (f x).length = m) {l : List α} {i : Nat} {u : Value} (h : (l.flatMap f)[i]? = some u) : ∃ k j x, l[k]? = some x ∧ (f x)[j]? = some u ∧ i = k * m + j ∧ j < m := by
  induction l generalizing i with
  | nil => simp at h
  | cons y l ih =>
    rw [List.flatMap_cons] at h
    rcases Nat.lt_or_ge i m with hi | hi
    · rw [List.getElem?_append_left (by rw [hf]; exact hi)] at h
      exact ⟨0, i, y, rfl, h, by omega, hi⟩
    · rw [List.getElem?_append_right (by rw [hf]; exact hi), hf] at h
      obtain ⟨k, j, x, h1, h2, h3, h4⟩ := ih h
      exact ⟨k + 1, j, x, by simpa using h1, h2, by rw [Nat.succ_mul]; omega, h4⟩

/-- A slice of structs that came in, element by element. -/
def ArgSt {α : Type} (f : α → List Value) (m : Nat) (ok : α → Prop) (w : World) (A : Option Addr) (len cap : Nat) (l : List α) : Prop :=
  len ≤ cap ∧ cap ≤ maxLen ∧ Rd w (fun _ => True) A (len * m) (l.flatMap f) ∧ l.length = len ∧ (∀ x ∈ l, ok x) ∧ (A = none → cap = 0)

theorem argSt {H : Type} {enc : TypeId × Value → H} {P : Program} {w : World} {base : Nat} {spare : Nat → Bool} {held : Bool} {T E : TypeId} {A : Option Addr} {len cap : Nat} {d : DataW H} {p : List MemPlace} {α : Type} [Inhabited α]
    {f : α → List Value} {m : Nat} {ok : α → Prop} (hf : ∀ x, (f x).length = m) (hm0 : 0 < m)
    (hT : P.underlying T = some (.slice E)) (hC : P.cellsOf E = m)
    (hE : ∀ n cs x, cs.length = m → DataW.trod enc P w base spare held n E cs = some x → ∃ y, cs = f y ∧ ok y)
    (h : DataW.Trod enc P w base spare held T (.slice A len cap) d p) : ∃ l, ArgSt f m ok w A len cap l := by
  obtain ⟨fuel, hfu⟩ := h
  rcases Deep.open_slice hT hfu with ⟨hcs, _⟩ | ⟨a, l, c, k, n, D, Pl, hcs, _, hl, hmx, hk, _, hx⟩
  · simp [Value.cells] at hcs
    obtain ⟨rfl, rfl, rfl⟩ := hcs
    exact ⟨[], Nat.le_refl _, Nat.zero_le _, by rw [Nat.zero_mul]; exact Rd.nil _ _ _, rfl, fun n hn => (by cases hn), fun _ => rfl⟩
  · simp [Value.cells] at hcs
    obtain ⟨rfl, rfl, rfl⟩ := hcs
    have hlk : len ≤ k := by rw [hk]; split <;> omega
    have each : ∀ i, i < len → ∃ y : α, ok y ∧ ∀ j u, (f y)[j]? = some u → w.cell? (a.add (i * m + j)) = some u := by
      intro i hi
      obtain ⟨cs', h1, h2⟩ := hx i (by omega)
      rw [hC] at h1
      obtain ⟨_, hlen, hcell⟩ := World.cells?_some h1
      obtain ⟨y, rfl, hy⟩ := hE _ _ _ hlen h2
      refine ⟨y, hy, fun j u hu => ?_⟩
      obtain ⟨hj, e⟩ := List.getElem?_eq_some_iff.1 hu
      have hc := hcell j (by rw [← hlen]; exact hj)
      rw [Deep.add_add] at hc
      rw [hc]
      simpa using hu
    obtain ⟨Y, hY⟩ := Deep.choose_lt each
    refine ⟨(List.range len).map Y, hl, hmx, ⟨by rw [flat_len hf]; simp, fun h0 => ?_⟩, by simp, fun x hx => ?_, fun h => by cases h⟩
    · obtain ⟨b, off, spot⟩ := a
      have hl0 : 0 < len := Nat.pos_of_mul_pos_right h0
      have h00 := (hY 0 hl0).2 0 ((f (Y 0))[0]'(by rw [hf]; exact hm0)) (List.getElem?_eq_getElem _)
      have hspot : spot = none := by simpa [Addr.add] using World.cell?_spot h00
      subst hspot
      refine ⟨b, off, rfl, trivial, fun i u hu => ?_⟩
      obtain ⟨k', j, x, e1, e2, rfl, _⟩ := flat_of hf hu
      rw [List.getElem?_map] at e1
      cases hr : (List.range len)[k']? with
      | none => rw [hr] at e1; cases e1
      | some q =>
        rw [hr] at e1
        obtain ⟨hq, e3⟩ := List.getElem?_eq_some_iff.1 hr
        simp at e1 e3 hq
        subst e3 e1
        have := (hY k' hq).2 j u e2
        have e : (⟨b, off, none⟩ : Addr).add (k' * m + j) = ⟨b, off + (k' * m + j), none⟩ := by unfold Addr.add; split <;> simp_all
        rwa [e] at this
    · obtain ⟨i, hi, rfl⟩ := List.mem_map.1 hx
      exact (hY i (by simpa using hi)).1

/-- Element k's cells. -/
theorem flat_cells {α : Type} {f : α → List Value} {m : Nat} {w : World} {A : Option Addr} {len : Nat} {l : List α} (hf : ∀ x, (f x).length = m) {F : Nat → Prop} (h : Rd w F A (len * m) (l.flatMap f)) (hl : l.length = len) (hm : 0 < m) {k : Nat} (hk : k < len) :
    ∃ b off x, A = some ⟨b, off, none⟩ ∧ F b ∧ l[k]? = some x ∧ ∀ j u, (f x)[j]? = some u → w.cell? ⟨b, off + k * m + j, none⟩ = some u := by
  obtain ⟨b, off, e, hF, hc⟩ := h.2 (Nat.mul_pos (by omega) hm)
  have hx := List.getElem?_eq_getElem (l := l) (i := k) (by omega)
  refine ⟨b, off, _, e, hF, hx, fun j u hu => ?_⟩
  rw [Nat.add_assoc]
  exact hc _ u (flat_at hf hx hu)
end Go.Proofs.YtglliendhbkkhaaGreatDoor
namespace Go.Proofs.YtglliendhbkkhaaGreatDoor
open Go.ChangeShapes Go.WideShapes Go.ChangeAt Go.RowKit
set_option maxRecDepth 100000

theorem bytes_of (zs : List Int) (h : ∀ n ∈ zs, (Lit.int .u8 n).wf = true) : ∃ l : List UInt8, zs.map (Value.int .u8) = bv l ∧ l.length = zs.length := by
  refine ⟨zs.map fun n => UInt8.ofNat n.toNat, ?_, by simp⟩
  unfold bv
  rw [List.map_map]
  refine List.map_congr_left fun n hn => ?_
  have := wf_u8 (h n hn)
  show Value.int .u8 n = Value.int .u8 ((UInt8.ofNat n.toNat).toNat : Int)
  rw [u8_toNat]
  congr 1
  omega
theorem argBy {w : World} {A : Option Addr} {len cap : Nat} {zs : List Int} (h : ArgRow .u8 w A len cap zs) : ∃ l : List UInt8, By w (fun _ => True) (.slice A len cap) l ∧ l.length = len := by
  obtain ⟨h1, h2, h3, h4, h5⟩ := h
  obtain ⟨l, hl, hn⟩ := bytes_of zs h4
  have hz : zs.length = len := by have := h3.1; simpa using this
  rw [hl] at h3
  refine ⟨l, ⟨A, cap, ?_, by omega, h2, h5, ?_⟩, by omega⟩
  · rw [show l.length = len by omega]
  · rw [Nat.mul_one, show l.length = len by omega]; exact h3
end Go.Proofs.YtglliendhbkkhaaGreatDoor
namespace Go.Proofs.YtglliendhbkkhaaGreatDoor
open Go.ChangeShapes Go.WideShapes Go.ChangeAt Go.RowKit
set_option maxRecDepth 100000

/-- The slice value v reads as these byte slices; all lies in blocks of F. -/
def Bys (w : World) (F : Nat → Prop) (v : Value) (R : List (List UInt8)) : Prop :=
  ∃ cs, Sl w F 1 v R.length cs ∧ ∀ (i : Nat) (r : List UInt8), R[i]? = some r → ∃ u, cs[i]? = some u ∧ By w F u r
section
variable {F G S : Nat → Prop} {w w' : World} {v : Value} {R : List (List UInt8)}
theorem By.keep {l : List UInt8} (h : By w F v l) (hk : Keep S w w') (hs : ∀ b, b < w.heap.size → F b → ¬ S b) : By w' F v l := Sl.keep h hk hs
theorem By.below {l : List UInt8} (h : By w F v l) (hb : Below w.heap.size w w') : By w' F v l := Sl.below h hb
theorem By.mono {l : List UInt8} (h : By w F v l) (hf : ∀ b, b < w.heap.size → F b → G b) : By w G v l := Sl.mono h hf
theorem Bys.keep (h : Bys w F v R) (hk : Keep S w w') (hs : ∀ b, b < w.heap.size → F b → ¬ S b) : Bys w' F v R := by
  obtain ⟨cs, h1, h2⟩ := h
  refine ⟨cs, h1.keep hk hs, fun i r hr => ?_⟩
  obtain ⟨u, hu, hb⟩ := h2 i r hr
  exact ⟨u, hu, hb.keep hk hs⟩
theorem Bys.below (h : Bys w F v R) (hb : Below w.heap.size w w') : Bys w' F v R := h.keep (Keep.of_below' hb) (fun _ _ _ h => h)
theorem Bys.alloc (h : Bys w F v R) (o : Obj) : Bys (w.alloc o) F v R := h.keep ((Keep.refl (fun _ => False) w).alloc o) (fun _ _ _ h => h)
theorem Bys.drewN (h : Bys w F v R) (k : Nat) : Bys (w.drewN k) F v R := h.keep ((Keep.refl (fun _ => False) w).drewN k) (fun _ _ _ h => h)
theorem Bys.mono (h : Bys w F v R) (hf : ∀ b, b < w.heap.size → F b → G b) : Bys w G v R := by
  obtain ⟨cs, h1, h2⟩ := h
  refine ⟨cs, h1.mono hf, fun i r hr => ?_⟩
  obtain ⟨u, hu, hb⟩ := h2 i r hr
  exact ⟨u, hu, hb.mono hf⟩
theorem Bys.nil (w : World) (F : Nat → Prop) : Bys w F (.slice none 0 0) [] := ⟨[], Sl.nil w F 1, fun i r hr => by simp at hr⟩
/-- Its form, and the place of each. -/
theorem Bys.form (h : Bys w F v R) : ∃ A c, v = .slice A R.length c ∧ R.length ≤ c ∧ c ≤ maxLen ∧ ∀ k, k < R.length → ∃ b off u, A = some ⟨b, off, none⟩ ∧ w.cell? ⟨b, off + k, none⟩ = some u ∧ By w F u (R.getD k []) := by
  obtain ⟨cs, ⟨A, c, rfl, h1, h2, h3, h4⟩, h5⟩ := h
  refine ⟨A, c, rfl, h1, h2, fun k hk => ?_⟩
  rw [Nat.mul_one] at h4
  obtain ⟨b, off, rfl, _, hc⟩ := h4.at_ hk
  obtain ⟨u, hu, hb⟩ := h5 k (R.getD k []) (by rw [List.getD_eq_getElem?_getD, List.getElem?_eq_getElem hk]; rfl)
  exact ⟨b, off, u, rfl, hc k u hu, hb⟩
end

/-- A field of bytes that came in. -/
theorem trod_by {H : Type} {enc : TypeId × Value → H} {P : Program} {w : World} {base : Nat} {spare : Nat → Bool} {held : Bool} {T E : TypeId} {fuel : Nat} {cs : List Value} {x : DataW H × List MemPlace}
    (hT : P.underlying T = some (.slice E)) (hE : P.underlying E = some (.int .u8)) (hC : P.cellsOf E = 1) (h : DataW.trod enc P w base spare held fuel T cs = some x) :
    ∃ A len cap l, cs = [.slice A len cap] ∧ By w (fun _ => True) (.slice A len cap) l ∧ l.length = len := by
  obtain ⟨A, len, cap, rfl⟩ := Joins.slice_form hT h
  obtain ⟨zs, hz⟩ := argRow (enc := enc) (base := base) (spare := spare) (held := held) (d := x.1) (p := x.2) hT hE hC ⟨fuel, by simpa [Value.cells] using h⟩
  obtain ⟨l, hl, hn⟩ := argBy hz
  exact ⟨A, len, cap, l, rfl, hl, hn⟩

end Go.Proofs.YtglliendhbkkhaaGreatDoor
namespace Go.Proofs.YtglliendhbkkhaaGreatDoor
open Go.RowKit
set_option maxRecDepth 100000
set_option linter.unusedVariables false

/-- The slice value u holds the byte slices R: all of it in new memory. -/
def ListSt (B : Nat) (w : World) (u : Value) (R : List (List UInt8)) : Prop :=
  ∃ cs, Own w B 43 1 u R.length cs ∧ ∀ (i : Nat) (r : List UInt8), R[i]? = some r → ∃ x, cs[i]? = some x ∧ By w (fun b => B ≤ b ∧ ownB u ≠ some b) x r
theorem ListSt.nil (B : Nat) (w : World) : ListSt B w (.slice none 0 0) [] := ⟨[], Own.none_ _ _ _ _ _, fun i r h => by simp at h⟩
theorem ListSt.keep {B : Nat} {w w' : World} {u : Value} {R : List (List UInt8)} {S : Nat → Prop} (h : ListSt B w u R) (hk : Keep S w w') (hs : ∀ b, B ≤ b → b < w.heap.size → ¬ S b) : ListSt B w' u R := by
  obtain ⟨cs, h1, h2⟩ := h
  refine ⟨cs, h1.keep hk (fun k e => by obtain ⟨h3, h4⟩ := h1.ownB k e; exact hs k h3 h4), fun i r hr => ?_⟩
  obtain ⟨x, hx, hb⟩ := h2 i r hr
  exact ⟨x, hx, hb.keep hk (fun b hl h => hs b h.1 hl)⟩
theorem ListSt.below {B : Nat} {w w' : World} {u : Value} {R : List (List UInt8)} (h : ListSt B w u R) (hb : Below w.heap.size w w') : ListSt B w' u R := h.keep (Keep.of_below' hb) (fun _ _ _ h => h)
theorem ListSt.form {B : Nat} {w : World} {u : Value} {R : List (List UInt8)} (h : ListSt B w u R) : ∃ A c, u = .slice A R.length c := by
  obtain ⟨cs, h1, _⟩ := h
  obtain ⟨A, c, e, _⟩ := h1.form
  exact ⟨A, c, e⟩
/-- Behind 'append(u, x)': W is the world in which x lies, o the element's box. -/
theorem ListSt.push {B : Nat} {w W w' : World} {u u' x : Value} {R : List (List UInt8)} {r : List UInt8} {cs : List Value}
    (h1 : Own w B 43 1 u R.length cs) (h2 : ∀ (i : Nat) (r : List UInt8), R[i]? = some r → ∃ x, cs[i]? = some x ∧ By w (fun b => B ≤ b ∧ ownB u ≠ some b) x r)
    (hW : Keep (fun b => w.heap.size ≤ b) w W) (hx : By W (fun b => w.heap.size ≤ b) x r) (hBw : B ≤ w.heap.size)
    (ho : Own w' B 43 1 u' (R.length + 1) (cs ++ [x])) (hk : Keep (fun k => ownB u = some k) W w') (hn : ∀ k, ownB u' = some k → ownB u = some k ∨ W.heap.size ≤ k) : ListSt B w' u' (R ++ [r]) := by
  have hlen : cs.length = R.length := by have := h1.1; omega
  have hlt := fun k e => (h1.ownB k e).2
  have hsz := hW.size
  refine ⟨cs ++ [x], by rw [List.length_append]; exact ho, fun i r' hr => ?_⟩
  rcases Nat.lt_or_ge i R.length with hi | hi
  · rw [List.getElem?_append_left hi] at hr
    rw [List.getElem?_append_left (by omega)]
    obtain ⟨y, hy, hb⟩ := h2 i r' hr
    refine ⟨y, hy, (((hb.mono (G := fun b => (B ≤ b ∧ ownB u ≠ some b) ∧ b < w.heap.size) (fun b hl h => ⟨h, hl⟩)).keep hW (fun b _ h e => by have := h.2; omega)).keep hk (fun b _ h e => h.1.2 e)).mono (fun b _ h => ⟨h.1.1, fun e => ?_⟩)⟩
    rcases hn b e with e | e
    · exact h.1.2 e
    · have := h.2; omega
  · rw [List.getElem?_append_right hi] at hr
    rw [List.getElem?_append_right (by omega), hlen]
    match hj : i - R.length, hr with
    | 0, hr =>
      obtain rfl : r = r' := by simpa using hr
      refine ⟨x, rfl, ((hx.mono (G := fun b => w.heap.size ≤ b ∧ b < W.heap.size) (fun b hl h => ⟨h, hl⟩)).keep hk (fun b _ h e => by have := hlt b e; omega)).mono (fun b _ h => ⟨by omega, fun e => ?_⟩)⟩
      rcases hn b e with e | e
      · have := hlt b e; omega
      · omega
end Go.Proofs.YtglliendhbkkhaaGreatDoor
namespace Go.Proofs.YtglliendhbkkhaaGreatDoor
open Go.RowKit
set_option maxRecDepth 100000
set_option linter.unusedVariables false

section
variable {P : Program}
end
end Go.Proofs.YtglliendhbkkhaaGreatDoor
namespace Go.Proofs.YtglliendhbkkhaaGreatDoor
open Go.RowKit
set_option maxRecDepth 100000
set_option linter.unusedVariables false

/-- v holds the bytes l, in memory of its own from block B on (or it has no room at all). -/
def Ob (W : World) (B : Nat) (v : Value) (l : List UInt8) : Prop := ∃ n, Own W B 5 1 v n (bv l)
section
variable {W W' : World} {B B' : Nat} {v : Value} {l m : List UInt8} {S : Nat → Prop}
theorem Ob.form (h : Ob W B v l) : ∃ A n c, v = .slice A n c := by
  obtain ⟨n, h⟩ := h
  obtain ⟨A, c, e, _⟩ := h.form
  exact ⟨A, n, c, e⟩
theorem Ob.keep (h : Ob W B v l) (hk : Keep S W W') (hs : ∀ k, ownB v = some k → B ≤ k → k < W.heap.size → ¬ S k) : Ob W' B v l := by
  obtain ⟨n, h⟩ := h
  exact ⟨n, h.keep hk (fun k e => hs k e (h.ownB k e).1 (h.ownB k e).2)⟩
theorem Ob.same (h : Ob W B v l) (hk : Keep (fun _ => False) W W') : Ob W' B v l := h.keep hk (fun _ _ _ _ h => h)
theorem Ob.mono (h : Ob W B v l) (hb : B' ≤ B) : Ob W B' v l := by
  obtain ⟨n, h⟩ := h
  exact ⟨n, h.mono hb⟩
theorem Ob.nil (W : World) (B : Nat) (A : Option Addr) : Ob W B (.slice A 0 0) [] := ⟨0, Own.none_ _ _ _ _ _⟩
theorem Ob.len {A : Option Addr} {n c : Nat} (h : Ob W B (.slice A n c) l) : n = l.length := by
  obtain ⟨k, h⟩ := h
  have h1 := h.1
  obtain ⟨_, _, _, e, _⟩ := h
  injection e with _ e2 _
  rw [bv_len] at h1
  omega
end
/-- One byte, as a literal. -/
theorem By.byte (w : World) (c : UInt8) (z : Int) (hz : z = (c.toNat : Int)) : By (w.alloc (.cells #[.int .u8 z] 5)) (fun k => k = w.heap.size) (.slice (some ⟨w.heap.size, 0, none⟩) 1 1) [c] := by
  subst hz
  exact By.lit w 5 [c] (by simp)
end Go.Proofs.YtglliendhbkkhaaGreatDoor

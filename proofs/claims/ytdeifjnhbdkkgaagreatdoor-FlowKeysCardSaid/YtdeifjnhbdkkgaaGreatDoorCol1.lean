/- The column in memory; contracts of column.New, Len, Size, at, row. -/
import Derived.Test.YtdeifjnhbdkkgaaGreatDoorProg
import Derived.Test.YtdeifjnhbdkkgaaGreatDoorMem
import Derived.Test.YtdeifjnhbdkkgaaGreatDoorLe1
import Derived.BigQuiet
import Derived.Deep.QuietTactic
import Derived.Deep.RegionHeld3
import Derived.StillTailTactics
import Derived.RegionTactic
import Derived.ChangeAlike
import Derived.BigRegion
namespace Go.Proofs.YtdeifjnhbdkkgaaGreatDoor
open Go.RowKit
set_option maxRecDepth 100000

/-- The column at block p: its rows are R; Foot: the blocks that are its own. -/
structure Col (w : World) (p : Nat) (Foot : Nat → Prop) (size : Nat) (R : List (List UInt8)) : Prop where
  ex : ∃ vs, w.heap[p]? = some (.cells #[vs, .int .i64 (R.length : Nat), .int .i64 (size : Nat)] 147 (0, 0)) ∧ Own w 0 5 1 vs (R.length * size) (bv R.flatten) ∧ ∀ k, ownB vs = some k → Foot k
  at_ : Foot p
  lt : ∀ k, Foot k → k < w.heap.size
  wide : ∀ r ∈ R, r.length = size
  small : size ≤ 64
  few : R.length ≤ 1024

theorem flatten_len {R : List (List UInt8)} {size : Nat} (h : ∀ r ∈ R, r.length = size) : R.flatten.length = R.length * size := by
  induction R with
  | nil => simp
  | cons r R ih =>
    rw [List.flatten_cons, List.length_append, ih (fun x hx => h x (List.mem_cons_of_mem _ hx)), h r List.mem_cons_self, List.length_cons, Nat.succ_mul]
    omega
theorem flatten_row {R : List (List UInt8)} {size k : Nat} (h : ∀ r ∈ R, r.length = size) (hk : k < R.length) : (R.flatten.drop (k * size)).take size = R.getD k [] := by
  induction R generalizing k with
  | nil => simp at hk
  | cons r R ih =>
    have hr := h r List.mem_cons_self
    match k with
    | 0 => simp [List.flatten_cons, ← hr]
    | k + 1 =>
      rw [List.flatten_cons, Nat.succ_mul, Nat.add_comm, ← List.drop_drop, ← hr, List.drop_left]
      rw [hr]
      have := ih (k := k) (fun x hx => h x (List.mem_cons_of_mem _ hx)) (by simpa using hk)
      simpa using this

theorem col_keep {w w' : World} {p : Nat} {Foot T : Nat → Prop} {size : Nat} {R : List (List UInt8)} (h : Col w p Foot size R) (hk : Keep T w w') (ht : ∀ k, Foot k → ¬ T k) : Col w' p Foot size R := by
  obtain ⟨vs, hp, hown, hf⟩ := h.ex
  have hpl := h.lt p h.at_
  exact ⟨⟨vs, (hk.block p hpl (ht p h.at_)).trans hp, hown.keep hk (fun k hk' => ht k (hf k hk')), hf⟩, h.at_, fun k hk' => Nat.lt_of_lt_of_le (h.lt k hk') hk.size, h.wide, h.small, h.few⟩

def clampN (n : Int) : Nat := if n < 0 then 0 else if 64 < n then 64 else n.toNat
theorem col_new (n : Int) (w : World) :
    Calls Tryz.prog 56 #[.int .i64 n] w fun e w' => ∃ p Foot, e = .returned (.pointer (some ⟨p, 0, none⟩)) ∧ Col w' p Foot (clampN n) [] ∧ Below w.heap.size w w' ∧ ∀ k, Foot k → w.heap.size ≤ k := by
  have H : ∀ (m : Nat) (z : Int), z = m → m ≤ 64 → ∃ p Foot, Ending.returned (.pointer (some ⟨w.heap.size, 0, none⟩)) = Ending.returned (.pointer (some ⟨p, 0, none⟩)) ∧ Col (w.alloc (.cells #[.slice none 0 0, .int .i64 0, .int .i64 z] 147)) p Foot m [] ∧
      Below w.heap.size w (w.alloc (.cells #[.slice none 0 0, .int .i64 0, .int .i64 z] 147)) ∧ ∀ k, Foot k → w.heap.size ≤ k := by
    rintro m z rfl hm
    refine ⟨w.heap.size, fun k => k = w.heap.size, rfl, ⟨⟨_, heap_alloc_new w _, ?_, fun k hk => (by cases hk)⟩, rfl, fun k hk => ?_, fun r hr => (by cases hr), hm, by simp⟩, ((Keep.refl (fun _ => False) w).alloc _).to_below', fun k hk => by omega⟩
    · rw [show ([] : List (List UInt8)).length * m = 0 by simp]; exact Own.none_ _ _ _ _ _
    · rw [hk]; simp
  have HH := Lib.hid H
  clear H
  unfold clampN
  by_cases h0 : n < 0
  · rw [if_pos h0]
    go_enter Tryz.func56, Tryz.ntmps56
    go_wp2
    go_ret
    obtain ⟨p, F, h1, h2⟩ := HH.out 0 0 rfl (by omega)
    first | exact ⟨p, F, h1, h2⟩ | exact ⟨p, h1, F, h2⟩
  · rw [if_neg h0]
    by_cases h1 : 64 < n
    · rw [if_pos h1]
      go_enter Tryz.func56, Tryz.ntmps56
      go_wp2
      go_ret
      obtain ⟨p, F, h1, h2⟩ := HH.out 64 64 rfl (by omega)
      first | exact ⟨p, F, h1, h2⟩ | exact ⟨p, h1, F, h2⟩
    · rw [if_neg h1]
      obtain ⟨m, rfl⟩ := Int.eq_ofNat_of_zero_le (show 0 ≤ n by omega)
      go_enter Tryz.func56, Tryz.ntmps56
      go_wp2
      go_ret
      obtain ⟨p, F, h1, h2⟩ := HH.out m m rfl (by omega)
      first | exact ⟨p, F, h1, h2⟩ | exact ⟨p, h1, F, h2⟩

theorem col_at {w : World} {p : Nat} {Foot : Nat → Prop} {size : Nat} {R : List (List UInt8)} (h : Col w p Foot size R) (i : Int) :
    Calls Tryz.prog 77 #[.pointer (some ⟨p, 0, none⟩), .int .i64 i] w fun e w' => e = .returned (.int .i64 (if i < 0 ∨ (R.length : Int) ≤ i then 2 else 0)) ∧ w = w' := by
  obtain ⟨vs, hp, _⟩ := h.ex
  have c1 : w.cell? ⟨p, 1, none⟩ = some (.int .i64 (R.length : Nat)) := by rw [cell_of_row w p 1 _ _ _ hp]; rfl
  clear hp h
  generalize R.length = n at *
  by_cases h0 : i < 0
  · rw [if_pos (.inl h0)]
    go_enter Tryz.func77, Tryz.ntmps77
    go_wp2
    go_ret
    exact ⟨rfl, rfl⟩
  · by_cases h1 : (n : Int) ≤ i
    · rw [if_pos (.inr h1)]
      go_enter Tryz.func77, Tryz.ntmps77
      go_wp2
      go_ret
      exact ⟨rfl, rfl⟩
    · rw [if_neg (by omega)]
      go_enter Tryz.func77, Tryz.ntmps77
      go_wp2
      go_ret
      exact ⟨rfl, rfl⟩

/-- A row's slice: it lies in the column's own block. -/
theorem col_row0 {w : World} {p n size c k x y : Nat} {A : Option Addr} {r : Int} (hp : w.heap[p]? = some (.cells #[.slice A n c, .int .i64 r, .int .i64 (size : Nat)] 147 (0, 0)))
    (hnc : n ≤ c) (hc : c ≤ 9223372036854775807) (hA : A = none → c = 0) (e1 : ((k : Int) + 1) * (size : Int) = (y : Nat)) (e0 : (k : Int) * (size : Int) = (x : Nat)) (hy : x + size = y) (hb : y ≤ n) (hb2 : n ≤ 65536) (hki : (k : Int) ≤ 1024) :
    Calls Tryz.prog 78 #[.pointer (some ⟨p, 0, none⟩), .int .i64 k] w fun e w' => ∃ A' nq, e = .returned (.slice A' size size) ∧ w' = w.drewN nq ∧ (A' = none → size = 0) ∧ ∀ a, 0 < size → A = some a → A' = some (a.add x) := by
  have c0 : w.cell? ⟨p, 0, none⟩ = some (.slice A n c) := by rw [cell_of_row w p 0 _ _ _ hp]; rfl
  have c2 : w.cell? ⟨p, 2, none⟩ = some (.int .i64 (size : Nat)) := by rw [cell_of_row w p 2 _ _ _ hp]; rfl
  clear hp
  have hx : x ≤ y := by omega
  have hyi : (y : Int) ≤ 65536 := by omega
  have hs : y - x = size := by omega
  rcases A with _ | a
  · obtain rfl := hA rfl
    obtain rfl : n = 0 := by omega
    obtain rfl : y = 0 := by omega
    obtain rfl : x = 0 := by omega
    obtain rfl : size = 0 := by omega
    have e0' : (k : Int) * 0 = 0 := by omega
    have e1' : ((k : Int) + 1) * 0 = 0 := by omega
    go_enter Tryz.func78, Tryz.ntmps78
    go_wp2
    go_quiet (fail)
    go_wp2
    go_ret
    exact ⟨_, _, rfl, rfl, fun _ => trivial, fun a h => absurd h (by omega)⟩
  · go_enter Tryz.func78, Tryz.ntmps78
    go_wp2
    go_quiet (fail)
    go_wp2
    all_goals go_ret
    · exact ⟨_, rfl, ⟨_, rfl⟩, (fun h => by cases h), fun hs => by omega⟩
    · exact ⟨_, rfl, ⟨_, rfl⟩, (fun h => by cases h), fun _ => rfl⟩

/-- Where row k lies; what it reads as. -/
theorem col_row {w : World} {p : Nat} {Foot : Nat → Prop} {size : Nat} {R : List (List UInt8)} (h : Col w p Foot size R) (k : Nat) (hk : k < R.length) :
    ∃ A c, w.heap[p]? = some (.cells #[.slice A (R.length * size) c, .int .i64 (R.length : Nat), .int .i64 (size : Nat)] 147 (0, 0)) ∧ Own w 0 5 1 (.slice A (R.length * size) c) (R.length * size) (bv R.flatten) ∧
      Calls Tryz.prog 78 #[.pointer (some ⟨p, 0, none⟩), .int .i64 k] w fun e w' => ∃ A' nq, e = .returned (.slice A' size size) ∧ w' = w.drewN nq ∧ By w Foot (.slice A' size size) (R.getD k []) ∧
        (0 < size → ∃ g cur, A = some ⟨g, 0, none⟩ ∧ A' = some ⟨g, k * size, none⟩ ∧ w.heap[g]? = some (.cells cur 5 (0, 0)) ∧ cur.size = c ∧ R.length * size ≤ c) := by
  obtain ⟨vs, hp, hown, hf⟩ := h.ex
  have hown' := hown
  obtain ⟨hl, A, c, rfl, hnc, hc, hg⟩ := hown
  have hb : k * size + size ≤ R.length * size := by rw [← Nat.succ_mul]; exact Nat.mul_le_mul_right _ hk
  have hb2 : R.length * size ≤ 65536 := Nat.mul_le_mul h.few h.small
  have hk2 := h.few
  refine ⟨A, c, hp, hown', (col_row0 hp hnc hc (fun hA => ?_) (x := k * size) (by rw [Int.add_mul, Int.one_mul]; simp) (by simp) rfl hb hb2 (by omega)).mono ?_⟩
  · rcases Nat.eq_zero_or_pos c with h0 | h0
    · exact h0
    · obtain ⟨g, _, e, _⟩ := hg h0
      rw [hA] at e
      cases e
  rintro e w' ⟨A', nq, rfl, rfl, hn, ha⟩
  have hr := h.wide (R.getD k []) (by rw [List.getD_eq_getElem?_getD, List.getElem?_eq_getElem hk]; exact List.getElem_mem _)
  have key : 0 < size → ∃ g cur, A = some ⟨g, 0, none⟩ ∧ A' = some ⟨g, k * size, none⟩ ∧ w.heap[g]? = some (.cells cur 5 (0, 0)) ∧ cur.size = c ∧ R.length * size ≤ c := fun hs => by
    obtain ⟨g, cur, rfl, _, hgg, hcs, _⟩ := hg (by have : 0 < R.length * size := Nat.mul_pos (by omega) hs; omega)
    have := ha _ hs rfl
    refine ⟨g, cur, rfl, ?_, hgg, by rw [hcs, Nat.mul_one], hnc⟩
    rw [this]
    simp [Addr.add]
    omega
  refine ⟨A', nq, rfl, rfl, ?_, key⟩
  refine ⟨A', size, ?_, ?_, by have := h.small; unfold maxLen; omega, hn, ?_⟩
  · rw [hr]
  · rw [hr]; exact Nat.le_refl _
  · refine ⟨by rw [bv_len, Nat.mul_one], fun hs => ?_⟩
    rw [hr, Nat.mul_one] at hs
    obtain ⟨g, cur, hA, hA', hgg, hcs, _⟩ := key hs
    obtain ⟨g', cur', hA2, _, hgg', hcs', ht⟩ := hg (by have : 0 < R.length * size := Nat.mul_pos (by omega) hs; omega)
    rw [hA] at hA2
    injection hA2 with hA2
    injection hA2 with hA2
    subst hA2
    rw [hgg] at hgg'
    injection hgg' with hgg'
    injection hgg' with hgg'
    subst hgg'
    refine ⟨g, k * size, hA', hf g (by rw [hA]; obtain ⟨c', rfl⟩ : ∃ c', c = c' + 1 := ⟨c - 1, by have : 0 < R.length * size := Nat.mul_pos (by omega) hs; omega⟩; rfl), fun i u hu => ?_⟩
    rw [cell_of_row w g _ cur _ _ hgg]
    rw [← flatten_row h.wide hk, bv, List.map_take, List.map_drop, List.getElem?_take] at hu
    split at hu
    · rw [List.getElem?_drop] at hu
      have e : (bv R.flatten)[k * size + i]? = some u := hu
      rw [← ht, List.getElem?_take] at e
      split at e
      · simpa using e
      · cases e
    · cases hu
end Go.Proofs.YtdeifjnhbdkkgaaGreatDoor
namespace Go.Proofs.YtdeifjnhbdkkgaaGreatDoor
open Go.RowKit
set_option maxRecDepth 100000

theorem below_of_drewN {w w' : World} {n : Nat} (h : Below (w.drewN n).heap.size (w.drewN n) w') : Below w.heap.size w w' := ⟨h.os, h.tape, h.output, h.size, h.block⟩
/-- The column behind a call: its own blocks or new ones changed. -/
def ColTo (w : World) (p : Nat) (Foot : Nat → Prop) (size : Nat) (R : List (List UInt8)) (w' : World) : Prop :=
  ∃ Foot', Col w' p Foot' size R ∧ Keep Foot w w' ∧ ∀ k, Foot' k → Foot k ∨ w.heap.size ≤ k
theorem ColTo.same {w : World} {p : Nat} {Foot : Nat → Prop} {size : Nat} {R : List (List UInt8)} (h : Col w p Foot size R) : ColTo w p Foot size R w := ⟨Foot, h, Keep.refl _ _, fun _ h => .inl h⟩
theorem ColTo.drewN {w w' : World} {p : Nat} {Foot : Nat → Prop} {size : Nat} {R : List (List UInt8)} (h : ColTo w p Foot size R w') (n : Nat) : ColTo w p Foot size R (w'.drewN n) := by
  obtain ⟨F', h1, h2, h3⟩ := h
  exact ⟨F', col_keep h1 ((Keep.refl (fun _ => False) w').drewN n) (fun _ _ h => h), h2.drewN n, h3⟩
theorem flatten_snoc (R : List (List UInt8)) (l : List UInt8) : bv R.flatten ++ bv l = bv (R ++ [l]).flatten := by simp [bv]

def addCode (size : Nat) (R : List (List UInt8)) (l : List UInt8) : Int := if l.length ≠ size then 7 else if R.length = 1024 then 9 else 0
theorem col_bytes {w : World} {p : Nat} {Foot : Nat → Prop} {size : Nat} {R : List (List UInt8)} (h : Col w p Foot size R) :
    Calls Tryz.prog 67 #[.pointer (some ⟨p, 0, none⟩)] w fun e w' => ∃ u, e = .returned u ∧ Own w' w.heap.size 5 1 u R.flatten.length (bv R.flatten) ∧ Below w.heap.size w w' := by
  obtain ⟨vs, hp, hown, hf⟩ := h.ex
  have hl := flatten_len h.wide
  rw [← hl] at hown
  have hb : R.flatten.length ≤ 65536 := by rw [hl]; exact Nat.mul_le_mul h.few h.small
  have b0 : w.cell? ⟨p, 0, none⟩ = some vs := by rw [cell_of_row w p 0 _ _ _ hp]; rfl
  obtain ⟨A, c, rfl, _⟩ := hown.form
  have CL := Lib.hid (clone_any R.flatten _ _ w hown.sl (by omega))
  clear hp hown hf h hl
  generalize R.flatten = fl at *
  go_enter Tryz.func67, Tryz.ntmps67
  go_wp2_with fail
  refine CL.out.mono ?_
  rintro e w' ⟨u, rfl, hu, hb'⟩
  go_wp2
  go_ret
  exact ⟨_, rfl, hu, hb'⟩

theorem col_get {w : World} {p : Nat} {Foot : Nat → Prop} {size : Nat} {R : List (List UInt8)} (h : Col w p Foot size R) (k : Nat) (hk : k < R.length) :
    Calls Tryz.prog 63 #[.pointer (some ⟨p, 0, none⟩), .int .i64 k] w fun e w' => ∃ u, e = .returned (.tuple #[u, .int .i64 0]) ∧ Own w' w.heap.size 5 1 u (R.getD k []).length (bv (R.getD k [])) ∧ Below w.heap.size w w' := by
  have AT := Lib.hid (col_at h (k : Int))
  rw [if_neg (by omega)] at AT
  obtain ⟨A, c, _, _, hrow⟩ := col_row h k hk
  have RO := Lib.hid hrow
  have hr := h.wide (R.getD k []) (by rw [List.getD_eq_getElem?_getD, List.getElem?_eq_getElem hk]; exact List.getElem_mem _)
  have hl : (R.getD k []).length ≤ 64 := by rw [hr]; exact h.small
  clear h hrow hr
  generalize R.getD k [] = l at *
  go_enter Tryz.func63, Tryz.ntmps63
  go_wp2_with (go_at_call 77; refine AT.out.mono ?_; rintro e w' ⟨rfl, rfl⟩)
  refine RO.out.mono ?_
  rintro e w' ⟨A', nq, rfl, rfl, hby, _⟩
  have CL := Lib.hid (clone_any l _ _ (w.drewN nq) (hby.drewN nq) (by omega))
  clear hby
  go_wp2_with fail
  refine CL.out.mono ?_
  rintro e w' ⟨u, rfl, hu, hb'⟩
  go_wp2
  go_ret2
  exact ⟨_, rfl, hu, below_of_drewN hb'⟩
theorem col_get_out {w : World} {p : Nat} {Foot : Nat → Prop} {size : Nat} {R : List (List UInt8)} (h : Col w p Foot size R) (i : Int) (hi : i < 0 ∨ (R.length : Int) ≤ i) :
    Calls Tryz.prog 63 #[.pointer (some ⟨p, 0, none⟩), .int .i64 i] w fun e w' => e = .returned (.tuple #[.slice none 0 0, .int .i64 2]) ∧ w = w' := by
  have AT := Lib.hid (col_at h i)
  rw [if_pos hi] at AT
  clear h
  go_enter Tryz.func63, Tryz.ntmps63
  go_wp2_with (go_at_call 77; refine AT.out.mono ?_; rintro e w' ⟨rfl, rfl⟩)
  go_ret2
  exact ⟨rfl, rfl⟩
end Go.Proofs.YtdeifjnhbdkkgaaGreatDoor
namespace Go.Proofs.YtdeifjnhbdkkgaaGreatDoor
open Go.RowKit
set_option maxRecDepth 100000

theorem size_byte3 : (Tryz.prog.info? 5).map (·.size) = some 1 := by kernel_rfl

theorem flatten_set {R : List (List UInt8)} {size k : Nat} {l : List UInt8} (h : ∀ r ∈ R, r.length = size) (hk : k < R.length) (hl : l.length = size) :
    (R.set k l).flatten = R.flatten.take (k * size) ++ (l ++ R.flatten.drop (k * size + size)) := by
  induction R generalizing k with
  | nil => simp at hk
  | cons r R ih =>
    have hr := h r List.mem_cons_self
    match k with
    | 0 => simp [List.flatten_cons, ← hr]
    | k + 1 =>
      have e := ih (k := k) (fun x hx => h x (List.mem_cons_of_mem _ hx)) (by simpa using hk)
      have e1 : (k + 1) * size = r.length + k * size := by rw [Nat.succ_mul, hr]; omega
      rw [List.set_cons_succ, List.flatten_cons, e, List.flatten_cons, e1, List.take_append, Nat.add_assoc, List.drop_append]
      simp [List.take_of_length_le (show r.length ≤ r.length + k * size by omega), List.drop_eq_nil_of_le (show r.length ≤ r.length + (k * size + size) by omega)]
theorem take_splice {α : Type} (L cs : List α) (off n : Nat) (h : off + cs.length ≤ n) (hn : n ≤ L.length) : (splice L off cs).take n = (L.take n).take off ++ (cs ++ (L.take n).drop (off + cs.length)) := by
  unfold splice
  have e1 : (L.take off).length = off := by rw [List.length_take]; omega
  rw [List.take_append, e1, List.take_append, List.take_take, List.take_take, List.drop_take, Nat.min_comm n off, List.take_of_length_le (show cs.length ≤ n - off by omega), Nat.sub_sub]
theorem own_laid_at {w w' : World} {base n c g off : Nat} {e : TypeId} {A : Option Addr} {xs cs : List Value} {cur : Array Value} (h : Own w base e 1 (.slice A n c) n xs) (hA : cs ≠ [] → A = some ⟨g, 0, none⟩ ∧ w.heap[g]? = some (.cells cur e (0, 0)))
    (hl : Laid w w' g off cur cs) (hcs : off + cs.length ≤ n) : Own w' base e 1 (.slice A n c) n (xs.take off ++ (cs ++ xs.drop (off + cs.length))) ∧ Keep (fun k => ownB (Value.slice A n c) = some k) w w' := by
  by_cases h0 : cs = []
  · subst h0
    rw [hl.1 rfl]
    exact ⟨by simpa using h, Keep.refl _ _⟩
  · obtain ⟨rfl, hg⟩ := hA h0
    have hpos : 0 < cs.length := List.length_pos_iff.2 h0
    have hb := hl.block hg
    obtain ⟨hlen, A', c', hv, hnc, hcm, hx⟩ := h
    injection hv with h1 h2 h3
    subst h1 h3
    obtain ⟨g', cur', hgg, hbase, hgg', hcs', htk⟩ := hx (by omega)
    injection hgg with hgg
    injection hgg with hgg
    subst hgg
    rw [hg] at hgg'
    injection hgg' with hgg'
    injection hgg' with hcur
    subst hcur
    have hz : cur.toList.length = cur.size := Array.length_toList
    refine ⟨⟨?_, _, c, rfl, hnc, hcm, fun _ => ⟨g, _, rfl, hbase, hb, ?_, ?_⟩⟩, ?_⟩
    · rw [List.length_append, List.length_append, List.length_take, List.length_drop, hlen]; omega
    · rw [List.size_toArray, length_splice _ _ _ (by omega), hz, hcs']
    · rw [List.toList_toArray]
      rw [← htk]
      exact take_splice _ _ off (n * 1) (by omega) (by omega)
    · refine hl.keep.mono fun x _ hx => ?_
      subst hx
      obtain ⟨c', rfl⟩ : ∃ c', c = c' + 1 := ⟨c - 1, by omega⟩
      rfl

/-- Row k laid anew. -/
theorem col_laid {w w' : World} {p : Nat} {Foot : Nat → Prop} {size : Nat} {R : List (List UInt8)} (h : Col w p Foot size R) {A : Option Addr} {c g k : Nat} {cur : Array Value} {l : List UInt8} (hk : k < R.length) (hll : l.length = size)
    (hp : w.heap[p]? = some (.cells #[.slice A (R.length * size) c, .int .i64 (R.length : Nat), .int .i64 (size : Nat)] 147 (0, 0)))
    (hown : Own w 0 5 1 (.slice A (R.length * size) c) (R.length * size) (bv R.flatten)) (hA : 0 < size → A = some ⟨g, 0, none⟩ ∧ w.heap[g]? = some (.cells cur 5 (0, 0)))
    (hl : Laid w w' g (k * size) cur (bv l)) : Col w' p Foot size (R.set k l) ∧ Keep Foot w w' ∧
      w'.heap[p]? = some (.cells #[.slice A (R.length * size) c, .int .i64 (R.length : Nat), .int .i64 (size : Nat)] 147 (0, 0)) ∧
      Own w' 0 5 1 (.slice A (R.length * size) c) (R.length * size) (bv (R.set k l).flatten) := by
  have hb : k * size + size ≤ R.length * size := by rw [← Nat.succ_mul]; exact Nat.mul_le_mul_right _ hk
  have hA' : bv l ≠ [] → A = some ⟨g, 0, none⟩ ∧ w.heap[g]? = some (.cells cur 5 (0, 0)) := fun hne => hA (by
    rcases Nat.eq_zero_or_pos size with h0 | h0
    · have : l = [] := List.eq_nil_of_length_eq_zero (by omega)
      subst this
      exact absurd rfl hne
    · exact h0)
  obtain ⟨ho', hk'⟩ := own_laid_at hown hA' hl (by rw [bv_len, hll]; exact hb)
  have e : (bv R.flatten).take (k * size) ++ (bv l ++ (bv R.flatten).drop (k * size + (bv l).length)) = bv (R.set k l).flatten := by
    rw [flatten_set h.wide hk hll, bv_len, hll]
    simp [bv]
  rw [e] at ho'
  obtain ⟨vs, hp2, hown2, hf⟩ := h.ex
  rw [hp] at hp2
  injection hp2 with hp2
  injection hp2 with hp2
  have hvs : vs = .slice A (R.length * size) c := by
    have := congrArg (fun a : Array Value => a[0]?) hp2
    simpa using this.symm
  subst hvs
  have np := hown.ne_cells hp (by decide)
  have hpp := (hk'.block p (h.lt p h.at_) np).trans hp
  have kf : Keep Foot w w' := hk'.mono (fun k _ e => hf k e)
  have hlen : (R.set k l).length = R.length := List.length_set
  refine ⟨⟨⟨_, by rw [hlen]; exact hpp, by rw [hlen]; exact ho', hf⟩, h.at_, fun k hk => Nat.lt_of_lt_of_le (h.lt k hk) kf.size, fun r hr => ?_, h.small, by rw [hlen]; exact h.few⟩, kf, hpp, ho'⟩
  rcases List.mem_or_eq_of_mem_set hr with hr | hr
  · exact h.wide r hr
  · rw [hr]; exact hll

def setCode (size : Nat) (R : List (List UInt8)) (i : Int) (l : List UInt8) : Int := if i < 0 ∨ (R.length : Int) ≤ i then 2 else if l.length ≠ size then 7 else 0
end Go.Proofs.YtdeifjnhbdkkgaaGreatDoor
namespace Go.Proofs.YtdeifjnhbdkkgaaGreatDoor
open Go.RowKit
set_option maxRecDepth 100000

theorem step_copy_gen {P : Program} {w : World} {ops : Array Oper} {o : Oper} {a : Act} {K : Act → World → Prop} {Q : Exit → Act → World → Prop} {E : Prop} (hgd : Region.wanted o (yielded ops a.tmps) = true) (d s : Operand) (dT sT : TypeId)
    (ho : o.op = .call { callee := .builtin .copy, args := #[d, s], argTypes := #[dT, sT] }) (elem : TypeId) (hu : P.underlying dT = some (.slice elem)) (hsz : (P.info? elem).map (·.size) = some 1)
    (A : Option Addr) (dLen dCap g off : Nat) (cur : Array Value) (t : TypeId) (hd : a.eval d = .slice A dLen dCap) (hA : 0 < dLen → A = some ⟨g, off, none⟩ ∧ w.heap[g]? = some (.cells cur t (0, 0)) ∧ off + dLen ≤ cur.size)
    (F : Nat → Prop) (u : Value) (m : Nat) (ys : List Value) (hv : a.eval s = u) (hs : Sl w F 1 u m ys) (h1 : ∀ y ∈ ys, y.oneCell' = true)
    (h : ∀ w', Laid w w' g off cur (ys.take (min m dLen)) → K (a.put o.dst (goInt ((min m dLen : Nat) : Int))) w') :
    if Region.wanted o (yielded ops a.tmps) = true then Oper.wp P o a w K Q else E := by
  rw [if_pos hgd]
  exact wp_copy_gen d s dT sT ho elem hu hsz A dLen dCap g off cur t hd hA F u m ys hv hs h1 h

def dropCode (R : List (List UInt8)) (i : Int) : Int := if i < 0 ∨ (R.length : Int) ≤ i then 2 else 0
def dropR (R : List (List UInt8)) (k : Nat) : List (List UInt8) := (R.set k (R.getD (R.length - 1) [])).take (R.length - 1)

theorem flatten_take {R : List (List UInt8)} {size m : Nat} (h : ∀ r ∈ R, r.length = size) : R.flatten.take (m * size) = (R.take m).flatten := by
  induction R generalizing m with
  | nil => simp
  | cons r R ih =>
    have hr := h r List.mem_cons_self
    match m with
    | 0 => simp
    | m + 1 =>
      rw [List.take_succ_cons, List.flatten_cons, List.flatten_cons, Nat.succ_mul, Nat.add_comm, ← hr, List.take_append, ← ih (fun x hx => h x (List.mem_cons_of_mem _ hx)), hr]
      simp [List.take_of_length_le (show r.length ≤ size + m * size by omega)]

/-- Behind the copy: the last row is let go. -/
theorem col_shrink {w : World} {p : Nat} {Foot : Nat → Prop} {size : Nat} {R : List (List UInt8)} (h : Col w p Foot size R) {A : Option Addr} {c m : Nat} (hm : m + 1 = R.length)
    (hp : w.heap[p]? = some (.cells #[.slice A (R.length * size) c, .int .i64 (R.length : Nat), .int .i64 (size : Nat)] 147 (0, 0)))
    (hown : Own w 0 5 1 (.slice A (R.length * size) c) (R.length * size) (bv R.flatten)) (nq : Nat) :
    Col (((w.setCell ⟨p, 1, none⟩ (.int .i64 (m : Nat))).drewN nq).setCell ⟨p, 0, none⟩ (.slice A (m * size) c)) p Foot size (R.take m) ∧
      Keep Foot w (((w.setCell ⟨p, 1, none⟩ (.int .i64 (m : Nat))).drewN nq).setCell ⟨p, 0, none⟩ (.slice A (m * size) c)) := by
  have hp1 : ((w.setCell ⟨p, 1, none⟩ (.int .i64 (m : Nat))).drewN nq).heap[p]? = some (.cells #[.slice A (R.length * size) c, .int .i64 (m : Nat), .int .i64 (size : Nat)] 147 (0, 0)) := by
    rw [World.heap_drewN, heap_setCell_same w p 1 _ _ _ hp]; rfl
  have hp2 : (((w.setCell ⟨p, 1, none⟩ (.int .i64 (m : Nat))).drewN nq).setCell ⟨p, 0, none⟩ (.slice A (m * size) c)).heap[p]? = some (.cells #[.slice A (m * size) c, .int .i64 (m : Nat), .int .i64 (size : Nat)] 147 (0, 0)) := by
    rw [heap_setCell_same _ p 0 _ _ _ hp1]; rfl
  have ks : Keep (fun k => k = p) w (((w.setCell ⟨p, 1, none⟩ (.int .i64 (m : Nat))).drewN nq).setCell ⟨p, 0, none⟩ (.slice A (m * size) c)) :=
    Keep.setCell (S := fun k => k = p) (Keep.drewN (Keep.setCell (S := fun k => k = p) (Keep.refl _ w) (.inr rfl) _) nq) (.inr rfl) _
  obtain ⟨vs, hp3, _, hf⟩ := h.ex
  rw [hp] at hp3
  injection hp3 with hp3
  injection hp3 with hp3
  have hvs : vs = .slice A (R.length * size) c := by
    have := congrArg (fun a : Array Value => a[0]?) hp3
    simpa using this.symm
  subst hvs
  have np := hown.ne_cells hp (by decide)
  have ho := (hown.keep ks (fun k hk e => np (by rw [hk, e]))).take (k := m * size) (Nat.mul_le_mul_right _ (by omega))
  have hlen : (R.take m).length = m := by rw [List.length_take]; omega
  have e : (bv R.flatten).take (m * size * 1) = bv (R.take m).flatten := by
    rw [Nat.mul_one, ← flatten_take h.wide, bv, bv, List.map_take]
  rw [e] at ho
  refine ⟨⟨⟨_, by rw [hlen]; exact hp2, by rw [hlen]; exact ho, fun k hk => hf k ?_⟩, h.at_, fun k hk => Nat.lt_of_lt_of_le (h.lt k hk) ks.size, fun r hr => h.wide r (List.mem_of_mem_take hr), h.small, by rw [hlen]; have := h.few; omega⟩, ks.mono fun k _ e => by rw [e]; exact h.at_⟩
  rcases A with _ | a
  · rcases c with _ | c <;> simp [ownB] at hk
  · rcases c with _ | c
    · simp [ownB] at hk
    · exact hk

/-- What row k's slice is. -/
def RowIs (w : World) (Foot : Nat → Prop) (size : Nat) (R : List (List UInt8)) (A : Option Addr) (c k : Nat) (A' : Option Addr) : Prop :=
  By w Foot (.slice A' size size) (R.getD k []) ∧ ∃ g cur, 0 < size → A = some ⟨g, 0, none⟩ ∧ A' = some ⟨g, k * size, none⟩ ∧ w.heap[g]? = some (.cells cur 5 (0, 0)) ∧ cur.size = c ∧ R.length * size ≤ c
theorem col_rows {w : World} {p : Nat} {Foot : Nat → Prop} {size : Nat} {R : List (List UInt8)} (h : Col w p Foot size R) (hR : 0 < R.length) :
    ∃ A c, w.heap[p]? = some (.cells #[.slice A (R.length * size) c, .int .i64 (R.length : Nat), .int .i64 (size : Nat)] 147 (0, 0)) ∧ Own w 0 5 1 (.slice A (R.length * size) c) (R.length * size) (bv R.flatten) ∧
      ∀ (z : Int) (nq : Nat), 0 ≤ z → z < R.length → Calls Tryz.prog 78 #[.pointer (some ⟨p, 0, none⟩), .int .i64 z] (w.drewN nq) fun e w' => ∃ A' nq', e = .returned (.slice A' size size) ∧ w' = w.drewN nq' ∧ RowIs w Foot size R A c z.toNat A' := by
  obtain ⟨A, c, hp, hown, _⟩ := col_row h 0 hR
  refine ⟨A, c, hp, hown, fun z nq h0 h1 => ?_⟩
  obtain ⟨k, rfl⟩ := Int.eq_ofNat_of_zero_le h0
  obtain ⟨A2, c2, hp2, _, hr⟩ := col_row (col_keep h ((Keep.refl (fun _ => False) w).drewN nq) (fun _ _ h => h)) k (by omega)
  have hp2' : w.heap[p]? = _ := hp2
  rw [hp] at hp2'
  injection hp2' with hp3
  injection hp3 with hp3
  have hvs : Value.slice A (R.length * size) c = .slice A2 (R.length * size) c2 := by
    have := congrArg (fun a : Array Value => a[0]?) hp3
    simpa using this
  injection hvs with e1 _ e2
  subst e1 e2
  refine hr.mono ?_
  rintro e w' ⟨A', nq', rfl, rfl, hby, hl⟩
  refine ⟨A', _, rfl, World.drewN_drewN _ _ _, hby, ?_⟩
  rw [Int.toNat_natCast]
  rcases Nat.eq_zero_or_pos size with h0 | h0
  · exact ⟨0, #[], fun h => absurd h (by omega)⟩
  · obtain ⟨g, cur, hh⟩ := hl h0
    exact ⟨g, cur, fun _ => hh⟩

/-- Behind the copy of the last row onto row k. -/
theorem drop_after {w W w' : World} {p : Nat} {Foot : Nat → Prop} {size n k nq g : Nat} {R : List (List UInt8)} {A A1 : Option Addr} {c : Nat} {cur : Array Value}
    (hX : Col w p Foot size R ∧ w.heap[p]? = some (.cells #[.slice A (R.length * size) c, .int .i64 (R.length : Nat), .int .i64 (size : Nat)] 147 (0, 0)) ∧ Own w 0 5 1 (.slice A (R.length * size) c) (R.length * size) (bv R.flatten) ∧ (R.getD (R.length - 1) []).length = size)
    (hW : W = w.drewN nq) (hn : R.length = n) (hk : k < n) (hg : 0 < size → A = some ⟨g, 0, none⟩ ∧ A1 = some ⟨g, k * size, none⟩ ∧ w.heap[g]? = some (.cells cur 5 (0, 0)) ∧ cur.size = c ∧ R.length * size ≤ c)
    (hl : Laid W w' g (k * size) cur ((bv (R.getD (n - 1) [])).take (min size size))) :
    w'.cell? ⟨p, 0, none⟩ = some (.slice A (n * size) c) ∧ w'.cell? ⟨p, 1, none⟩ = some (.int .i64 (n : Int)) ∧ w'.cell? ⟨p, 2, none⟩ = some (.int .i64 (size : Int)) ∧ w'.frozen? ⟨p, 0, none⟩ = false ∧ w'.frozen? ⟨p, 1, none⟩ = false ∧
      Hid (∀ W, W = w'.setCell ⟨p, 1, none⟩ (.int .i64 ((n : Int) - 1)) → W.cell? ⟨p, 0, none⟩ = some (.slice A (n * size) c) ∧ W.cell? ⟨p, 1, none⟩ = some (.int .i64 ((n : Int) - 1)) ∧ W.cell? ⟨p, 2, none⟩ = some (.int .i64 (size : Int)) ∧ W.frozen? ⟨p, 0, none⟩ = false) ∧
      Hid (∀ nq', ColTo w p Foot size (dropR R k) (((w'.setCell ⟨p, 1, none⟩ (.int .i64 ((n : Int) - 1))).drewN nq').setCell ⟨p, 0, none⟩ (.slice A ((n - 1) * size) c))) := by
  obtain ⟨h, hp, hown, hll⟩ := hX
  subst hW
  have hw : ∀ {T : Nat → Prop}, Keep T w (w.drewN nq) := fun {T} => (Keep.refl T w).drewN nq
  subst hn
  rw [Nat.min_self, List.take_of_length_le (by rw [bv_len]; omega)] at hl
  obtain ⟨r1, r2, r3, r4⟩ := col_laid (w := w.drewN nq) (col_keep h (hw (T := fun _ => False)) (fun _ _ h => h)) hk hll hp hown (fun hs => ⟨(hg hs).1, (hg hs).2.2.1⟩) hl
  refine ⟨by rw [cell_of_row w' p 0 _ _ _ r3]; rfl, by rw [cell_of_row w' p 1 _ _ _ r3]; rfl, by rw [cell_of_row w' p 2 _ _ _ r3]; rfl, frozen_of_row w' p 0 _ _ r3, frozen_of_row w' p 1 _ _ r3, ?_, fun nq' => ?_⟩
  · rintro W rfl
    have hb := heap_setCell_same w' p 1 _ _ (.int .i64 ((R.length : Int) - 1)) r3
    exact ⟨by rw [cell_of_row _ p 0 _ _ _ hb]; rfl, by rw [cell_of_row _ p 1 _ _ _ hb]; rfl, by rw [cell_of_row _ p 2 _ _ _ hb]; rfl, frozen_of_row _ p 0 _ _ hb⟩
  have hs : (R.set k (R.getD (R.length - 1) [])).length = R.length := List.length_set
  have := col_shrink (w := w') (m := R.length - 1) r1 (by rw [hs]; omega) (by rw [hs]; exact r3) (by rw [hs]; exact r4) nq'
  rw [show ((R.length : Int) - 1) = ((R.length - 1 : Nat) : Int) by omega]
  exact ⟨Foot, this.1, (hw (T := Foot)).trans (r2.trans this.2 (fun _ _ h => h)) (fun _ _ h => h), fun _ h => .inl h⟩
theorem RowIs.sl {w : World} {Foot : Nat → Prop} {size : Nat} {R : List (List UInt8)} {A : Option Addr} {c k : Nat} {A' : Option Addr} (h : RowIs w Foot size R A c k A') (hl : (R.getD k []).length = size) : Sl w Foot 1 (.slice A' size size) size (bv (R.getD k [])) := by
  have := h.1
  unfold By at this
  rw [hl] at this
  exact this

end Go.Proofs.YtdeifjnhbdkkgaaGreatDoor

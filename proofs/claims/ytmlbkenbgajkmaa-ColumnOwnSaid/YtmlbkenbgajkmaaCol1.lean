/- The column in memory; contracts of column.New, Len, Size, at, row. -/
import Derived.Test.YtmlbkenbgajkmaaProg
import Derived.Test.YtmlbkenbgajkmaaBase
import Derived.Test.YtmlbkenbgajkmaaLe1
import Derived.BigQuiet
import Derived.Deep.QuietTactic
namespace Go.Proofs.Ytmlbkenbgajkmaa
open Go.RowKit
set_option maxRecDepth 100000

/-- The column at block p: its rows are R; Foot: the blocks that are its own. -/
structure Col (w : World) (p : Nat) (Foot : Nat → Prop) (size : Nat) (R : List (List UInt8)) : Prop where
  ex : ∃ vs, w.heap[p]? = some (.cells #[vs, .int .i64 (R.length : Nat), .int .i64 (size : Nat)] 106 (0, 0)) ∧ Own w 0 5 1 vs (R.length * size) (bv R.flatten) ∧ ∀ k, ownB vs = some k → Foot k
  at_ : Foot p
  lt : ∀ k, Foot k → k < w.heap.size
  wide : ∀ r ∈ R, r.length = size
  small : size ≤ 64
  few : R.length ≤ 1024

theorem flatten_len {R : List (List UInt8)} {size : Nat} (h : ∀ r ∈ R, r.length = size) : R.flatten.length = R.length * size := by
  induction R with
  | nil => simp
  | cons r R ih =>
    rw [List.flatten_cons, List.length_append, ih (fun x hx => h x (List.mem_cons_of_mem _ hx)), h r List.mem_cons_self, List.length_cons, Nat.succ_mul]
    omega
theorem flatten_row {R : List (List UInt8)} {size k : Nat} (h : ∀ r ∈ R, r.length = size) (hk : k < R.length) : (R.flatten.drop (k * size)).take size = R.getD k [] := by
  induction R generalizing k with
  | nil => simp at hk
  | cons r R ih =>
    have hr := h r List.mem_cons_self
    match k with
    | 0 => simp [List.flatten_cons, ← hr]
    | k + 1 =>
      rw [List.flatten_cons, Nat.succ_mul, Nat.add_comm, ← List.drop_drop, ← hr, List.drop_left]
      rw [hr]
      have := ih (k := k) (fun x hx => h x (List.mem_cons_of_mem _ hx)) (by simpa using hk)
      simpa using this

theorem col_keep {w w' : World} {p : Nat} {Foot T : Nat → Prop} {size : Nat} {R : List (List UInt8)} (h : Col w p Foot size R) (hk : Keep T w w') (ht : ∀ k, Foot k → ¬ T k) : Col w' p Foot size R := by
  obtain ⟨vs, hp, hown, hf⟩ := h.ex
  have hpl := h.lt p h.at_
  exact ⟨⟨vs, (hk.block p hpl (ht p h.at_)).trans hp, hown.keep hk (fun k hk' => ht k (hf k hk')), hf⟩, h.at_, fun k hk' => Nat.lt_of_lt_of_le (h.lt k hk') hk.size, h.wide, h.small, h.few⟩

def clampN (n : Int) : Nat := if n < 0 then 0 else if 64 < n then 64 else n.toNat
theorem col_new (n : Int) (w : World) :
    Calls Try.prog 31 #[.int .i64 n] w fun e w' => ∃ p Foot, e = .returned (.pointer (some ⟨p, 0, none⟩)) ∧ Col w' p Foot (clampN n) [] ∧ Below w.heap.size w w' ∧ ∀ k, Foot k → w.heap.size ≤ k := by
  have H : ∀ (m : Nat) (z : Int), z = m → m ≤ 64 → ∃ p Foot, Ending.returned (.pointer (some ⟨w.heap.size, 0, none⟩)) = Ending.returned (.pointer (some ⟨p, 0, none⟩)) ∧ Col (w.alloc (.cells #[.slice none 0 0, .int .i64 0, .int .i64 z] 106)) p Foot m [] ∧
      Below w.heap.size w (w.alloc (.cells #[.slice none 0 0, .int .i64 0, .int .i64 z] 106)) ∧ ∀ k, Foot k → w.heap.size ≤ k := by
    rintro m z rfl hm
    refine ⟨w.heap.size, fun k => k = w.heap.size, rfl, ⟨⟨_, heap_alloc_new w _, ?_, fun k hk => (by cases hk)⟩, rfl, fun k hk => ?_, fun r hr => (by cases hr), hm, by simp⟩, ((Keep.refl (fun _ => False) w).alloc _).to_below', fun k hk => by omega⟩
    · rw [show ([] : List (List UInt8)).length * m = 0 by simp]; exact Own.none_ _ _ _ _ _
    · rw [hk]; simp
  have HH := Lib.hid H
  clear H
  unfold clampN
  by_cases h0 : n < 0
  · rw [if_pos h0]
    go_enter Try.func31, Try.ntmps31
    go_wp2
    go_ret
    obtain ⟨p, F, h1, h2⟩ := HH.out 0 0 rfl (by omega)
    first | exact ⟨p, F, h1, h2⟩ | exact ⟨p, h1, F, h2⟩
  · rw [if_neg h0]
    by_cases h1 : 64 < n
    · rw [if_pos h1]
      go_enter Try.func31, Try.ntmps31
      go_wp2
      go_ret
      obtain ⟨p, F, h1, h2⟩ := HH.out 64 64 rfl (by omega)
      first | exact ⟨p, F, h1, h2⟩ | exact ⟨p, h1, F, h2⟩
    · rw [if_neg h1]
      obtain ⟨m, rfl⟩ := Int.eq_ofNat_of_zero_le (show 0 ≤ n by omega)
      go_enter Try.func31, Try.ntmps31
      go_wp2
      go_ret
      obtain ⟨p, F, h1, h2⟩ := HH.out m m rfl (by omega)
      first | exact ⟨p, F, h1, h2⟩ | exact ⟨p, h1, F, h2⟩

theorem col_len {w : World} {p : Nat} {Foot : Nat → Prop} {size : Nat} {R : List (List UInt8)} (h : Col w p Foot size R) :
    Calls Try.prog 62 #[.pointer (some ⟨p, 0, none⟩)] w fun e w' => e = .returned (.int .i64 (R.length : Nat)) ∧ w = w' := by
  obtain ⟨vs, hp, _⟩ := h.ex
  have c1 : w.cell? ⟨p, 1, none⟩ = some (.int .i64 (R.length : Nat)) := by rw [cell_of_row w p 1 _ _ _ hp]; rfl
  clear hp h
  generalize R.length = n at *
  go_enter Try.func62, Try.ntmps62
  go_wp2
  go_ret
  exact ⟨rfl, rfl⟩
theorem col_size {w : World} {p : Nat} {Foot : Nat → Prop} {size : Nat} {R : List (List UInt8)} (h : Col w p Foot size R) :
    Calls Try.prog 63 #[.pointer (some ⟨p, 0, none⟩)] w fun e w' => e = .returned (.int .i64 (size : Nat)) ∧ w = w' := by
  obtain ⟨vs, hp, _⟩ := h.ex
  have c1 : w.cell? ⟨p, 2, none⟩ = some (.int .i64 (size : Nat)) := by rw [cell_of_row w p 2 _ _ _ hp]; rfl
  clear hp h
  go_enter Try.func63, Try.ntmps63
  go_wp2
  go_ret
  exact ⟨rfl, rfl⟩
theorem col_at {w : World} {p : Nat} {Foot : Nat → Prop} {size : Nat} {R : List (List UInt8)} (h : Col w p Foot size R) (i : Int) :
    Calls Try.prog 73 #[.pointer (some ⟨p, 0, none⟩), .int .i64 i] w fun e w' => e = .returned (.int .i64 (if i < 0 ∨ (R.length : Int) ≤ i then 2 else 0)) ∧ w = w' := by
  obtain ⟨vs, hp, _⟩ := h.ex
  have c1 : w.cell? ⟨p, 1, none⟩ = some (.int .i64 (R.length : Nat)) := by rw [cell_of_row w p 1 _ _ _ hp]; rfl
  clear hp h
  generalize R.length = n at *
  by_cases h0 : i < 0
  · rw [if_pos (.inl h0)]
    go_enter Try.func73, Try.ntmps73
    go_wp2
    go_ret
    exact ⟨rfl, rfl⟩
  · by_cases h1 : (n : Int) ≤ i
    · rw [if_pos (.inr h1)]
      go_enter Try.func73, Try.ntmps73
      go_wp2
      go_ret
      exact ⟨rfl, rfl⟩
    · rw [if_neg (by omega)]
      go_enter Try.func73, Try.ntmps73
      go_wp2
      go_ret
      exact ⟨rfl, rfl⟩

/-- A row's slice: it lies in the column's own block. -/
theorem col_row0 {w : World} {p n size c k x y : Nat} {A : Option Addr} {r : Int} (hp : w.heap[p]? = some (.cells #[.slice A n c, .int .i64 r, .int .i64 (size : Nat)] 106 (0, 0)))
    (hnc : n ≤ c) (hc : c ≤ 9223372036854775807) (hA : A = none → c = 0) (e1 : ((k : Int) + 1) * (size : Int) = (y : Nat)) (e0 : (k : Int) * (size : Int) = (x : Nat)) (hy : x + size = y) (hb : y ≤ n) (hb2 : n ≤ 65536) (hki : (k : Int) ≤ 1024) :
    Calls Try.prog 74 #[.pointer (some ⟨p, 0, none⟩), .int .i64 k] w fun e w' => ∃ A' nq, e = .returned (.slice A' size size) ∧ w' = w.drewN nq ∧ (A' = none → size = 0) ∧ ∀ a, 0 < size → A = some a → A' = some (a.add x) := by
  have c0 : w.cell? ⟨p, 0, none⟩ = some (.slice A n c) := by rw [cell_of_row w p 0 _ _ _ hp]; rfl
  have c2 : w.cell? ⟨p, 2, none⟩ = some (.int .i64 (size : Nat)) := by rw [cell_of_row w p 2 _ _ _ hp]; rfl
  clear hp
  have hx : x ≤ y := by omega
  have hyi : (y : Int) ≤ 65536 := by omega
  have hs : y - x = size := by omega
  rcases A with _ | a
  · obtain rfl := hA rfl
    obtain rfl : n = 0 := by omega
    obtain rfl : y = 0 := by omega
    obtain rfl : x = 0 := by omega
    obtain rfl : size = 0 := by omega
    have e0' : (k : Int) * 0 = 0 := by omega
    have e1' : ((k : Int) + 1) * 0 = 0 := by omega
    go_enter Try.func74, Try.ntmps74
    go_wp2
    go_quiet (fail)
    go_wp2
    go_ret
    exact ⟨_, _, rfl, rfl, fun _ => trivial, fun a h => absurd h (by omega)⟩
  · go_enter Try.func74, Try.ntmps74
    go_wp2
    go_quiet (fail)
    go_wp2
    all_goals go_ret
    · exact ⟨_, rfl, ⟨_, rfl⟩, (fun h => by cases h), fun hs => by omega⟩
    · exact ⟨_, rfl, ⟨_, rfl⟩, (fun h => by cases h), fun _ => rfl⟩

/-- Where row k lies; what it reads as. -/
theorem col_row {w : World} {p : Nat} {Foot : Nat → Prop} {size : Nat} {R : List (List UInt8)} (h : Col w p Foot size R) (k : Nat) (hk : k < R.length) :
    ∃ A c, w.heap[p]? = some (.cells #[.slice A (R.length * size) c, .int .i64 (R.length : Nat), .int .i64 (size : Nat)] 106 (0, 0)) ∧ Own w 0 5 1 (.slice A (R.length * size) c) (R.length * size) (bv R.flatten) ∧
      Calls Try.prog 74 #[.pointer (some ⟨p, 0, none⟩), .int .i64 k] w fun e w' => ∃ A' nq, e = .returned (.slice A' size size) ∧ w' = w.drewN nq ∧ By w Foot (.slice A' size size) (R.getD k []) ∧
        (0 < size → ∃ g cur, A = some ⟨g, 0, none⟩ ∧ A' = some ⟨g, k * size, none⟩ ∧ w.heap[g]? = some (.cells cur 5 (0, 0)) ∧ cur.size = c ∧ R.length * size ≤ c) := by
  obtain ⟨vs, hp, hown, hf⟩ := h.ex
  have hown' := hown
  obtain ⟨hl, A, c, rfl, hnc, hc, hg⟩ := hown
  have hb : k * size + size ≤ R.length * size := by rw [← Nat.succ_mul]; exact Nat.mul_le_mul_right _ hk
  have hb2 : R.length * size ≤ 65536 := Nat.mul_le_mul h.few h.small
  have hk2 := h.few
  refine ⟨A, c, hp, hown', (col_row0 hp hnc hc (fun hA => ?_) (x := k * size) (by rw [Int.add_mul, Int.one_mul]; simp) (by simp) rfl hb hb2 (by omega)).mono ?_⟩
  · rcases Nat.eq_zero_or_pos c with h0 | h0
    · exact h0
    · obtain ⟨g, _, e, _⟩ := hg h0
      rw [hA] at e
      cases e
  rintro e w' ⟨A', nq, rfl, rfl, hn, ha⟩
  have hr := h.wide (R.getD k []) (by rw [List.getD_eq_getElem?_getD, List.getElem?_eq_getElem hk]; exact List.getElem_mem _)
  have key : 0 < size → ∃ g cur, A = some ⟨g, 0, none⟩ ∧ A' = some ⟨g, k * size, none⟩ ∧ w.heap[g]? = some (.cells cur 5 (0, 0)) ∧ cur.size = c ∧ R.length * size ≤ c := fun hs => by
    obtain ⟨g, cur, rfl, _, hgg, hcs, _⟩ := hg (by have : 0 < R.length * size := Nat.mul_pos (by omega) hs; omega)
    have := ha _ hs rfl
    refine ⟨g, cur, rfl, ?_, hgg, by rw [hcs, Nat.mul_one], hnc⟩
    rw [this]
    simp [Addr.add]
    omega
  refine ⟨A', nq, rfl, rfl, ?_, key⟩
  refine ⟨A', size, ?_, ?_, by have := h.small; unfold maxLen; omega, hn, ?_⟩
  · rw [hr]
  · rw [hr]; exact Nat.le_refl _
  · refine ⟨by rw [bv_len, Nat.mul_one], fun hs => ?_⟩
    rw [hr, Nat.mul_one] at hs
    obtain ⟨g, cur, hA, hA', hgg, hcs, _⟩ := key hs
    obtain ⟨g', cur', hA2, _, hgg', hcs', ht⟩ := hg (by have : 0 < R.length * size := Nat.mul_pos (by omega) hs; omega)
    rw [hA] at hA2
    injection hA2 with hA2
    injection hA2 with hA2
    subst hA2
    rw [hgg] at hgg'
    injection hgg' with hgg'
    injection hgg' with hgg'
    subst hgg'
    refine ⟨g, k * size, hA', hf g (by rw [hA]; obtain ⟨c', rfl⟩ : ∃ c', c = c' + 1 := ⟨c - 1, by have : 0 < R.length * size := Nat.mul_pos (by omega) hs; omega⟩; rfl), fun i u hu => ?_⟩
    rw [cell_of_row w g _ cur _ _ hgg]
    rw [← flatten_row h.wide hk, bv, List.map_take, List.map_drop, List.getElem?_take] at hu
    split at hu
    · rw [List.getElem?_drop] at hu
      have e : (bv R.flatten)[k * size + i]? = some u := hu
      rw [← ht, List.getElem?_take] at e
      split at e
      · simpa using e
      · cases e
    · cases hu
end Go.Proofs.Ytmlbkenbgajkmaa

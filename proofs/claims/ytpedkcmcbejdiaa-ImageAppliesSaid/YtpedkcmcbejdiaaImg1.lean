/- Disks in memory: contracts of disk.New, Of, (*Disk).Bytes, slices.Grow, Concat at []byte. -/
import Derived.Test.YtpedkcmcbejdiaaArgs
import Derived.Test.YtpedkcmcbejdiaaRdr
import Derived.Test.YtpedkcmcbejdiaaMap
import Derived.Test.YtpedkcmcbejdiaaPart1
import Derived.Lib.AppendZerosOnto
import Derived.Deep.Cut
import Derived.Deep.RegionLaw
import Derived.Deep.RegionHeld3
import Derived.Deep.LoopGhost
import Derived.RegionTactic
import Derived.OwnWalk
namespace Go.Proofs.Ytpedkcmcbejdiaa
open Go.RowKit
set_option maxRecDepth 100000
set_option linter.unusedVariables false
set_option linter.unusedSimpArgs false

def zer (n : Nat) : List UInt8 := List.replicate n 0
theorem zer_len (n : Nat) : (zer n).length = n := List.length_replicate
theorem bv_zer (n : Nat) : (bv (zer n)) = List.replicate n (.int .u8 0) := by unfold bv zer; rw [List.map_replicate]; rfl
/-- Rows of 512 bytes, each in a block of its own, in a list of slices of the call's own. -/
structure Grid (w : World) (B : Nat) (u : Value) (gs : List Nat) (R : List (List UInt8)) : Prop where
  len : gs.length = R.length
  own : Own w B 22 1 u R.length (gs.map fun g => Value.slice (some ⟨g, 0, none⟩) 512 512)
  row : ∀ (i : Nat) (g : Nat) (r : List UInt8), gs[i]? = some g → R[i]? = some r → B ≤ g ∧ ownB u ≠ some g ∧ r.length = 512 ∧ w.heap[g]? = some (.cells (bv r).toArray 5 (0, 0))
  inj : ∀ (i j : Nat) (g : Nat), gs[i]? = some g → gs[j]? = some g → i = j
section
variable {w w' : World} {B : Nat} {u : Value} {gs : List Nat} {R : List (List UInt8)} {S : Nat → Prop}
theorem Grid.nil (w : World) (B : Nat) : Grid w B (.slice none 0 0) [] [] := ⟨rfl, Own.none_ _ _ _ _ _, fun i g r h => by simp at h, fun i j g h => by simp at h⟩
theorem Grid.ge (h : Grid w B u gs R) {g : Nat} (hg : g ∈ gs) : B ≤ g ∧ g < w.heap.size ∧ ownB u ≠ some g := by
  obtain ⟨i, hi, rfl⟩ := List.getElem_of_mem hg
  have hl := h.len
  have := h.row i _ _ (List.getElem?_eq_getElem hi) (List.getElem?_eq_getElem (by omega))
  exact ⟨this.1, (Array.getElem?_eq_some_iff.1 this.2.2.2).1, this.2.1⟩
theorem Grid.keep (h : Grid w B u gs R) (hk : Keep S w w') (hs : ∀ b, B ≤ b → b < w.heap.size → ¬ S b) : Grid w' B u gs R :=
  ⟨h.len, h.own.keep hk (fun k e => by obtain ⟨h3, h4⟩ := h.own.ownB k e; exact hs k h3 h4), fun i g r hg hr => by
    obtain ⟨h1, h2, h3, h4⟩ := h.row i g r hg hr
    have hl := (Array.getElem?_eq_some_iff.1 h4).1
    exact ⟨h1, h2, h3, (hk.block g hl (hs g h1 hl)).trans h4⟩, h.inj⟩
theorem row_by {g : Nat} {r : List UInt8} {F : Nat → Prop} (hl : r.length = 512) (hg : w.heap[g]? = some (.cells (bv r).toArray 5 (0, 0))) (hF : F g) : By w F (.slice (some ⟨g, 0, none⟩) 512 512) r := by
  refine ⟨some ⟨g, 0, none⟩, 512, by rw [hl], by omega, by unfold maxLen; omega, (fun h => by cases h), ⟨by rw [bv_len, Nat.mul_one], fun _ => ⟨g, 0, rfl, hF, fun i u hu => ?_⟩⟩⟩
  rw [Nat.zero_add, cell_of_row w g i _ _ _ hg]
  simpa using hu
theorem Grid.list (h : Grid w B u gs R) : ListSt B w u R := by
  refine ⟨_, h.own, fun i r hr => ?_⟩
  have hi : i < gs.length := by rw [h.len]; exact (List.getElem?_eq_some_iff.1 hr).1
  obtain ⟨h1, h2, h3, h4⟩ := h.row i gs[i] r (List.getElem?_eq_getElem hi) hr
  exact ⟨_, by rw [List.getElem?_map, List.getElem?_eq_getElem hi]; rfl, row_by h3 h4 ⟨h1, h2⟩⟩
theorem Grid.len_ (h : Grid w B u gs R) : ∀ r ∈ R, r.length = 512 := fun r hr => by
  obtain ⟨i, hi, rfl⟩ := List.getElem_of_mem hr
  have hl := h.len
  exact (h.row i gs[i] R[i] (List.getElem?_eq_getElem (by omega)) (List.getElem?_eq_getElem hi)).2.2.1
/-- One more, in a new block. -/
theorem Grid.push {W : World} {u' : Value} {g : Nat} {r : List UInt8} (h : Grid w B u gs R) (hW : Keep (fun b => w.heap.size ≤ b) w W) (hg : W.heap[g]? = some (.cells (bv r).toArray 5 (0, 0))) (hr : r.length = 512) (hwg : w.heap.size ≤ g) (hB : B ≤ w.heap.size)
    (ho : Own w' B 22 1 u' (R.length + 1) ((gs.map fun g => Value.slice (some ⟨g, 0, none⟩) 512 512) ++ [.slice (some ⟨g, 0, none⟩) 512 512])) (hk : Keep (fun k => ownB u = some k) W w') (hn : ∀ k, ownB u' = some k → ownB u = some k ∨ W.heap.size ≤ k) : Grid w' B u' (gs ++ [g]) (R ++ [r]) := by
  have hlt := fun k e => (h.own.ownB k e).2
  have hgW := (Array.getElem?_eq_some_iff.1 hg).1
  have hl := h.len
  refine ⟨by simp [h.len], by rw [List.length_append, List.map_append]; exact ho, fun i g' r' hi hr' => ?_, fun i j g' hi hj => ?_⟩
  · rcases Nat.lt_or_ge i R.length with hi' | hi'
    · rw [List.getElem?_append_left (by omega)] at hi hr'
      obtain ⟨h1, h2, h3, h4⟩ := h.row i g' r' hi hr'
      have hl' := (Array.getElem?_eq_some_iff.1 h4).1
      have hW' := (hW.block g' hl' (by omega)).trans h4
      refine ⟨h1, fun e => ?_, h3, (hk.block g' (Array.getElem?_eq_some_iff.1 hW').1 h2).trans hW'⟩
      rcases hn g' e with e | e
      · exact h2 e
      · have := hW.size; omega
    · rw [List.getElem?_append_right (by omega)] at hi hr'
      match hj : i - R.length, hr' with
      | 0, hr' =>
        obtain rfl : r = r' := by simpa using hr'
        rw [hl, hj] at hi
        obtain rfl : g = g' := by simpa using hi
        refine ⟨by omega, fun e => ?_, hr, (hk.block g hgW (fun e => by have := hlt g e; omega)).trans hg⟩
        rcases hn g e with e | e
        · have := hlt g e; omega
        · omega
  · have hne : ∀ a, gs[a]? = some g → False := fun a ha => by
      have := (h.ge (List.mem_of_getElem? ha)).2.1; omega
    rcases Nat.lt_or_ge i gs.length with hi' | hi' <;> rcases Nat.lt_or_ge j gs.length with hj' | hj'
    · rw [List.getElem?_append_left hi'] at hi
      rw [List.getElem?_append_left hj'] at hj
      exact h.inj i j g' hi hj
    · rw [List.getElem?_append_left hi'] at hi
      rw [List.getElem?_append_right hj'] at hj
      match hq : j - gs.length, hj with
      | 0, hj => obtain rfl : g = g' := by simpa using hj
                 exact (hne i hi).elim
    · rw [List.getElem?_append_right hi'] at hi
      rw [List.getElem?_append_left hj'] at hj
      match hq : i - gs.length, hi with
      | 0, hi => obtain rfl : g = g' := by simpa using hi
                 exact (hne j hj).elim
    · rw [List.getElem?_append_right hi'] at hi
      rw [List.getElem?_append_right hj'] at hj
      match hp : i - gs.length, hq : j - gs.length, hi, hj with
      | 0, 0, _, _ => omega
      | 0, b + 1, _, hj => simp at hj
      | a + 1, _, hi, _ => simp at hi
/-- A row laid anew. -/
theorem Grid.set (h : Grid w B u gs R) {i g : Nat} {r : List UInt8} (hi : gs[i]? = some g) (hr : r.length = 512) (hk : Keep (fun k => k = g) w w') (hg : w'.heap[g]? = some (.cells (bv r).toArray 5 (0, 0))) : Grid w' B u gs (R.set i r) := by
  have hl := h.len
  have hgm := h.ge (List.mem_of_getElem? hi)
  have hil := (List.getElem?_eq_some_iff.1 hi).1
  refine ⟨by rw [List.length_set]; exact hl, by rw [List.length_set]; exact h.own.keep hk (fun k e he => by subst he; exact hgm.2.2 e), fun j g' r' hj hr' => ?_, h.inj⟩
  by_cases e : i = j
  · subst e
    obtain rfl : g = g' := by rw [hi] at hj; exact Option.some.inj hj
    rw [List.getElem?_set_self (by omega)] at hr'
    obtain rfl := Option.some.inj hr'
    exact ⟨hgm.1, hgm.2.2, hr, hg⟩
  · rw [List.getElem?_set_ne e] at hr'
    obtain ⟨h1, h2, h3, h4⟩ := h.row j g' r' hj hr'
    exact ⟨h1, h2, h3, (hk.block g' (Array.getElem?_eq_some_iff.1 h4).1 (fun e' => by subst e'; exact e (h.inj i j g' hi hj))).trans h4⟩
end

theorem made_zer (n : Nat) : madeCells (Value.int .u8 0).cells n = (bv (zer n)).toArray := Array.ext' (bv_zeros n)
theorem run_make512 (W : World) : (Instr.makeSlice 22 (.int .i64 512) (.int .i64 512)).run Try.prog W = .ok (.slice (some ⟨W.heap.size, 0, none⟩) 512 512) (W.alloc (.cells (bv (zer 512)).toArray 5)) := by
  obtain ⟨i0, hi0, hz0, hz1, hz2⟩ := info_parts info_byte
  have := run_makeSlice (P := Try.prog) W 22 5 i0 _ Try.underlying22 hi0 hz0 .i64 .i64 512 512 (by decide) (by decide) (by rw [hz1]; decide) (by rw [hz2]; decide) (by decide)
  rw [this, hz1]
  rw [made_zer]
  rfl
/-- Where disk.New and Of stand: the disk in block p, its rows behind it. -/
structure DSt (w W : World) (p : Nat) (gs : List Nat) (u : Value) (R : List (List UInt8)) : Prop where
  lt : w.heap.size < p
  box : W.heap[p]? = some (.cells #[u, .map (some (p - 1)), .int .i64 (-1), .bool false, .int .i64 0, .int .i64 0] 54 (0, 0))
  grid : Grid W (p + 1) u gs R
  below : Below w.heap.size w W
section
variable {w W W' : World} {p : Nat} {gs : List Nat} {u u' : Value} {R R' : List (List UInt8)}
theorem DSt.hp (h : DSt w W p gs u R) : p < W.heap.size := (Array.getElem?_eq_some_iff.1 h.box).1
theorem DSt.same (h : DSt w W p gs u R) (hk : Keep (fun _ => False) W W') : DSt w W' p gs u R :=
  ⟨h.lt, (hk.block p h.hp (fun h => h)).trans h.box, h.grid.keep hk (fun _ _ _ h => h), h.below.trans (hk.to_below'.mono h.below.size)⟩
end
end Go.Proofs.Ytpedkcmcbejdiaa

/- Contracts of graph.Sigs, vivariumref10.Fits, Sigs, and of a graph that is nil. -/
import Derived.Test.YtdeifjnhbdkkgaaGreatDoorGraph5
import Derived.Test.YtdeifjnhbdkkgaaGreatDoorBitsWA
namespace Go.Proofs.YtdeifjnhbdkkgaaGreatDoor
open Go.RowKit
set_option maxRecDepth 100000

/-- Has s all of a, and nothing of b? -/
def fitsB (s a b : Nat) : Bool := ((bl a 64).all fun c => s.testBit c) && ((bl b 64).all fun c => !s.testBit c)
theorem fitsB_true {s a b : Nat} (h : ∀ c, c < 64 → (a.testBit c = true → s.testBit c = true) ∧ (b.testBit c = true → s.testBit c = false)) : fitsB s a b = true := by
  unfold fitsB
  rw [Bool.and_eq_true, List.all_eq_true, List.all_eq_true]
  refine ⟨fun c hc => ?_, fun c hc => ?_⟩
  · obtain ⟨h1, h2⟩ := (bl_mem a 64 c).1 hc
    exact (h c h1).1 h2
  · obtain ⟨h1, h2⟩ := (bl_mem b 64 c).1 hc
    rw [(h c h1).2 h2]; rfl
theorem fitsB_false1 {s a b c : Nat} (hc : c < 64) (ha : a.testBit c = true) (hs : s.testBit c = false) : fitsB s a b = false := by
  unfold fitsB
  rw [Bool.and_eq_false_iff]
  left
  rw [List.all_eq_false]
  exact ⟨c, (bl_mem a 64 c).2 ⟨hc, ha⟩, by rw [hs]; simp⟩
theorem fitsB_false2 {s a b c : Nat} (hc : c < 64) (hb : b.testBit c = true) (hs : s.testBit c = true) : fitsB s a b = false := by
  unfold fitsB
  rw [Bool.and_eq_false_iff]
  right
  rw [List.all_eq_false]
  exact ⟨c, (bl_mem b 64 c).2 ⟨hc, hb⟩, by rw [hs]; simp⟩
/-- The nodes ahead of k that fit. -/
def sgTo (S : List Nat) (a b : Nat) : Nat → List Nat
  | 0 => []
  | k + 1 => sgTo S a b k ++ if fitsB (S.getD k 0) a b = true then [k] else []
theorem sgTo_len (S : List Nat) (a b k : Nat) : (sgTo S a b k).length ≤ k := by
  induction k with
  | zero => exact Nat.le_refl _
  | succ k ih =>
    rw [sgTo, List.length_append]
    split <;> simp <;> omega

theorem gis_sigs {w : World} {p q : Nat} {Foot : Nat → Prop} {S : List Nat} (h : GrIs w p Foot q S) (a b : Nat) (ha : a < 18446744073709551616) (hb : b < 18446744073709551616) :
    Calls Tryz.prog 58 #[.pointer (some ⟨p, 0, none⟩), .int .u64 a, .int .u64 b] w fun e w' => ∃ v, e = .returned v ∧ Own w' w.heap.size 3 1 v (sgTo S a b S.length).length (iv (ints (sgTo S a b S.length))) ∧ Below w.heap.size w w' := by
  obtain ⟨i0, hi0, hz0, hz1, hz2⟩ := info_parts info_int
  have LE := Lib.hid (gis_len h)
  obtain ⟨q', bl', L, _, g⟩ := h
  obtain ⟨vs, bp, hp, hown0, _⟩ := g.ex
  obtain ⟨A, c, rfl, hr⟩ := hown0.form
  rw [Nat.mul_one] at hr
  have c0 : w.cell? ⟨p, 0, none⟩ = some (.slice A S.length c) := by rw [cell_of_row w p 0 _ _ _ hp]; rfl
  have hS := g.small
  have hn := g.len
  clear hp hown0 g
  obtain ⟨n, hn'⟩ : ∃ n, S.length = n := ⟨_, rfl⟩
  rw [hn'] at hr c0 LE hn ⊢
  have NN := Lib.hid hn'
  clear hn'
  go_enter Tryz.func58, Tryz.ntmps58
  go_wp2_with (go_at_call 72; refine LE.out.mono ?_; rintro e w4 ⟨rfl, rfl⟩)
  go_loopw [7, 12] (fun v i wr => ∃ k : Nat, k ≤ n ∧ i = .int .i64 k ∧ Own wr w.heap.size 3 1 v (sgTo S a b k).length (iv (ints (sgTo S a b k))) ∧ Below w.heap.size w wr) (fun _ i _ => n - (intOf i).toNat)
  case atStart => exact ⟨0, by omega, rfl, Own.none_ _ _ _ _ _, Below.refl _ _⟩
  case round =>
    obtain ⟨k, hk, rfl, hown, hbel⟩ := hrel
    have hl := sgTo_len S a b k
    by_cases hlt : k < n
    · obtain ⟨b1, o1, rfl, _, c1⟩ := hr.at_ hlt
      obtain ⟨e1, e2⟩ := uv_at (l := S) (k := k) (by rw [NN.out]; exact hlt)
      have c1 := (Keep.of_below' hbel).cell (fun h => h) (c1 k _ e1)
      have c0' := (Keep.of_below' hbel).cell (fun h => h) c0
      have hx := hS _ (List.mem_of_getElem? e2)
      have WI := Lib.hid (within_any a (S.getD k 0) ha hx wr)
      have AP := Lib.hid (apart_any b (S.getD k 0) hb hx wr)
      have NX := Lib.hid (show sgTo S a b (k + 1) = sgTo S a b k ++ if (((bl a 64).all fun c => (S.getD k 0).testBit c) && ((bl b 64).all fun c => !(S.getD k 0).testBit c)) = true then [k] else [] from rfl)
      clear e1 e2 hx hS c0
      generalize S.getD k 0 = x at *
      generalize ((bl a 64).all fun c => x.testBit c) = r1 at *
      generalize ((bl b 64).all fun c => !x.testBit c) = r2 at *
      have hi : (k : Int) < (n : Int) := by omega
      by_cases hrr : (r1 && r2) = true
      · obtain ⟨rfl, rfl⟩ : r1 = true ∧ r2 = true := by simpa using hrr
        have E := Lib.hid (show sgTo S a b (k + 1) = sgTo S a b k ++ [k] by rw [NX.out]; simp)
        clear NX hrr
        go_wp2_with (first
          | (go_at_call 73; refine WI.out.mono ?_; rintro e w4 ⟨rfl, rfl⟩)
          | (go_at_call 74; refine AP.out.mono ?_; rintro e w4 ⟨rfl, rfl⟩)
          | (at_builtin; refine wpList_append_gen _ rfl _ _ _ _ rfl w.heap.size 3 i0 _ 1 8 Tryz.underlying50 hi0 hz0 hz1 hz2 rfl _ _ _ rfl (hown.alloc _) _ 1 _ rfl (src_one _ _ Tryz.underlying50 rfl) ?c1 ?c2 ?c3 ?_))
        case c1 => unfold maxLen; omega
        case c2 => omega
        case c3 => have := hbel.size; simp; omega
        intro v' w1 hown' hk1 _
        have hb1 : Below w.heap.size w w1 := (Keep.trans (S := fun k => w.heap.size ≤ k) ((Keep.of_below hbel).alloc _) hk1 (fun x hx ht => (hown.ownB x ht).1)).below (Nat.le_refl _) (fun x hx => by omega)
        clear hk1 hown hbel
        go_wp2
        go_roundw
        case rel => exact ⟨k + 1, by omega, by go_num, by rw [E.out]; simpa [ints, iv] using hown', hb1⟩
        case measure => simp [intOf]; omega
      · have E := Lib.hid (show sgTo S a b (k + 1) = sgTo S a b k by rw [NX.out, if_neg hrr, List.append_nil])
        clear NX
        cases r1
        · go_wp2_with (go_at_call 73; refine WI.out.mono ?_; rintro e w4 ⟨rfl, rfl⟩)
          go_roundw
          case rel => exact ⟨k + 1, by omega, by go_num, by rw [E.out]; exact hown, hbel⟩
          case measure => simp [intOf]; omega
        · obtain rfl : r2 = false := by simpa using hrr
          go_wp2_with (first
            | (go_at_call 73; refine WI.out.mono ?_; rintro e w4 ⟨rfl, rfl⟩)
            | (go_at_call 74; refine AP.out.mono ?_; rintro e w4 ⟨rfl, rfl⟩))
          go_roundw
          case rel => exact ⟨k + 1, by omega, by go_num, by rw [E.out]; exact hown, hbel⟩
          case measure => simp [intOf]; omega
    · obtain rfl : k = n := by omega
      go_wp2
      go_ret
      exact ⟨_, rfl, hown, hbel⟩

/-- A graph that is nil. -/
theorem gnil_len (w : World) : Calls Tryz.prog 72 #[.pointer none] w fun e w' => e = .returned (.int .i64 0) ∧ w = w' := by
  go_enter Tryz.func72, Tryz.ntmps72
  go_wp2
  go_ret
  exact ⟨rfl, rfl⟩
theorem gnil_sig (w : World) : Calls Tryz.prog 75 #[.pointer none, .int .i64 0] w fun e w' => e = .returned (.tuple #[.int .u64 0, .bool false]) ∧ w = w' := by
  go_enter Tryz.func75, Tryz.ntmps75
  go_wp2_with (go_at_call 72; refine (gnil_len _).mono ?_; rintro e w' ⟨rfl, rfl⟩)
  go_ret2
  exact ⟨rfl, rfl⟩
theorem gnil_sigs (w : World) : Calls Tryz.prog 58 #[.pointer none, .int .u64 0, .int .u64 0] w fun e w' => e = .returned (.slice none 0 0) ∧ w = w' := by
  go_enter Tryz.func58, Tryz.ntmps58
  go_wp2_with (go_at_call 72; refine (gnil_len _).mono ?_; rintro e w' ⟨rfl, rfl⟩)
  go_loop [7, 12] (fun v i => v = .slice none 0 0 ∧ i = .int .i64 0) (fun _ _ => 0)
  case atStart => exact ⟨rfl, rfl⟩
  case round =>
    obtain ⟨rfl, rfl⟩ := hrel
    go_wp2
    go_ret
    exact ⟨rfl, rfl⟩
end Go.Proofs.YtdeifjnhbdkkgaaGreatDoor

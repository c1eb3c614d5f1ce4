/- The graph in memory; contracts of graph.Len, Find, Sig. -/
import Derived.Test.YtmlbkenbgajkmaaProg
import Derived.Test.YtmlbkenbgajkmaaBase
import Derived.Test.YtmlbkenbgajkmaaMap
import Derived.Test.YtmlbkenbgajkmaaGraphPl
import Derived.Lib.SmallJoins
namespace Go.Proofs.Ytmlbkenbgajkmaa
open Go.RowKit
open Go.Maps (Keyed)
set_option maxRecDepth 100000

theorem laidOut0 : laidOutB Try.prog = true := by kernel_rfl
theorem rowEdge : (113 : TypeId) < Try.prog.types.size := of_decide_eq_true (by kernel_rfl)
theorem wideEdge : (match Try.prog.underlying 113 with | some (.array _ _) | some (.struct _) => true | _ => false) = true := by kernel_rfl
theorem deepEdge : Try.prog.keyTypeAt (Try.prog.types.size + 1) 113 = true := by kernel_rfl
theorem cellsEdge : Try.prog.cellsOf 113 = 3 := by kernel_rfl
theorem keyedEdge : Keyed Try.prog 113 := Keyed.of_law (deep_law_laid laidOut0 (m := 2) (by omega) rowEdge (by kernel_rfl) wideEdge)
theorem keyedU64 : Keyed Try.prog 36 := Go.Maps.int_keyed Try.underlying36
theorem zeroInt (w : World) : (zeroValue 3).run Try.prog w = .ok (.int .i64 0) w := by kernel_rfl
theorem info_u64 : (Try.prog.info? 36).map (fun i => (i.zero, i.size, i.bytes)) = some (some (.int .u64 0), 1, 8) := by kernel_rfl

def edgeV (n c : Int) (b : Bool) : Value := .agg #[.int .i64 n, .int .i64 c, .bool b]
theorem keyU64 (s : Nat) (hs : s < 18446744073709551616) : keyOf Try.prog 36 (.int .u64 (s : Int)) = some (.int .u64 (s : Int)) :=
  Go.Maps.keyOf_int_mk Try.underlying36 (WalkArith.wf_u64 (by omega))
theorem keyU64_inv {v : Value} {l : Lit} (h : keyOf Try.prog 36 v = some l) : ∃ a : Int, v = .int .u64 a ∧ 0 ≤ a := by
  cases v <;> simp [keyOf, Try.underlying36, mapKey] at h
  obtain ⟨⟨rfl, hw⟩, -⟩ := h
  rename_i n
  have : 0 ≤ n ∧ n ≤ 18446744073709551615 := by simpa [Lit.wf, IntKind.min, IntKind.max, IntKind.signed, IntKind.bits] using hw
  exact ⟨n, rfl, this.1⟩
theorem keyEdge (n c : Int) (b : Bool) (hn : (Lit.int .i64 n).wf = true) (hc : (Lit.int .i64 c).wf = true) : ∃ l, keyOf Try.prog 113 (edgeV n c b) = some l := by
  have ht : ∀ w : World, DataW.Trod (H := Unit) (fun _ => ()) Try.prog w 0 (fun _ => false) false 113 (edgeV n c b) _ _ := fun w =>
    Joins.shut_agg3 (y0 := (.lit (.int .i64 n), [])) (y1 := (.lit (.int .i64 c), [])) (y2 := (.lit (.bool b), [])) Try.underlying113 (by kernel_rfl) cellsEdge
      ⟨1, by simp [DataW.trod, Try.underlying3, hn]⟩ ⟨1, by simp [DataW.trod, Try.underlying3, hc]⟩ ⟨1, by simp [DataW.trod, Try.underlying4]⟩
  obtain ⟨h, _⟩ := keyOf_asKey deepEdge wideEdge (by simp [edgeV, Value.formed, Try.underlying113, cellsEdge]) (ht default)
  exact ⟨_, h⟩

def placeF (S : List Nat) : Value → Option Value
  | .int .u64 a => (pos S a.toNat).map fun i => .int .i64 (i : Int)
  | _ => none
/-- What the steps lead to, as far as they were asked. -/
def LInv (S : List Nat) (L : Value → Option Value) : Prop :=
  ∀ (n c : Int) (b : Bool) (m : Value), L (edgeV n c b) = some m → ∃ s i : Nat, 0 ≤ n ∧ S[n.toNat]? = some s ∧ m = .int .i64 (i : Int) ∧ pos S (stepSig s c b) = some i

/-- The graph at block p: its sets are S; Foot: the blocks that are its own; q: no more steps were asked. -/
structure Gr (w : World) (p : Nat) (Foot : Nat → Prop) (q : Nat) (S : List Nat) (bl : Nat) (L : Value → Option Value) : Prop where
  ex : ∃ vs bp, w.heap[p]? = some (.cells #[vs, .map (some bp), .map (some bl)] 102 (0, 0)) ∧ Own w 0 36 1 vs S.length (uv S) ∧
    MapV w Try.prog 36 bp S.length (placeF S) ∧ MapV w Try.prog 113 bl q L ∧ LInv S L ∧ bp ≠ bl ∧ Foot bp ∧ Foot bl ∧ ∀ k, ownB vs = some k → Foot k
  at_ : Foot p
  lt : ∀ k, Foot k → k < w.heap.size
  small : ∀ x ∈ S, x < 18446744073709551616
  nodup : S.Nodup
  len : S.length ≤ 1099511627776
  asked : q ≤ 1099511627776

theorem gr_len (w : World) (p : Nat) (Foot : Nat → Prop) (q : Nat) (S : List Nat) (bl : Nat) (L : Value → Option Value) (h : Gr w p Foot q S bl L) :
    Calls Try.prog 26 #[.pointer (some ⟨p, 0, none⟩)] w fun e w' => e = .returned (.int .i64 (S.length : Nat)) ∧ w = w' := by
  obtain ⟨vs, bp, hp, hown, _⟩ := h.ex
  obtain ⟨A, c, rfl, _⟩ := hown.form
  have c0 : w.cell? ⟨p, 0, none⟩ = some (.slice A S.length c) := by rw [cell_of_row w p 0 _ _ _ hp]; rfl
  clear hp hown h
  generalize S.length = n at *
  go_enter Try.func26, Try.ntmps26
  go_wp2
  go_ret
  exact ⟨rfl, rfl⟩

theorem gr_find (w : World) (p : Nat) (Foot : Nat → Prop) (q : Nat) (S : List Nat) (bl : Nat) (L : Value → Option Value) (h : Gr w p Foot q S bl L) (x : Nat) (hx : x < 18446744073709551616) :
    Calls Try.prog 28 #[.pointer (some ⟨p, 0, none⟩), .int .u64 x] w fun e w' => e = .returned (.tuple #[.int .i64 ((pos S x).getD 0 : Nat), .bool (pos S x).isSome]) ∧ w = w' := by
  obtain ⟨vs, bp, hp, _, hm, _⟩ := h.ex
  have hlook := hm.look keyedU64 Try.underlying99 zeroInt (keyU64 x hx)
  have e : (placeF S (.int .u64 (x : Int))).getD (.int .i64 0) = .int .i64 ((pos S x).getD 0 : Nat) ∧ (placeF S (.int .u64 (x : Int))).isSome = (pos S x).isSome := by
    simp only [placeF, Int.toNat_natCast]
    cases pos S x <;> exact ⟨rfl, rfl⟩
  rw [e.1, e.2] at hlook
  have c1 : w.cell? ⟨p, 1, none⟩ = some (.map (some bp)) := by rw [cell_of_row w p 1 _ _ _ hp]; rfl
  clear hp hm h e
  generalize (pos S x).getD 0 = k at *
  generalize (pos S x).isSome = b at *
  go_enter Try.func28, Try.ntmps28
  go_wp2
  go_ret2
  exact ⟨rfl, rfl⟩

theorem gr_sig (w : World) (p : Nat) (Foot : Nat → Prop) (q : Nat) (S : List Nat) (bl : Nat) (L : Value → Option Value) (h : Gr w p Foot q S bl L) (n : Int) :
    Calls Try.prog 27 #[.pointer (some ⟨p, 0, none⟩), .int .i64 n] w fun e w' =>
      e = .returned (.tuple #[.int .u64 (if 0 ≤ n ∧ n < S.length then S.getD n.toNat 0 else 0 : Nat), .bool (decide (0 ≤ n) && decide (n < S.length))]) ∧ w = w' := by
  have hl := Lib.hid (gr_len w p Foot q S bl L h)
  obtain ⟨vs, bp, hp, hown, _⟩ := h.ex
  obtain ⟨A, c, rfl, hr⟩ := hown.form
  rw [Nat.mul_one] at hr
  have hlen := h.len
  have c0 : w.cell? ⟨p, 0, none⟩ = some (.slice A S.length c) := by rw [cell_of_row w p 0 _ _ _ hp]; rfl
  clear hp hown h
  by_cases h0 : n < 0
  · rw [if_neg (by omega), decide_eq_false (p := 0 ≤ n) (by omega)]
    generalize S.length = m at *
    go_enter Try.func27, Try.ntmps27
    go_wp2
    go_ret2
    exact ⟨rfl, rfl⟩
  · obtain ⟨k, rfl⟩ := Int.eq_ofNat_of_zero_le (show 0 ≤ n by omega)
    by_cases h1 : S.length ≤ k
    · rw [if_neg (by omega), decide_eq_false (p := (k : Int) < S.length) (by omega), Bool.and_false]
      generalize S.length = m at *
      go_enter Try.func27, Try.ntmps27
      go_wp2_with (go_at_call 26; refine hl.out.mono ?_; rintro e w' ⟨rfl, rfl⟩)
      go_ret2
      exact ⟨rfl, rfl⟩
    · obtain ⟨b, off, rfl, _, hc⟩ := hr.at_ (k := k) (by omega)
      have ck := hc k _ (uv_at (by omega)).1
      rw [if_pos (by omega), decide_eq_true (p := 0 ≤ (k : Int)) (by omega), decide_eq_true (p := (k : Int) < S.length) (by omega), Int.toNat_natCast]
      generalize S.getD k 0 = x at *
      clear hc hr
      generalize S.length = m at *
      go_enter Try.func27, Try.ntmps27
      go_wp2_with (go_at_call 26; refine hl.out.mono ?_; rintro e w' ⟨rfl, rfl⟩)
      go_ret2
      exact ⟨rfl, rfl⟩
end Go.Proofs.Ytmlbkenbgajkmaa

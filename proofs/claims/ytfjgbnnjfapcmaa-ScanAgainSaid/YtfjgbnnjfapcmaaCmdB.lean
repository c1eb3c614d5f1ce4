/- Contract of vivariumref13.Bytes. Printed by gencmdb.py. -/
import Derived.Test.YtfjgbnnjfapcmaaCmdP
import Derived.Test.YtfjgbnnjfapcmaaArgs
namespace Go.Proofs.Ytfjgbnnjfapcmaa
open Go.RowKit
set_option maxRecDepth 100000
set_option linter.unusedVariables false
set_option linter.unusedSimpArgs false

/-- The command's box and the bytes built so far. -/
def RB (w : World) (d : Int) (loc : Bool) (idx gen comp : Int) (u vb : Value) (l : List UInt8) (W : World) : Prop :=
  W.heap[w.heap.size]? = some (.cells #[.int .i64 d, .bool loc, .int .i64 idx, .int .i64 gen, .int .i64 comp, u] 83 (0, 0)) ∧ Ob W (w.heap.size + 1) vb l ∧ Below w.heap.size w W ∧ w.heap.size + 1 ≤ W.heap.size
section
variable {w W W' : World} {d : Int} {loc : Bool} {idx gen comp : Int} {u vb vb' : Value} {l l' : List UInt8}
theorem RB.below (h : RB w d loc idx gen comp u vb l W) (hb : Below W.heap.size W W') : RB w d loc idx gen comp u vb l W' :=
  ⟨(hb.block _ (Array.getElem?_eq_some_iff.1 h.1).1).trans h.1, h.2.1.same (Keep.of_below' hb), h.2.2.1.trans (hb.mono h.2.2.1.size), Nat.le_trans h.2.2.2 hb.size⟩
theorem RB.alloc (h : RB w d loc idx gen comp u vb l W) (o : Obj) : RB w d loc idx gen comp u vb l (W.alloc o) := h.below ((Below.refl _ W).alloc (Nat.le_refl _) o)
theorem RB.app (h : RB w d loc idx gen comp u vb l W) (ho : Ob W' (w.heap.size + 1) vb' l') (hk : Keep (fun k => ownB vb = some k) W W') : RB w d loc idx gen comp u vb' l' W' :=
  ⟨(hk.block _ (Array.getElem?_eq_some_iff.1 h.1).1 (fun e => by have := (h.2.1.ownB_ _ e).1; omega)).trans h.1, ho, h.2.2.1.trans ((Keep.mono (T := fun k => w.heap.size ≤ k) (h.2.1.keeps hk) (fun k _ e => by omega)).to_below h.2.2.1.size), Nat.le_trans h.2.2.2 hk.size⟩
theorem RB.first {lb : List UInt8} {w1 : World} (h1 : w1.heap[w.heap.size]? = some (.cells #[.int .i64 d, .bool loc, .int .i64 idx, .int .i64 gen, .int .i64 comp, u] 83 (0, 0))) (h2 : Below w.heap.size w w1) (ho : Ob W w1.heap.size vb lb) (hb : Below w1.heap.size w1 W) : RB w d loc idx gen comp u vb lb W :=
  have hp := (Array.getElem?_eq_some_iff.1 h1).1
  ⟨(hb.block _ hp).trans h1, ho.mono (by omega), h2.trans (hb.mono h2.size), Nat.le_trans hp hb.size⟩
theorem RB.post {A : Option Addr} {n c : Nat} (h : RB w d loc idx gen comp u (.slice A n c) l W) (e : l = l') : BytesPost w l' (.returned (.slice A n c)) W :=
  ⟨A, n, c, rfl, by rw [← e]; exact h.2.1.by_.mono (fun b _ h => by omega), h.2.2.1⟩
end
set_option maxHeartbeats 4000000 in
theorem rb_not (d : Int) (loc : Bool) (idx gen comp : Int) (B : Option Addr) (m c2 : Nat) (w : World) (hd : knownC d = false) :
    Calls Try.prog 47 #[.agg #[.int .i64 d, .bool loc, .int .i64 idx, .int .i64 gen, .int .i64 comp, .slice B m c2]] w (BytesPost w [255]) := by
  have hd2 : d < 0 ∨ 3 < d := by
    by_cases h : 0 ≤ d ∧ d ≤ 3
    · rw [show knownC d = true from decide_eq_true h] at hd; cases hd
    · omega
  clear hd
  by_cases h0 : d < 0
  · clear hd2
    go_enter Try.func47, Try.ntmps47
    go_wp2
    go_ret
    have HB := By.byte (w.alloc (.cells #[.int .i64 d, .bool loc, .int .i64 idx, .int .i64 gen, .int .i64 comp, .slice B m c2] 83 (0, 0))) 255 255 rfl
    rw [show (w.alloc (.cells #[.int .i64 d, .bool loc, .int .i64 idx, .int .i64 gen, .int .i64 comp, .slice B m c2] 83 (0, 0))).heap.size = w.heap.size + 1 from by simp] at HB
    exact ⟨_, _, _, rfl, HB.mono (fun b _ h => by have h' : b = w.heap.size + 1 := h; show w.heap.size ≤ b; omega), by exact (by repeat first | exact Below.refl _ _ | refine Below.setCell ?_ (by first | omega | (simp; done) | (simp; omega)) _ | refine Below.alloc ?_ (by first | omega | (simp; done) | (simp; omega)) _ | refine Below.drew ?_ | refine below_drewN ?_ _ | assumption)⟩
  · have h1 := hd2.resolve_left h0
    clear hd2
    go_enter Try.func47, Try.ntmps47
    go_wp2
    go_ret
    have HB := By.byte (w.alloc (.cells #[.int .i64 d, .bool loc, .int .i64 idx, .int .i64 gen, .int .i64 comp, .slice B m c2] 83 (0, 0))) 255 255 rfl
    rw [show (w.alloc (.cells #[.int .i64 d, .bool loc, .int .i64 idx, .int .i64 gen, .int .i64 comp, .slice B m c2] 83 (0, 0))).heap.size = w.heap.size + 1 from by simp] at HB
    exact ⟨_, _, _, rfl, HB.mono (fun b _ h => by have h' : b = w.heap.size + 1 := h; show w.heap.size ≤ b; omega), by exact (by repeat first | exact Below.refl _ _ | refine Below.setCell ?_ (by first | omega | (simp; done) | (simp; omega)) _ | refine Below.alloc ?_ (by first | omega | (simp; done) | (simp; omega)) _ | refine Below.drew ?_ | refine below_drewN ?_ _ | assumption)⟩

set_option maxHeartbeats 4000000 in
theorem rb_0 (idx gen comp : Int) (loc : Bool) (B : Option Addr) (m c2 : Nat) (w : World) :
    Calls Try.prog 47 #[.agg #[.int .i64 0, .bool loc, .int .i64 idx, .int .i64 gen, .int .i64 comp, .slice B m c2]] w (BytesPost w (leB (word 0) 1)) := by
  go_enter Try.func47, Try.ntmps47
  go_wp2_with fail
  refine (refNumZ 1 _ 1 rfl (by omega) _).mono ?_
  rintro e w1 ⟨a1, n1, c1, rfl, ho1, hb1⟩
  have G1 := Lib.hid (RB.first (d := 0) (loc := loc) (idx := idx) (gen := gen) (comp := comp) (u := .slice B m c2) (by (try simp only [heap_drew']); (try simp only [World.heap_drewN]); repeat (first | exact heap_alloc_at _ _ _ (by first | rfl | simp) | rw [Below.heap_alloc _ _ _ (by first | (simp; done) | (simp; omega))])) (by exact (by repeat first | exact Below.refl _ _ | refine Below.setCell ?_ (by first | omega | (simp; done) | (simp; omega)) _ | refine Below.alloc ?_ (by first | omega | (simp; done) | (simp; omega)) _ | refine Below.drew ?_ | refine below_drewN ?_ _ | assumption)) ho1 hb1)
  clear ho1 hb1
  obtain ⟨x0, x1, x2, x3, x4, x5, xf⟩ := cells6 G1.out.1
  go_wp2
  go_ret
  exact G1.out.post rfl
set_option maxHeartbeats 4000000 in
theorem rb_1t (idx gen comp : Int) (B : Option Addr) (m c2 : Nat) (w : World) :
    Calls Try.prog 47 #[.agg #[.int .i64 1, .bool true, .int .i64 idx, .int .i64 gen, .int .i64 comp, .slice B m c2]] w (BytesPost w ((leB (word 1) 1 ++ [1]) ++ leB (word idx) 8)) := by
  go_enter Try.func47, Try.ntmps47
  go_wp2_with fail
  refine (refNumZ 1 _ 1 rfl (by omega) _).mono ?_
  rintro e w1 ⟨a1, n1, c1, rfl, ho1, hb1⟩
  have G1 := Lib.hid (RB.first (d := 1) (loc := true) (idx := idx) (gen := gen) (comp := comp) (u := .slice B m c2) (by (try simp only [heap_drew']); (try simp only [World.heap_drewN]); repeat (first | exact heap_alloc_at _ _ _ (by first | rfl | simp) | rw [Below.heap_alloc _ _ _ (by first | (simp; done) | (simp; omega))])) (by exact (by repeat first | exact Below.refl _ _ | refine Below.setCell ?_ (by first | omega | (simp; done) | (simp; omega)) _ | refine Below.alloc ?_ (by first | omega | (simp; done) | (simp; omega)) _ | refine Below.drew ?_ | refine below_drewN ?_ _ | assumption)) ho1 hb1)
  clear ho1 hb1
  obtain ⟨x0, x1, x2, x3, x4, x5, xf⟩ := cells6 G1.out.1
  go_wp2_with (first | (refine wpList_app rfl _ _ rfl (w.heap.size + 1) _ _ rfl (G1.out.alloc _).2.1 _ _ _ rfl (By.byte _ 1 1 rfl) (by simp only [List.length_append, leB_len, List.length_cons, List.length_nil]; omega) (G1.out.alloc _).2.2.2 ?_) | fail)
  intro a2 n2 d2 w2 ho hk
  have G2 := Lib.hid ((G1.out.alloc _).app ho hk)
  clear ho hk
  clear x0 x1 x2 x3 x4 x5 xf G1
  obtain ⟨x0, x1, x2, x3, x4, x5, xf⟩ := cells6 G2.out.1
  go_wp2_with fail
  refine (refNumZ 8 _ 8 rfl (by omega) _).mono ?_
  rintro e w3 ⟨a3, n3, d3, rfl, ho, hb⟩
  have G3 := Lib.hid (G2.out.below hb)
  have Y := Lib.hid ho.by_
  clear ho hb
  clear x0 x1 x2 x3 x4 x5 xf G2
  obtain ⟨x0, x1, x2, x3, x4, x5, xf⟩ := cells6 G3.out.1
  go_wp2_with (first | (refine wpList_app rfl _ _ rfl (w.heap.size + 1) _ _ rfl G3.out.2.1 _ _ _ rfl Y.out (by simp only [List.length_append, leB_len, List.length_cons, List.length_nil]; omega) G3.out.2.2.2 ?_) | fail)
  intro a4 n4 d4 w4 ho hk
  have G4 := Lib.hid (G3.out.app ho hk)
  clear ho hk Y
  clear x0 x1 x2 x3 x4 x5 xf G3
  obtain ⟨x0, x1, x2, x3, x4, x5, xf⟩ := cells6 G4.out.1
  go_wp2
  go_ret
  exact G4.out.post rfl
set_option maxHeartbeats 4000000 in
theorem rb_1f (idx gen comp : Int) (B : Option Addr) (m c2 : Nat) (w : World) :
    Calls Try.prog 47 #[.agg #[.int .i64 1, .bool false, .int .i64 idx, .int .i64 gen, .int .i64 comp, .slice B m c2]] w (BytesPost w (((leB (word 1) 1 ++ [0]) ++ leB (word idx) 8) ++ leB (word gen) 8)) := by
  go_enter Try.func47, Try.ntmps47
  go_wp2_with fail
  refine (refNumZ 1 _ 1 rfl (by omega) _).mono ?_
  rintro e w1 ⟨a1, n1, c1, rfl, ho1, hb1⟩
  have G1 := Lib.hid (RB.first (d := 1) (loc := false) (idx := idx) (gen := gen) (comp := comp) (u := .slice B m c2) (by (try simp only [heap_drew']); (try simp only [World.heap_drewN]); repeat (first | exact heap_alloc_at _ _ _ (by first | rfl | simp) | rw [Below.heap_alloc _ _ _ (by first | (simp; done) | (simp; omega))])) (by exact (by repeat first | exact Below.refl _ _ | refine Below.setCell ?_ (by first | omega | (simp; done) | (simp; omega)) _ | refine Below.alloc ?_ (by first | omega | (simp; done) | (simp; omega)) _ | refine Below.drew ?_ | refine below_drewN ?_ _ | assumption)) ho1 hb1)
  clear ho1 hb1
  obtain ⟨x0, x1, x2, x3, x4, x5, xf⟩ := cells6 G1.out.1
  go_wp2_with (first | (refine wpList_app rfl _ _ rfl (w.heap.size + 1) _ _ rfl (G1.out.alloc _).2.1 _ _ _ rfl (By.byte _ 0 0 rfl) (by simp only [List.length_append, leB_len, List.length_cons, List.length_nil]; omega) (G1.out.alloc _).2.2.2 ?_) | fail)
  intro a2 n2 d2 w2 ho hk
  have G2 := Lib.hid ((G1.out.alloc _).app ho hk)
  clear ho hk
  clear x0 x1 x2 x3 x4 x5 xf G1
  obtain ⟨x0, x1, x2, x3, x4, x5, xf⟩ := cells6 G2.out.1
  go_wp2_with fail
  refine (refNumZ 8 _ 8 rfl (by omega) _).mono ?_
  rintro e w3 ⟨a3, n3, d3, rfl, ho, hb⟩
  have G3 := Lib.hid (G2.out.below hb)
  have Y := Lib.hid ho.by_
  clear ho hb
  clear x0 x1 x2 x3 x4 x5 xf G2
  obtain ⟨x0, x1, x2, x3, x4, x5, xf⟩ := cells6 G3.out.1
  go_wp2_with (first | (refine wpList_app rfl _ _ rfl (w.heap.size + 1) _ _ rfl G3.out.2.1 _ _ _ rfl Y.out (by simp only [List.length_append, leB_len, List.length_cons, List.length_nil]; omega) G3.out.2.2.2 ?_) | fail)
  intro a4 n4 d4 w4 ho hk
  have G4 := Lib.hid (G3.out.app ho hk)
  clear ho hk Y
  clear x0 x1 x2 x3 x4 x5 xf G3
  obtain ⟨x0, x1, x2, x3, x4, x5, xf⟩ := cells6 G4.out.1
  go_wp2_with fail
  refine (refNumZ 8 _ 8 rfl (by omega) _).mono ?_
  rintro e w5 ⟨a5, n5, d5, rfl, ho, hb⟩
  have G5 := Lib.hid (G4.out.below hb)
  have Y := Lib.hid ho.by_
  clear ho hb
  clear x0 x1 x2 x3 x4 x5 xf G4
  obtain ⟨x0, x1, x2, x3, x4, x5, xf⟩ := cells6 G5.out.1
  go_wp2_with (first | (refine wpList_app rfl _ _ rfl (w.heap.size + 1) _ _ rfl G5.out.2.1 _ _ _ rfl Y.out (by simp only [List.length_append, leB_len, List.length_cons, List.length_nil]; omega) G5.out.2.2.2 ?_) | fail)
  intro a6 n6 d6 w6 ho hk
  have G6 := Lib.hid (G5.out.app ho hk)
  clear ho hk Y
  clear x0 x1 x2 x3 x4 x5 xf G5
  obtain ⟨x0, x1, x2, x3, x4, x5, xf⟩ := cells6 G6.out.1
  go_wp2
  go_ret
  exact G6.out.post rfl
set_option maxHeartbeats 4000000 in
theorem rb_2t (idx gen comp : Int) (B : Option Addr) (m c2 : Nat) (w : World) (q : List UInt8) (G : Nat → Prop) (hq : By w G (.slice B m c2) q) (hm : m ≤ 1099511627776) :
    Calls Try.prog 47 #[.agg #[.int .i64 2, .bool true, .int .i64 idx, .int .i64 gen, .int .i64 comp, .slice B m c2]] w (BytesPost w (((((leB (word 2) 1 ++ [1]) ++ leB (word idx) 8) ++ leB (word comp) 8) ++ leB (word (m : Nat)) 2) ++ q)) := by
  have QB := Lib.hid (fun W (hk : Below w.heap.size w W) => hq.keep (Keep.of_below' hk) (fun _ _ _ h => h))
  have hql : q.length = m := by obtain ⟨_, _, e, _⟩ := hq; injection e with _ e2 _; exact e2.symm
  have QL := Lib.hid (show q.length ≤ 1099511627776 by omega)
  clear hq hql hm
  go_enter Try.func47, Try.ntmps47
  go_wp2_with fail
  refine (refNumZ 1 _ 1 rfl (by omega) _).mono ?_
  rintro e w1 ⟨a1, n1, c1, rfl, ho1, hb1⟩
  have G1 := Lib.hid (RB.first (d := 2) (loc := true) (idx := idx) (gen := gen) (comp := comp) (u := .slice B m c2) (by (try simp only [heap_drew']); (try simp only [World.heap_drewN]); repeat (first | exact heap_alloc_at _ _ _ (by first | rfl | simp) | rw [Below.heap_alloc _ _ _ (by first | (simp; done) | (simp; omega))])) (by exact (by repeat first | exact Below.refl _ _ | refine Below.setCell ?_ (by first | omega | (simp; done) | (simp; omega)) _ | refine Below.alloc ?_ (by first | omega | (simp; done) | (simp; omega)) _ | refine Below.drew ?_ | refine below_drewN ?_ _ | assumption)) ho1 hb1)
  clear ho1 hb1
  obtain ⟨x0, x1, x2, x3, x4, x5, xf⟩ := cells6 G1.out.1
  go_wp2_with (first | (refine wpList_app rfl _ _ rfl (w.heap.size + 1) _ _ rfl (G1.out.alloc _).2.1 _ _ _ rfl (By.byte _ 1 1 rfl) (by have := QL.out; simp only [List.length_append, leB_len, List.length_cons, List.length_nil]; omega) (G1.out.alloc _).2.2.2 ?_) | fail)
  intro a2 n2 d2 w2 ho hk
  have G2 := Lib.hid ((G1.out.alloc _).app ho hk)
  clear ho hk
  clear x0 x1 x2 x3 x4 x5 xf G1
  obtain ⟨x0, x1, x2, x3, x4, x5, xf⟩ := cells6 G2.out.1
  go_wp2_with fail
  refine (refNumZ 8 _ 8 rfl (by omega) _).mono ?_
  rintro e w3 ⟨a3, n3, d3, rfl, ho, hb⟩
  have G3 := Lib.hid (G2.out.below hb)
  have Y := Lib.hid ho.by_
  clear ho hb
  clear x0 x1 x2 x3 x4 x5 xf G2
  obtain ⟨x0, x1, x2, x3, x4, x5, xf⟩ := cells6 G3.out.1
  go_wp2_with (first | (refine wpList_app rfl _ _ rfl (w.heap.size + 1) _ _ rfl G3.out.2.1 _ _ _ rfl Y.out (by have := QL.out; simp only [List.length_append, leB_len, List.length_cons, List.length_nil]; omega) G3.out.2.2.2 ?_) | fail)
  intro a4 n4 d4 w4 ho hk
  have G4 := Lib.hid (G3.out.app ho hk)
  clear ho hk Y
  clear x0 x1 x2 x3 x4 x5 xf G3
  obtain ⟨x0, x1, x2, x3, x4, x5, xf⟩ := cells6 G4.out.1
  go_wp2_with fail
  refine (refNumZ 8 _ 8 rfl (by omega) _).mono ?_
  rintro e w5 ⟨a5, n5, d5, rfl, ho, hb⟩
  have G5 := Lib.hid (G4.out.below hb)
  have Y := Lib.hid ho.by_
  clear ho hb
  clear x0 x1 x2 x3 x4 x5 xf G4
  obtain ⟨x0, x1, x2, x3, x4, x5, xf⟩ := cells6 G5.out.1
  go_wp2_with (first | (refine wpList_app rfl _ _ rfl (w.heap.size + 1) _ _ rfl G5.out.2.1 _ _ _ rfl Y.out (by have := QL.out; simp only [List.length_append, leB_len, List.length_cons, List.length_nil]; omega) G5.out.2.2.2 ?_) | fail)
  intro a6 n6 d6 w6 ho hk
  have G6 := Lib.hid (G5.out.app ho hk)
  clear ho hk Y
  clear x0 x1 x2 x3 x4 x5 xf G5
  obtain ⟨x0, x1, x2, x3, x4, x5, xf⟩ := cells6 G6.out.1
  go_wp2_with fail
  refine (refNumZ 2 _ 2 rfl (by omega) _).mono ?_
  rintro e w7 ⟨a7, n7, d7, rfl, ho, hb⟩
  have G7 := Lib.hid (G6.out.below hb)
  have Y := Lib.hid ho.by_
  clear ho hb
  clear x0 x1 x2 x3 x4 x5 xf G6
  obtain ⟨x0, x1, x2, x3, x4, x5, xf⟩ := cells6 G7.out.1
  go_wp2_with (first | (refine wpList_app rfl _ _ rfl (w.heap.size + 1) _ _ rfl G7.out.2.1 _ _ _ rfl Y.out (by have := QL.out; simp only [List.length_append, leB_len, List.length_cons, List.length_nil]; omega) G7.out.2.2.2 ?_) | fail)
  intro a8 n8 d8 w8 ho hk
  have G8 := Lib.hid (G7.out.app ho hk)
  clear ho hk Y
  clear x0 x1 x2 x3 x4 x5 xf G7
  obtain ⟨x0, x1, x2, x3, x4, x5, xf⟩ := cells6 G8.out.1
  go_wp2_with (first | (refine wpList_app rfl _ _ rfl (w.heap.size + 1) _ _ rfl G8.out.2.1 _ _ _ rfl (QB.out _ (by exact G8.out.2.2.1)) (by have := QL.out; simp only [List.length_append, leB_len, List.length_cons, List.length_nil]; omega) G8.out.2.2.2 ?_) | fail)
  intro a9 n9 d9 w9 ho hk
  have G9 := Lib.hid (G8.out.app ho hk)
  clear ho hk
  clear x0 x1 x2 x3 x4 x5 xf G8
  obtain ⟨x0, x1, x2, x3, x4, x5, xf⟩ := cells6 G9.out.1
  go_wp2
  go_ret
  exact G9.out.post rfl
set_option maxHeartbeats 4000000 in
theorem rb_2f (idx gen comp : Int) (B : Option Addr) (m c2 : Nat) (w : World) (q : List UInt8) (G : Nat → Prop) (hq : By w G (.slice B m c2) q) (hm : m ≤ 1099511627776) :
    Calls Try.prog 47 #[.agg #[.int .i64 2, .bool false, .int .i64 idx, .int .i64 gen, .int .i64 comp, .slice B m c2]] w (BytesPost w ((((((leB (word 2) 1 ++ [0]) ++ leB (word idx) 8) ++ leB (word gen) 8) ++ leB (word comp) 8) ++ leB (word (m : Nat)) 2) ++ q)) := by
  have QB := Lib.hid (fun W (hk : Below w.heap.size w W) => hq.keep (Keep.of_below' hk) (fun _ _ _ h => h))
  have hql : q.length = m := by obtain ⟨_, _, e, _⟩ := hq; injection e with _ e2 _; exact e2.symm
  have QL := Lib.hid (show q.length ≤ 1099511627776 by omega)
  clear hq hql hm
  go_enter Try.func47, Try.ntmps47
  go_wp2_with fail
  refine (refNumZ 1 _ 1 rfl (by omega) _).mono ?_
  rintro e w1 ⟨a1, n1, c1, rfl, ho1, hb1⟩
  have G1 := Lib.hid (RB.first (d := 2) (loc := false) (idx := idx) (gen := gen) (comp := comp) (u := .slice B m c2) (by (try simp only [heap_drew']); (try simp only [World.heap_drewN]); repeat (first | exact heap_alloc_at _ _ _ (by first | rfl | simp) | rw [Below.heap_alloc _ _ _ (by first | (simp; done) | (simp; omega))])) (by exact (by repeat first | exact Below.refl _ _ | refine Below.setCell ?_ (by first | omega | (simp; done) | (simp; omega)) _ | refine Below.alloc ?_ (by first | omega | (simp; done) | (simp; omega)) _ | refine Below.drew ?_ | refine below_drewN ?_ _ | assumption)) ho1 hb1)
  clear ho1 hb1
  obtain ⟨x0, x1, x2, x3, x4, x5, xf⟩ := cells6 G1.out.1
  go_wp2_with (first | (refine wpList_app rfl _ _ rfl (w.heap.size + 1) _ _ rfl (G1.out.alloc _).2.1 _ _ _ rfl (By.byte _ 0 0 rfl) (by have := QL.out; simp only [List.length_append, leB_len, List.length_cons, List.length_nil]; omega) (G1.out.alloc _).2.2.2 ?_) | fail)
  intro a2 n2 d2 w2 ho hk
  have G2 := Lib.hid ((G1.out.alloc _).app ho hk)
  clear ho hk
  clear x0 x1 x2 x3 x4 x5 xf G1
  obtain ⟨x0, x1, x2, x3, x4, x5, xf⟩ := cells6 G2.out.1
  go_wp2_with fail
  refine (refNumZ 8 _ 8 rfl (by omega) _).mono ?_
  rintro e w3 ⟨a3, n3, d3, rfl, ho, hb⟩
  have G3 := Lib.hid (G2.out.below hb)
  have Y := Lib.hid ho.by_
  clear ho hb
  clear x0 x1 x2 x3 x4 x5 xf G2
  obtain ⟨x0, x1, x2, x3, x4, x5, xf⟩ := cells6 G3.out.1
  go_wp2_with (first | (refine wpList_app rfl _ _ rfl (w.heap.size + 1) _ _ rfl G3.out.2.1 _ _ _ rfl Y.out (by have := QL.out; simp only [List.length_append, leB_len, List.length_cons, List.length_nil]; omega) G3.out.2.2.2 ?_) | fail)
  intro a4 n4 d4 w4 ho hk
  have G4 := Lib.hid (G3.out.app ho hk)
  clear ho hk Y
  clear x0 x1 x2 x3 x4 x5 xf G3
  obtain ⟨x0, x1, x2, x3, x4, x5, xf⟩ := cells6 G4.out.1
  go_wp2_with fail
  refine (refNumZ 8 _ 8 rfl (by omega) _).mono ?_
  rintro e w5 ⟨a5, n5, d5, rfl, ho, hb⟩
  have G5 := Lib.hid (G4.out.below hb)
  have Y := Lib.hid ho.by_
  clear ho hb
  clear x0 x1 x2 x3 x4 x5 xf G4
  obtain ⟨x0, x1, x2, x3, x4, x5, xf⟩ := cells6 G5.out.1
  go_wp2_with (first | (refine wpList_app rfl _ _ rfl (w.heap.size + 1) _ _ rfl G5.out.2.1 _ _ _ rfl Y.out (by have := QL.out; simp only [List.length_append, leB_len, List.length_cons, List.length_nil]; omega) G5.out.2.2.2 ?_) | fail)
  intro a6 n6 d6 w6 ho hk
  have G6 := Lib.hid (G5.out.app ho hk)
  clear ho hk Y
  clear x0 x1 x2 x3 x4 x5 xf G5
  obtain ⟨x0, x1, x2, x3, x4, x5, xf⟩ := cells6 G6.out.1
  go_wp2_with fail
  refine (refNumZ 8 _ 8 rfl (by omega) _).mono ?_
  rintro e w7 ⟨a7, n7, d7, rfl, ho, hb⟩
  have G7 := Lib.hid (G6.out.below hb)
  have Y := Lib.hid ho.by_
  clear ho hb
  clear x0 x1 x2 x3 x4 x5 xf G6
  obtain ⟨x0, x1, x2, x3, x4, x5, xf⟩ := cells6 G7.out.1
  go_wp2_with (first | (refine wpList_app rfl _ _ rfl (w.heap.size + 1) _ _ rfl G7.out.2.1 _ _ _ rfl Y.out (by have := QL.out; simp only [List.length_append, leB_len, List.length_cons, List.length_nil]; omega) G7.out.2.2.2 ?_) | fail)
  intro a8 n8 d8 w8 ho hk
  have G8 := Lib.hid (G7.out.app ho hk)
  clear ho hk Y
  clear x0 x1 x2 x3 x4 x5 xf G7
  obtain ⟨x0, x1, x2, x3, x4, x5, xf⟩ := cells6 G8.out.1
  go_wp2_with fail
  refine (refNumZ 2 _ 2 rfl (by omega) _).mono ?_
  rintro e w9 ⟨a9, n9, d9, rfl, ho, hb⟩
  have G9 := Lib.hid (G8.out.below hb)
  have Y := Lib.hid ho.by_
  clear ho hb
  clear x0 x1 x2 x3 x4 x5 xf G8
  obtain ⟨x0, x1, x2, x3, x4, x5, xf⟩ := cells6 G9.out.1
  go_wp2_with (first | (refine wpList_app rfl _ _ rfl (w.heap.size + 1) _ _ rfl G9.out.2.1 _ _ _ rfl Y.out (by have := QL.out; simp only [List.length_append, leB_len, List.length_cons, List.length_nil]; omega) G9.out.2.2.2 ?_) | fail)
  intro a10 n10 d10 w10 ho hk
  have G10 := Lib.hid (G9.out.app ho hk)
  clear ho hk Y
  clear x0 x1 x2 x3 x4 x5 xf G9
  obtain ⟨x0, x1, x2, x3, x4, x5, xf⟩ := cells6 G10.out.1
  go_wp2_with (first | (refine wpList_app rfl _ _ rfl (w.heap.size + 1) _ _ rfl G10.out.2.1 _ _ _ rfl (QB.out _ (by exact G10.out.2.2.1)) (by have := QL.out; simp only [List.length_append, leB_len, List.length_cons, List.length_nil]; omega) G10.out.2.2.2 ?_) | fail)
  intro a11 n11 d11 w11 ho hk
  have G11 := Lib.hid (G10.out.app ho hk)
  clear ho hk
  clear x0 x1 x2 x3 x4 x5 xf G10
  obtain ⟨x0, x1, x2, x3, x4, x5, xf⟩ := cells6 G11.out.1
  go_wp2
  go_ret
  exact G11.out.post rfl
set_option maxHeartbeats 4000000 in
theorem rb_3t (idx gen comp : Int) (B : Option Addr) (m c2 : Nat) (w : World) :
    Calls Try.prog 47 #[.agg #[.int .i64 3, .bool true, .int .i64 idx, .int .i64 gen, .int .i64 comp, .slice B m c2]] w (BytesPost w (((leB (word 3) 1 ++ [1]) ++ leB (word idx) 8) ++ leB (word comp) 8)) := by
  go_enter Try.func47, Try.ntmps47
  go_wp2_with fail
  refine (refNumZ 1 _ 1 rfl (by omega) _).mono ?_
  rintro e w1 ⟨a1, n1, c1, rfl, ho1, hb1⟩
  have G1 := Lib.hid (RB.first (d := 3) (loc := true) (idx := idx) (gen := gen) (comp := comp) (u := .slice B m c2) (by (try simp only [heap_drew']); (try simp only [World.heap_drewN]); repeat (first | exact heap_alloc_at _ _ _ (by first | rfl | simp) | rw [Below.heap_alloc _ _ _ (by first | (simp; done) | (simp; omega))])) (by exact (by repeat first | exact Below.refl _ _ | refine Below.setCell ?_ (by first | omega | (simp; done) | (simp; omega)) _ | refine Below.alloc ?_ (by first | omega | (simp; done) | (simp; omega)) _ | refine Below.drew ?_ | refine below_drewN ?_ _ | assumption)) ho1 hb1)
  clear ho1 hb1
  obtain ⟨x0, x1, x2, x3, x4, x5, xf⟩ := cells6 G1.out.1
  go_wp2_with (first | (refine wpList_app rfl _ _ rfl (w.heap.size + 1) _ _ rfl (G1.out.alloc _).2.1 _ _ _ rfl (By.byte _ 1 1 rfl) (by simp only [List.length_append, leB_len, List.length_cons, List.length_nil]; omega) (G1.out.alloc _).2.2.2 ?_) | fail)
  intro a2 n2 d2 w2 ho hk
  have G2 := Lib.hid ((G1.out.alloc _).app ho hk)
  clear ho hk
  clear x0 x1 x2 x3 x4 x5 xf G1
  obtain ⟨x0, x1, x2, x3, x4, x5, xf⟩ := cells6 G2.out.1
  go_wp2_with fail
  refine (refNumZ 8 _ 8 rfl (by omega) _).mono ?_
  rintro e w3 ⟨a3, n3, d3, rfl, ho, hb⟩
  have G3 := Lib.hid (G2.out.below hb)
  have Y := Lib.hid ho.by_
  clear ho hb
  clear x0 x1 x2 x3 x4 x5 xf G2
  obtain ⟨x0, x1, x2, x3, x4, x5, xf⟩ := cells6 G3.out.1
  go_wp2_with (first | (refine wpList_app rfl _ _ rfl (w.heap.size + 1) _ _ rfl G3.out.2.1 _ _ _ rfl Y.out (by simp only [List.length_append, leB_len, List.length_cons, List.length_nil]; omega) G3.out.2.2.2 ?_) | fail)
  intro a4 n4 d4 w4 ho hk
  have G4 := Lib.hid (G3.out.app ho hk)
  clear ho hk Y
  clear x0 x1 x2 x3 x4 x5 xf G3
  obtain ⟨x0, x1, x2, x3, x4, x5, xf⟩ := cells6 G4.out.1
  go_wp2_with fail
  refine (refNumZ 8 _ 8 rfl (by omega) _).mono ?_
  rintro e w5 ⟨a5, n5, d5, rfl, ho, hb⟩
  have G5 := Lib.hid (G4.out.below hb)
  have Y := Lib.hid ho.by_
  clear ho hb
  clear x0 x1 x2 x3 x4 x5 xf G4
  obtain ⟨x0, x1, x2, x3, x4, x5, xf⟩ := cells6 G5.out.1
  go_wp2_with (first | (refine wpList_app rfl _ _ rfl (w.heap.size + 1) _ _ rfl G5.out.2.1 _ _ _ rfl Y.out (by simp only [List.length_append, leB_len, List.length_cons, List.length_nil]; omega) G5.out.2.2.2 ?_) | fail)
  intro a6 n6 d6 w6 ho hk
  have G6 := Lib.hid (G5.out.app ho hk)
  clear ho hk Y
  clear x0 x1 x2 x3 x4 x5 xf G5
  obtain ⟨x0, x1, x2, x3, x4, x5, xf⟩ := cells6 G6.out.1
  go_wp2
  go_ret
  exact G6.out.post rfl
set_option maxHeartbeats 4000000 in
theorem rb_3f (idx gen comp : Int) (B : Option Addr) (m c2 : Nat) (w : World) :
    Calls Try.prog 47 #[.agg #[.int .i64 3, .bool false, .int .i64 idx, .int .i64 gen, .int .i64 comp, .slice B m c2]] w (BytesPost w ((((leB (word 3) 1 ++ [0]) ++ leB (word idx) 8) ++ leB (word gen) 8) ++ leB (word comp) 8)) := by
  go_enter Try.func47, Try.ntmps47
  go_wp2_with fail
  refine (refNumZ 1 _ 1 rfl (by omega) _).mono ?_
  rintro e w1 ⟨a1, n1, c1, rfl, ho1, hb1⟩
  have G1 := Lib.hid (RB.first (d := 3) (loc := false) (idx := idx) (gen := gen) (comp := comp) (u := .slice B m c2) (by (try simp only [heap_drew']); (try simp only [World.heap_drewN]); repeat (first | exact heap_alloc_at _ _ _ (by first | rfl | simp) | rw [Below.heap_alloc _ _ _ (by first | (simp; done) | (simp; omega))])) (by exact (by repeat first | exact Below.refl _ _ | refine Below.setCell ?_ (by first | omega | (simp; done) | (simp; omega)) _ | refine Below.alloc ?_ (by first | omega | (simp; done) | (simp; omega)) _ | refine Below.drew ?_ | refine below_drewN ?_ _ | assumption)) ho1 hb1)
  clear ho1 hb1
  obtain ⟨x0, x1, x2, x3, x4, x5, xf⟩ := cells6 G1.out.1
  go_wp2_with (first | (refine wpList_app rfl _ _ rfl (w.heap.size + 1) _ _ rfl (G1.out.alloc _).2.1 _ _ _ rfl (By.byte _ 0 0 rfl) (by simp only [List.length_append, leB_len, List.length_cons, List.length_nil]; omega) (G1.out.alloc _).2.2.2 ?_) | fail)
  intro a2 n2 d2 w2 ho hk
  have G2 := Lib.hid ((G1.out.alloc _).app ho hk)
  clear ho hk
  clear x0 x1 x2 x3 x4 x5 xf G1
  obtain ⟨x0, x1, x2, x3, x4, x5, xf⟩ := cells6 G2.out.1
  go_wp2_with fail
  refine (refNumZ 8 _ 8 rfl (by omega) _).mono ?_
  rintro e w3 ⟨a3, n3, d3, rfl, ho, hb⟩
  have G3 := Lib.hid (G2.out.below hb)
  have Y := Lib.hid ho.by_
  clear ho hb
  clear x0 x1 x2 x3 x4 x5 xf G2
  obtain ⟨x0, x1, x2, x3, x4, x5, xf⟩ := cells6 G3.out.1
  go_wp2_with (first | (refine wpList_app rfl _ _ rfl (w.heap.size + 1) _ _ rfl G3.out.2.1 _ _ _ rfl Y.out (by simp only [List.length_append, leB_len, List.length_cons, List.length_nil]; omega) G3.out.2.2.2 ?_) | fail)
  intro a4 n4 d4 w4 ho hk
  have G4 := Lib.hid (G3.out.app ho hk)
  clear ho hk Y
  clear x0 x1 x2 x3 x4 x5 xf G3
  obtain ⟨x0, x1, x2, x3, x4, x5, xf⟩ := cells6 G4.out.1
  go_wp2_with fail
  refine (refNumZ 8 _ 8 rfl (by omega) _).mono ?_
  rintro e w5 ⟨a5, n5, d5, rfl, ho, hb⟩
  have G5 := Lib.hid (G4.out.below hb)
  have Y := Lib.hid ho.by_
  clear ho hb
  clear x0 x1 x2 x3 x4 x5 xf G4
  obtain ⟨x0, x1, x2, x3, x4, x5, xf⟩ := cells6 G5.out.1
  go_wp2_with (first | (refine wpList_app rfl _ _ rfl (w.heap.size + 1) _ _ rfl G5.out.2.1 _ _ _ rfl Y.out (by simp only [List.length_append, leB_len, List.length_cons, List.length_nil]; omega) G5.out.2.2.2 ?_) | fail)
  intro a6 n6 d6 w6 ho hk
  have G6 := Lib.hid (G5.out.app ho hk)
  clear ho hk Y
  clear x0 x1 x2 x3 x4 x5 xf G5
  obtain ⟨x0, x1, x2, x3, x4, x5, xf⟩ := cells6 G6.out.1
  go_wp2_with fail
  refine (refNumZ 8 _ 8 rfl (by omega) _).mono ?_
  rintro e w7 ⟨a7, n7, d7, rfl, ho, hb⟩
  have G7 := Lib.hid (G6.out.below hb)
  have Y := Lib.hid ho.by_
  clear ho hb
  clear x0 x1 x2 x3 x4 x5 xf G6
  obtain ⟨x0, x1, x2, x3, x4, x5, xf⟩ := cells6 G7.out.1
  go_wp2_with (first | (refine wpList_app rfl _ _ rfl (w.heap.size + 1) _ _ rfl G7.out.2.1 _ _ _ rfl Y.out (by simp only [List.length_append, leB_len, List.length_cons, List.length_nil]; omega) G7.out.2.2.2 ?_) | fail)
  intro a8 n8 d8 w8 ho hk
  have G8 := Lib.hid (G7.out.app ho hk)
  clear ho hk Y
  clear x0 x1 x2 x3 x4 x5 xf G7
  obtain ⟨x0, x1, x2, x3, x4, x5, xf⟩ := cells6 G8.out.1
  go_wp2
  go_ret
  exact G8.out.post rfl
theorem rcbytes_any (x : Cmd) (u : Value) (G : Nat → Prop) (w : World) (hq : By w G u x.l) (hm : x.l.length ≤ 1099511627776) :
    Calls Try.prog 47 #[cmdV x u] w (BytesPost w (bytesC x)) := by
  obtain ⟨d, loc, idx, gen, comp, q⟩ := x
  have hq0 := hq
  obtain ⟨B, c2, rfl, -⟩ := hq
  unfold cmdV
  by_cases hd : knownC d = false
  · rw [show bytesC ⟨d, loc, idx, gen, comp, q⟩ = [255] from by unfold bytesC; rw [if_pos hd]]
    exact rb_not d loc idx gen comp B _ c2 w hd
  have hd2 : d = 0 ∨ d = 1 ∨ d = 2 ∨ d = 3 := by
    have : 0 ≤ d ∧ d ≤ 3 := by
      by_cases h : 0 ≤ d ∧ d ≤ 3
      · exact h
      · exact absurd (decide_eq_false h) hd
    omega
  clear hd
  rcases hd2 with rfl | rfl | rfl | rfl
  · rw [show bytesC ⟨0, loc, idx, gen, comp, q⟩ = leB (word 0) 1 from by show leB (word 0) 1 ++ [] = _; rw [List.append_nil]]
    exact rb_0 idx gen comp loc B _ c2 w
  · rcases loc with _ | _
    · rw [show bytesC ⟨1, false, idx, gen, comp, q⟩ = (((leB (word 1) 1 ++ [0]) ++ leB (word idx) 8) ++ leB (word gen) 8) from by simp [bytesC, knownC, List.append_assoc]]
      exact rb_1f idx gen comp B _ c2 w
    · rw [show bytesC ⟨1, true, idx, gen, comp, q⟩ = ((leB (word 1) 1 ++ [1]) ++ leB (word idx) 8) from by simp [bytesC, knownC, List.append_assoc]]
      exact rb_1t idx gen comp B _ c2 w
  · rcases loc with _ | _
    · rw [show bytesC ⟨2, false, idx, gen, comp, q⟩ = ((((((leB (word 2) 1 ++ [0]) ++ leB (word idx) 8) ++ leB (word gen) 8) ++ leB (word comp) 8) ++ leB (word (q.length : Nat)) 2) ++ q) from by simp [bytesC, knownC, List.append_assoc]]
      exact rb_2f idx gen comp B _ c2 w q G hq0 hm
    · rw [show bytesC ⟨2, true, idx, gen, comp, q⟩ = (((((leB (word 2) 1 ++ [1]) ++ leB (word idx) 8) ++ leB (word comp) 8) ++ leB (word (q.length : Nat)) 2) ++ q) from by simp [bytesC, knownC, List.append_assoc]]
      exact rb_2t idx gen comp B _ c2 w q G hq0 hm
  · rcases loc with _ | _
    · rw [show bytesC ⟨3, false, idx, gen, comp, q⟩ = ((((leB (word 3) 1 ++ [0]) ++ leB (word idx) 8) ++ leB (word gen) 8) ++ leB (word comp) 8) from by simp [bytesC, knownC, List.append_assoc]]
      exact rb_3f idx gen comp B _ c2 w
    · rw [show bytesC ⟨3, true, idx, gen, comp, q⟩ = (((leB (word 3) 1 ++ [1]) ++ leB (word idx) 8) ++ leB (word comp) 8) from by simp [bytesC, knownC, List.append_assoc]]
      exact rb_3t idx gen comp B _ c2 w
end Go.Proofs.Ytfjgbnnjfapcmaa

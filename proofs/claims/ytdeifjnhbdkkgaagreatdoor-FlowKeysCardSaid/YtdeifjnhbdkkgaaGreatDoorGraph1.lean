/- The graph in memory; contracts of graph.Len, Find, Sig. -/
import Derived.Test.YtdeifjnhbdkkgaaGreatDoorProg
import Derived.Test.YtdeifjnhbdkkgaaGreatDoorMem
import Derived.Test.YtdeifjnhbdkkgaaGreatDoorMap
import Derived.Test.YtdeifjnhbdkkgaaGreatDoorGraphPl
import Derived.Lib.SmallJoins
import Derived.Test.YtdeifjnhbdkkgaaGreatDoorBits2
import Derived.Deep.RegionHeld3
namespace Go.Proofs.YtdeifjnhbdkkgaaGreatDoor
open Go.RowKit
open Go.Maps (Keyed)
set_option maxRecDepth 100000

theorem laidOut0 : laidOutB Tryz.prog = true := by kernel_rfl
theorem rowEdge : (193 : TypeId) < Tryz.prog.types.size := of_decide_eq_true (by kernel_rfl)
theorem wideEdge : (match Tryz.prog.underlying 193 with | some (.array _ _) | some (.struct _) => true | _ => false) = true := by kernel_rfl
theorem deepEdge : Tryz.prog.keyTypeAt (Tryz.prog.types.size + 1) 193 = true := by kernel_rfl
theorem cellsEdge : Tryz.prog.cellsOf 193 = 3 := by kernel_rfl
theorem keyedEdge : Keyed Tryz.prog 193 := Keyed.of_law (deep_law_laid laidOut0 (m := 2) (by omega) rowEdge (by kernel_rfl) wideEdge)
theorem keyedU64 : Keyed Tryz.prog 22 := Go.Maps.int_keyed Tryz.underlying22
theorem zeroInt (w : World) : (zeroValue 3).run Tryz.prog w = .ok (.int .i64 0) w := by kernel_rfl
theorem info_u64 : (Tryz.prog.info? 22).map (fun i => (i.zero, i.size, i.bytes)) = some (some (.int .u64 0), 1, 8) := by kernel_rfl

def edgeV (n c : Int) (b : Bool) : Value := .agg #[.int .i64 n, .int .i64 c, .bool b]
theorem keyU64 (s : Nat) (hs : s < 18446744073709551616) : keyOf Tryz.prog 22 (.int .u64 (s : Int)) = some (.int .u64 (s : Int)) :=
  Go.Maps.keyOf_int_mk Tryz.underlying22 (WalkArith.wf_u64 (by omega))
theorem keyU64_inv {v : Value} {l : Lit} (h : keyOf Tryz.prog 22 v = some l) : ∃ a : Int, v = .int .u64 a ∧ 0 ≤ a := by
  cases v <;> simp [keyOf, Tryz.underlying22, mapKey] at h
  obtain ⟨⟨rfl, hw⟩, -⟩ := h
  rename_i n
  have : 0 ≤ n ∧ n ≤ 18446744073709551615 := by simpa [Lit.wf, IntKind.min, IntKind.max, IntKind.signed, IntKind.bits] using hw
  exact ⟨n, rfl, this.1⟩
theorem keyEdge (n c : Int) (b : Bool) (hn : (Lit.int .i64 n).wf = true) (hc : (Lit.int .i64 c).wf = true) : ∃ l, keyOf Tryz.prog 193 (edgeV n c b) = some l := by
  have ht : ∀ w : World, DataW.Trod (H := Unit) (fun _ => ()) Tryz.prog w 0 (fun _ => false) false 193 (edgeV n c b) _ _ := fun w =>
    Joins.shut_agg3 (y0 := (.lit (.int .i64 n), [])) (y1 := (.lit (.int .i64 c), [])) (y2 := (.lit (.bool b), [])) Tryz.underlying193 (by kernel_rfl) cellsEdge
      ⟨1, by simp [DataW.trod, Tryz.underlying3, hn]⟩ ⟨1, by simp [DataW.trod, Tryz.underlying3, hc]⟩ ⟨1, by simp [DataW.trod, Tryz.underlying4]⟩
  obtain ⟨h, _⟩ := keyOf_asKey deepEdge wideEdge (by simp [edgeV, Value.formed, Tryz.underlying193, cellsEdge]) (ht default)
  exact ⟨_, h⟩

def placeF (S : List Nat) : Value → Option Value
  | .int .u64 a => (pos S a.toNat).map fun i => .int .i64 (i : Int)
  | _ => none
/-- What the steps lead to, as far as they were asked. -/
def LInv (S : List Nat) (L : Value → Option Value) : Prop :=
  ∀ (n c : Int) (b : Bool) (m : Value), L (edgeV n c b) = some m → ∃ s i : Nat, 0 ≤ n ∧ S[n.toNat]? = some s ∧ m = .int .i64 (i : Int) ∧ pos S (stepSig s c b) = some i

/-- The graph at block p: its sets are S; Foot: the blocks that are its own; q: no more steps were asked. -/
structure Gr (w : World) (p : Nat) (Foot : Nat → Prop) (q : Nat) (S : List Nat) (bl : Nat) (L : Value → Option Value) : Prop where
  ex : ∃ vs bp, w.heap[p]? = some (.cells #[vs, .map (some bp), .map (some bl)] 116 (0, 0)) ∧ Own w 0 22 1 vs S.length (uv S) ∧
    MapV w Tryz.prog 22 bp S.length (placeF S) ∧ MapV w Tryz.prog 193 bl q L ∧ LInv S L ∧ bp ≠ bl ∧ Foot bp ∧ Foot bl ∧ ∀ k, ownB vs = some k → Foot k
  at_ : Foot p
  lt : ∀ k, Foot k → k < w.heap.size
  small : ∀ x ∈ S, x < 18446744073709551616
  nodup : S.Nodup
  len : S.length ≤ 1099511627776
  asked : q ≤ 1099511627776

theorem gr_len (w : World) (p : Nat) (Foot : Nat → Prop) (q : Nat) (S : List Nat) (bl : Nat) (L : Value → Option Value) (h : Gr w p Foot q S bl L) :
    Calls Tryz.prog 72 #[.pointer (some ⟨p, 0, none⟩)] w fun e w' => e = .returned (.int .i64 (S.length : Nat)) ∧ w = w' := by
  obtain ⟨vs, bp, hp, hown, _⟩ := h.ex
  obtain ⟨A, c, rfl, _⟩ := hown.form
  have c0 : w.cell? ⟨p, 0, none⟩ = some (.slice A S.length c) := by rw [cell_of_row w p 0 _ _ _ hp]; rfl
  clear hp hown h
  generalize S.length = n at *
  go_enter Tryz.func72, Tryz.ntmps72
  go_wp2
  go_ret
  exact ⟨rfl, rfl⟩

theorem gr_sig (w : World) (p : Nat) (Foot : Nat → Prop) (q : Nat) (S : List Nat) (bl : Nat) (L : Value → Option Value) (h : Gr w p Foot q S bl L) (n : Int) :
    Calls Tryz.prog 75 #[.pointer (some ⟨p, 0, none⟩), .int .i64 n] w fun e w' =>
      e = .returned (.tuple #[.int .u64 (if 0 ≤ n ∧ n < S.length then S.getD n.toNat 0 else 0 : Nat), .bool (decide (0 ≤ n) && decide (n < S.length))]) ∧ w = w' := by
  have hl := Lib.hid (gr_len w p Foot q S bl L h)
  obtain ⟨vs, bp, hp, hown, _⟩ := h.ex
  obtain ⟨A, c, rfl, hr⟩ := hown.form
  rw [Nat.mul_one] at hr
  have hlen := h.len
  have c0 : w.cell? ⟨p, 0, none⟩ = some (.slice A S.length c) := by rw [cell_of_row w p 0 _ _ _ hp]; rfl
  clear hp hown h
  by_cases h0 : n < 0
  · rw [if_neg (by omega), decide_eq_false (p := 0 ≤ n) (by omega)]
    generalize S.length = m at *
    go_enter Tryz.func75, Tryz.ntmps75
    go_wp2
    go_ret2
    exact ⟨rfl, rfl⟩
  · obtain ⟨k, rfl⟩ := Int.eq_ofNat_of_zero_le (show 0 ≤ n by omega)
    by_cases h1 : S.length ≤ k
    · rw [if_neg (by omega), decide_eq_false (p := (k : Int) < S.length) (by omega), Bool.and_false]
      generalize S.length = m at *
      go_enter Tryz.func75, Tryz.ntmps75
      go_wp2_with (go_at_call 72; refine hl.out.mono ?_; rintro e w' ⟨rfl, rfl⟩)
      go_ret2
      exact ⟨rfl, rfl⟩
    · obtain ⟨b, off, rfl, _, hc⟩ := hr.at_ (k := k) (by omega)
      have ck := hc k _ (uv_at (by omega)).1
      rw [if_pos (by omega), decide_eq_true (p := 0 ≤ (k : Int)) (by omega), decide_eq_true (p := (k : Int) < S.length) (by omega), Int.toNat_natCast]
      generalize S.getD k 0 = x at *
      clear hc hr
      generalize S.length = m at *
      go_enter Tryz.func75, Tryz.ntmps75
      go_wp2_with (go_at_call 72; refine hl.out.mono ?_; rintro e w' ⟨rfl, rfl⟩)
      go_ret2
      exact ⟨rfl, rfl⟩
end Go.Proofs.YtdeifjnhbdkkgaaGreatDoor
namespace Go.Proofs.YtdeifjnhbdkkgaaGreatDoor
open Go.RowKit
open Go.Maps (Keyed)
set_option maxRecDepth 100000

/-- What a step leaves: the graph over other sets, its own blocks or new ones changed. -/
def GrStep (w : World) (p : Nat) (Foot : Nat → Prop) (q : Nat) (S : List Nat) (bl : Nat) (L : Value → Option Value) (w' : World) : Prop :=
  ∃ Foot', Gr w' p Foot' q S bl L ∧ Keep Foot w w' ∧ ∀ k, Foot' k → Foot k ∨ w.heap.size ≤ k

theorem placeF_snoc (S : List Nat) (x : Nat) (hx : x ∉ S) {v : Value} {l : Lit} (h : keyOf Tryz.prog 22 v = some l) :
    (v = .int .u64 (x : Int) → placeF (S ++ [x]) v = some (.int .i64 (S.length : Int))) ∧ (v ≠ .int .u64 (x : Int) → placeF (S ++ [x]) v = placeF S v) := by
  obtain ⟨a, rfl, ha⟩ := keyU64_inv h
  obtain ⟨n, rfl⟩ := Int.eq_ofNat_of_zero_le ha
  simp only [placeF, Int.toNat_natCast, pos_snoc S x n hx]
  constructor
  · intro e
    injection e with _ e
    rw [if_pos (by omega)]; rfl
  · intro e
    rw [if_neg (fun h => e (by rw [h]))]

theorem LInv.node {S : List Nat} {L : Value → Option Value} (h : LInv S L) (x : Nat) : LInv (nodeS S x) L := by
  intro n c b m hm
  obtain ⟨s, i, h1, h2, h3, h4⟩ := h n c b m hm
  exact ⟨s, i, h1, nodeS_at h2, h3, nodeS_keep h4⟩

end Go.Proofs.YtdeifjnhbdkkgaaGreatDoor
namespace Go.Proofs.YtdeifjnhbdkkgaaGreatDoor
open Go.RowKit
open Go.Maps (Keyed)
set_option maxRecDepth 100000

theorem Gr.keep {w w' : World} {p : Nat} {Foot : Nat → Prop} {q : Nat} {S : List Nat} {bl : Nat} {L : Value → Option Value} {T : Nat → Prop} (h : Gr w p Foot q S bl L) (hk : Keep T w w') (ht : ∀ k, Foot k → ¬ T k) : Gr w' p Foot q S bl L := by
  obtain ⟨vs, bp, hp, hown, hmp, hml, hL, hne, f1, f2, f3⟩ := h.ex
  exact ⟨⟨vs, bp, (hk.block p (h.lt p h.at_) (ht p h.at_)).trans hp, hown.keep hk (fun k hk => ht k (f3 k hk)), hmp.keep hk (ht bp f1), hml.keep hk (ht bl f2), hL, hne, f1, f2, f3⟩,
    h.at_, fun k hk' => Nat.lt_of_lt_of_le (h.lt k hk') hk.size, h.small, h.nodup, h.len, h.asked⟩
theorem Gr.more {w : World} {p : Nat} {Foot : Nat → Prop} {q q' : Nat} {S : List Nat} {bl : Nat} {L : Value → Option Value} (h : Gr w p Foot q S bl L) (hq : q ≤ q') (h2 : q' ≤ 1099511627776) : Gr w p Foot q' S bl L := by
  obtain ⟨vs, bp, hp, hown, hmp, hml, hL, hne, f1, f2, f3⟩ := h.ex
  exact ⟨⟨vs, bp, hp, hown, hmp, hml.mono hq, hL, hne, f1, f2, f3⟩, h.at_, h.lt, h.small, h.nodup, h.len, h2⟩
theorem GrStep.of_keep {w w' : World} {p : Nat} {Foot : Nat → Prop} {q q' : Nat} {S : List Nat} {bl : Nat} {L : Value → Option Value} (h : Gr w p Foot q S bl L) (hk : Keep (fun _ => False) w w') (hq : q ≤ q') (h2 : q' ≤ 1099511627776) : GrStep w p Foot q' S bl L w' :=
  ⟨Foot, (h.keep hk (fun _ _ h => h)).more hq h2, hk.mono (fun _ _ h => h.elim), fun _ h => .inl h⟩

noncomputable def updV (f : Value → Option Value) (key val : Value) : Value → Option Value := fun v => open Classical in if v = key then some val else f v
theorem updV_same (f : Value → Option Value) (key val : Value) : updV f key val key = some val := by unfold updV; rw [if_pos rfl]
theorem updV_other {f : Value → Option Value} {key val v : Value} (h : v ≠ key) : updV f key val v = f v := by unfold updV; rw [if_neg h]

/-- Behind 'g.leads[e] = g.Node(sig)'. -/
theorem lead_after {w W w2 : World} {p : Nat} {Foot Foot2 : Nat → Prop} {q : Nat} {S : List Nat} {bl : Nat} {L : Value → Option Value} (h : Gr w p Foot q S bl L) (hW : Keep (fun _ => False) w W) (hq : q < 1099511627776)
    {n : Nat} {c : Int} {b : Bool} {s x : Nat} {l : Lit} (hl : keyOf Tryz.prog 193 (edgeV n c b) = some l) (hs : S[n]? = some s) (hx : x = stepSig s c b)
    (hbox : W.heap[w.heap.size]? = some (.cells #[.int .i64 (n : Int), .int .i64 c, .bool b] 193 (0, 0)))
    (hg2 : Gr w2 p Foot2 q (nodeS S x) bl L) (hk2 : Keep Foot W w2) (hf2 : ∀ k, Foot2 k → Foot k ∨ W.heap.size ≤ k) :
    ∃ w3, (Instr.mapUpdate 114 (.map (some bl)) (edgeV n c b) (.int .i64 (nodeI S x : Nat))).run Tryz.prog w2 = .ok () w3 ∧
      (w2.cell? ⟨p, 2, none⟩ = some (.map (some bl)) ∧ w2.cell? ⟨w.heap.size, 0, none⟩ = some (.int .i64 (n : Int)) ∧ w2.cell? ⟨w.heap.size, 1, none⟩ = some (.int .i64 c) ∧ w2.cell? ⟨w.heap.size, 2, none⟩ = some (.bool b)) ∧
      (w3.cell? ⟨p, 2, none⟩ = some (.map (some bl)) ∧ w3.cell? ⟨w.heap.size, 0, none⟩ = some (.int .i64 (n : Int)) ∧ w3.cell? ⟨w.heap.size, 1, none⟩ = some (.int .i64 c) ∧ w3.cell? ⟨w.heap.size, 2, none⟩ = some (.bool b)) ∧
      (∀ nq, (Instr.lookup 114 (.map (some bl)) (edgeV n c b) false).run Tryz.prog (w3.drewN nq) = .ok (.int .i64 (nodeI S x : Nat)) (w3.drewN nq)) ∧
      ∀ nq, ∃ L', GrStep w p Foot (q + 1) (nodeS S x) bl L' (w3.drewN nq) := by
  obtain ⟨vs, bp, hp, hown, hmp, hml, hLI, hne, f1, f2, f3⟩ := hg2.ex
  obtain ⟨w3, hrun, hm3, hk3⟩ := hml.update keyedEdge Tryz.underlying114 (by unfold maxLen; omega) (.int .i64 (nodeI S x : Nat)) hl (g := updV L (edgeV n c b) (.int .i64 (nodeI S x : Nat)))
    (fun v l _ => ⟨fun e => by rw [e, updV_same], fun e => updV_other e⟩)
  have hFw : ¬ Foot w.heap.size := fun hF => by have := h.lt _ hF; omega
  have hwW : w.heap.size < W.heap.size := (Array.getElem?_eq_some_iff.1 hbox).1
  have hb2 : w2.heap[w.heap.size]? = some (.cells #[.int .i64 (n : Int), .int .i64 c, .bool b] 193 (0, 0)) := (hk2.block _ hwW hFw).trans hbox
  have hblne : w.heap.size ≠ bl := hml.ne_cells hb2
  have hpbl : p ≠ bl := hml.ne_cells hp
  have hp3 : w3.heap[p]? = some (.cells #[vs, .map (some bp), .map (some bl)] 116 (0, 0)) := (hk3.block p (hg2.lt p hg2.at_) hpbl).trans hp
  have hb3 : w3.heap[w.heap.size]? = some (.cells #[.int .i64 (n : Int), .int .i64 c, .bool b] 193 (0, 0)) := (hk3.block _ (Array.getElem?_eq_some_iff.1 hb2).1 hblne).trans hb2
  have hno : ownB vs ≠ some bl := by obtain ⟨_, _, hb⟩ := hml.block; exact hown.ne_map hb
  refine ⟨w3, hrun, ⟨?_, ?_, ?_, ?_⟩, ⟨?_, ?_, ?_, ?_⟩, fun nq => ?_, fun nq => ⟨updV L (edgeV n c b) (.int .i64 (nodeI S x : Nat)), Foot2, ⟨⟨vs, bp, hp3, hown.keep (S := fun x => x = bl) (hk3.drewN nq) (fun k hk e => hno (hk.trans (congrArg some e))), hmp.keep (S := fun x => x = bl) (hk3.drewN nq) hne, hm3, ?_, hne, f1, f2, f3⟩, hg2.at_, ?_, hg2.small, hg2.nodup, hg2.len, by omega⟩, ?_, ?_⟩⟩
  · rw [cell_of_row w2 p 2 _ _ _ hp]; rfl
  · rw [cell_of_row w2 _ 0 _ _ _ hb2]; rfl
  · rw [cell_of_row w2 _ 1 _ _ _ hb2]; rfl
  · rw [cell_of_row w2 _ 2 _ _ _ hb2]; rfl
  · rw [cell_of_row w3 p 2 _ _ _ hp3]; rfl
  · rw [cell_of_row w3 _ 0 _ _ _ hb3]; rfl
  · rw [cell_of_row w3 _ 1 _ _ _ hb3]; rfl
  · rw [cell_of_row w3 _ 2 _ _ _ hb3]; rfl
  · have := MapV.look1 (w := w3.drewN nq) hm3 keyedEdge Tryz.underlying114 zeroInt hl
    rwa [updV_same] at this
  · intro n' c' b' m hm
    by_cases e : edgeV n' c' b' = edgeV n c b
    · rw [e, updV_same] at hm
      injection hm with hm
      simp [edgeV] at e
      obtain ⟨rfl, rfl, rfl⟩ := e
      refine ⟨s, nodeI S x, by omega, ?_, hm.symm, ?_⟩
      · rw [Int.toNat_natCast]; exact nodeS_at hs
      · rw [← hx]; exact nodeS_pos S x
    · rw [updV_other e] at hm
      exact hLI n' c' b' m hm
  · intro k hk
    exact Nat.lt_of_lt_of_le (hg2.lt k hk) hk3.size
  · refine Keep.trans (S := Foot) (T := fun k => Foot2 k) (Keep.trans (T := Foot) (hW.mono (fun _ _ h => h.elim)) hk2 (fun _ _ h => h)) ((hk3.mono (T := fun k => Foot2 k) (fun k _ e => by rw [e]; exact f2)).drewN nq) (fun k hk hF => ?_)
    rcases hf2 k hF with h1 | h1
    · exact h1
    · have := hW.size; omega
  · intro k hk
    rcases hf2 k hk with h1 | h1
    · exact .inl h1
    · have := hW.size
      exact .inr (by omega)

end Go.Proofs.YtdeifjnhbdkkgaaGreatDoor
namespace Go.Proofs.YtdeifjnhbdkkgaaGreatDoor
open Go.RowKit
open Go.Maps (Keyed)
set_option maxRecDepth 100000

theorem gr_new (w : World) :
    Calls Tryz.prog 33 #[] w fun e w' => ∃ p Foot bl L, e = .returned (.pointer (some ⟨p, 0, none⟩)) ∧ Gr w' p Foot 0 [0] bl L ∧ Below w.heap.size w w' ∧ ∀ k, Foot k → w.heap.size ≤ k := by
  have hmm := @run_makeMap Tryz.prog
  have m0 := MapV.made (w.alloc (.cells #[.int .u64 0] 22)) Tryz.prog 22
  rw [World.size_alloc] at m0
  have hkey : keyOf Tryz.prog 22 (.int .u64 0) = some (.int .u64 0) := keyU64 0 (by omega)
  obtain ⟨w1, hrun, hm1, hk1⟩ := m0.update keyedU64 Tryz.underlying113 (by unfold maxLen; omega) (.int .i64 0) hkey (g := placeF [0]) (fun v l hv => by
    obtain ⟨a, rfl, ha⟩ := keyU64_inv hv
    obtain ⟨n, rfl⟩ := Int.eq_ofNat_of_zero_le ha
    have hp : pos [0] n = if n = 0 then some 0 else none := pos_snoc [] 0 n (by simp)
    constructor
    · intro e
      injection e with _ e
      obtain rfl : n = 0 := by omega
      rfl
    · intro e
      have : n ≠ 0 := fun h => e (by rw [h]; rfl)
      simp [placeF, hp, this])
  have hs1 : w.heap.size + 2 ≤ w1.heap.size := by have := hk1.size; simpa using this
  have hb0 : w1.heap[w.heap.size]? = some (.cells #[.int .u64 0] 22 (0, 0)) := by
    refine (hk1.block w.heap.size (by simp; omega) (by omega)).trans ?_
    rw [Below.heap_alloc _ _ _ (by simp)]
    exact heap_alloc_new w _
  have hkw : Keep (fun _ => False) w w1 := ⟨hk1.os, hk1.tape, hk1.output, by omega, fun k hk _ => by
    rw [hk1.block k (by simp; omega) (by omega), Below.heap_alloc _ _ _ (by simp; omega), Below.heap_alloc _ _ _ hk]⟩
  have HS := Lib.hid (And.intro hm1 (And.intro hk1 (And.intro hs1 (And.intro hb0 hkw))))
  clear hm1 hk1 hs1 hb0 hkw m0 hkey
  go_enter Tryz.func33, Tryz.ntmps33
  go_wp2
  go_ret
  obtain ⟨hm1, hk1, hs1, hb0, hkw⟩ := HS.out
  have ka := (Keep.refl (fun _ => False) w1).alloc (.map #[] 0)
  have kb := ka.alloc (.cells #[.slice (some ⟨w.heap.size, 0, none⟩) 1 1, .map (some (w.heap.size + 1)), .map (some w1.heap.size)] 116)
  refine ⟨w1.heap.size + 1, fun k => w.heap.size ≤ k ∧ k < w1.heap.size + 2, w1.heap.size, fun _ => none, rfl, ⟨⟨.slice (some ⟨w.heap.size, 0, none⟩) 1 1, w.heap.size + 1, ?_, ?_, ?_, ?_, ?_, by omega, ⟨by omega, by omega⟩, ⟨by omega, by omega⟩, ?_⟩, ⟨by omega, by omega⟩, ?_, ?_, by simp, by decide, by decide⟩, ?_, fun k hk => hk.1⟩
  · exact heap_alloc2_new w1 _ _
  · refine (Own.keep (S := fun _ => False) (w := w1) ?_ kb (fun _ _ h => h))
    exact ⟨rfl, some ⟨w.heap.size, 0, none⟩, 1, rfl, Nat.le_refl _, by unfold maxLen; omega, fun _ => ⟨w.heap.size, #[.int .u64 0], rfl, Nat.zero_le _, hb0, rfl, rfl⟩⟩
  · exact hm1.keep kb (fun h => h)
  · exact (MapV.made w1 Tryz.prog 193).keep ((Keep.refl (fun _ => False) _).alloc _) (fun h => h)
  · intro n c b m h
    cases h
  · intro k hk
    simp [ownB] at hk
    omega
  · intro k hk
    simp
    omega
  · intro x hx
    simp at hx
    omega
  · exact hkw.to_below'.trans ((kb.to_below').mono hkw.size)
end Go.Proofs.YtdeifjnhbdkkgaaGreatDoor

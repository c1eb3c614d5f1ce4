/- The graph in memory; contracts of graph.Len, Find, Sig. -/
import Derived.Test.YtglliendhbkkhaaGreatDoorProg
import Derived.Test.YtglliendhbkkhaaGreatDoorMem
import Derived.Test.YtglliendhbkkhaaGreatDoorMap
import Derived.Test.YtglliendhbkkhaaGreatDoorGraphPl
import Derived.Lib.SmallJoins
import Derived.Test.YtglliendhbkkhaaGreatDoorBits2
import Derived.Deep.RegionHeld3
namespace Go.Proofs.YtglliendhbkkhaaGreatDoor
open Go.RowKit
open Go.Maps (Keyed)
set_option maxRecDepth 100000

theorem laidOut0 : laidOutB Tryz.prog = true := by kernel_rfl
theorem rowEdge : (238 : TypeId) < Tryz.prog.types.size := of_decide_eq_true (by kernel_rfl)
theorem wideEdge : (match Tryz.prog.underlying 238 with | some (.array _ _) | some (.struct _) => true | _ => false) = true := by kernel_rfl
theorem deepEdge : Tryz.prog.keyTypeAt (Tryz.prog.types.size + 1) 238 = true := by kernel_rfl
theorem cellsEdge : Tryz.prog.cellsOf 238 = 3 := by kernel_rfl
theorem keyedEdge : Keyed Tryz.prog 238 := Keyed.of_law (deep_law_laid laidOut0 (m := 2) (by omega) rowEdge (by kernel_rfl) wideEdge)
theorem keyedU64 : Keyed Tryz.prog 51 := Go.Maps.int_keyed Tryz.underlying51
theorem zeroInt (w : World) : (zeroValue 3).run Tryz.prog w = .ok (.int .i64 0) w := by kernel_rfl
theorem info_u64 : (Tryz.prog.info? 51).map (fun i => (i.zero, i.size, i.bytes)) = some (some (.int .u64 0), 1, 8) := by kernel_rfl

def edgeV (n c : Int) (b : Bool) : Value := .agg #[.int .i64 n, .int .i64 c, .bool b]
theorem keyU64 (s : Nat) (hs : s < 18446744073709551616) : keyOf Tryz.prog 51 (.int .u64 (s : Int)) = some (.int .u64 (s : Int)) :=
  Go.Maps.keyOf_int_mk Tryz.underlying51 (WalkArith.wf_u64 (by omega))
theorem keyU64_inv {v : Value} {l : Lit} (h : keyOf Tryz.prog 51 v = some l) : ∃ a : Int, v = .int .u64 a ∧ 0 ≤ a := by
  cases v <;> simp [keyOf, Tryz.underlying51, mapKey] at h
  obtain ⟨⟨rfl, hw⟩, -⟩ := h
  rename_i n
  have : 0 ≤ n ∧ n ≤ 18446744073709551615 := by simpa [Lit.wf, IntKind.min, IntKind.max, IntKind.signed, IntKind.bits] using hw
  exact ⟨n, rfl, this.1⟩
theorem keyEdge (n c : Int) (b : Bool) (hn : (Lit.int .i64 n).wf = true) (hc : (Lit.int .i64 c).wf = true) : ∃ l, keyOf Tryz.prog 238 (edgeV n c b) = some l := by
  have ht : ∀ w : World, DataW.Trod (H := Unit) (fun _ => ()) Tryz.prog w 0 (fun _ => false) false 238 (edgeV n c b) _ _ := fun w =>
    Joins.shut_agg3 (y0 := (.lit (.int .i64 n), [])) (y1 := (.lit (.int .i64 c), [])) (y2 := (.lit (.bool b), [])) Tryz.underlying238 (by kernel_rfl) cellsEdge
      ⟨1, by simp [DataW.trod, Tryz.underlying3, hn]⟩ ⟨1, by simp [DataW.trod, Tryz.underlying3, hc]⟩ ⟨1, by simp [DataW.trod, Tryz.underlying4]⟩
  obtain ⟨h, _⟩ := keyOf_asKey deepEdge wideEdge (by simp [edgeV, Value.formed, Tryz.underlying238, cellsEdge]) (ht default)
  exact ⟨_, h⟩

def placeF (S : List Nat) : Value → Option Value
  | .int .u64 a => (pos S a.toNat).map fun i => .int .i64 (i : Int)
  | _ => none
/-- What the steps lead to, as far as they were asked. -/
def LInv (S : List Nat) (L : Value → Option Value) : Prop :=
  ∀ (n c : Int) (b : Bool) (m : Value), L (edgeV n c b) = some m → ∃ s i : Nat, 0 ≤ n ∧ S[n.toNat]? = some s ∧ m = .int .i64 (i : Int) ∧ pos S (stepSig s c b) = some i

/-- The graph at block p: its sets are S; Foot: the blocks that are its own; q: no more steps were asked. -/
structure Gr (w : World) (p : Nat) (Foot : Nat → Prop) (q : Nat) (S : List Nat) (bl : Nat) (L : Value → Option Value) : Prop where
  ex : ∃ vs bp, w.heap[p]? = some (.cells #[vs, .map (some bp), .map (some bl)] 196 (0, 0)) ∧ Own w 0 51 1 vs S.length (uv S) ∧
    MapV w Tryz.prog 51 bp S.length (placeF S) ∧ MapV w Tryz.prog 238 bl q L ∧ LInv S L ∧ bp ≠ bl ∧ Foot bp ∧ Foot bl ∧ ∀ k, ownB vs = some k → Foot k
  at_ : Foot p
  lt : ∀ k, Foot k → k < w.heap.size
  small : ∀ x ∈ S, x < 18446744073709551616
  nodup : S.Nodup
  len : S.length ≤ 1099511627776
  asked : q ≤ 1099511627776

theorem gr_len (w : World) (p : Nat) (Foot : Nat → Prop) (q : Nat) (S : List Nat) (bl : Nat) (L : Value → Option Value) (h : Gr w p Foot q S bl L) :
    Calls Tryz.prog 118 #[.pointer (some ⟨p, 0, none⟩)] w fun e w' => e = .returned (.int .i64 (S.length : Nat)) ∧ w = w' := by
  obtain ⟨vs, bp, hp, hown, _⟩ := h.ex
  obtain ⟨A, c, rfl, _⟩ := hown.form
  have c0 : w.cell? ⟨p, 0, none⟩ = some (.slice A S.length c) := by rw [cell_of_row w p 0 _ _ _ hp]; rfl
  clear hp hown h
  generalize S.length = n at *
  go_enter Tryz.func118, Tryz.ntmps118
  go_wp2
  go_ret
  exact ⟨rfl, rfl⟩

theorem gr_find (w : World) (p : Nat) (Foot : Nat → Prop) (q : Nat) (S : List Nat) (bl : Nat) (L : Value → Option Value) (h : Gr w p Foot q S bl L) (x : Nat) (hx : x < 18446744073709551616) :
    Calls Tryz.prog 172 #[.pointer (some ⟨p, 0, none⟩), .int .u64 x] w fun e w' => e = .returned (.tuple #[.int .i64 ((pos S x).getD 0 : Nat), .bool (pos S x).isSome]) ∧ w = w' := by
  obtain ⟨vs, bp, hp, _, hm, _⟩ := h.ex
  have hlook := hm.look keyedU64 Tryz.underlying193 zeroInt (keyU64 x hx)
  have e : (placeF S (.int .u64 (x : Int))).getD (.int .i64 0) = .int .i64 ((pos S x).getD 0 : Nat) ∧ (placeF S (.int .u64 (x : Int))).isSome = (pos S x).isSome := by
    simp only [placeF, Int.toNat_natCast]
    cases pos S x <;> exact ⟨rfl, rfl⟩
  rw [e.1, e.2] at hlook
  have c1 : w.cell? ⟨p, 1, none⟩ = some (.map (some bp)) := by rw [cell_of_row w p 1 _ _ _ hp]; rfl
  clear hp hm h e
  generalize (pos S x).getD 0 = k at *
  generalize (pos S x).isSome = b at *
  go_enter Tryz.func172, Tryz.ntmps172
  go_wp2
  go_ret2
  exact ⟨rfl, rfl⟩

theorem gr_sig (w : World) (p : Nat) (Foot : Nat → Prop) (q : Nat) (S : List Nat) (bl : Nat) (L : Value → Option Value) (h : Gr w p Foot q S bl L) (n : Int) :
    Calls Tryz.prog 121 #[.pointer (some ⟨p, 0, none⟩), .int .i64 n] w fun e w' =>
      e = .returned (.tuple #[.int .u64 (if 0 ≤ n ∧ n < S.length then S.getD n.toNat 0 else 0 : Nat), .bool (decide (0 ≤ n) && decide (n < S.length))]) ∧ w = w' := by
  have hl := Lib.hid (gr_len w p Foot q S bl L h)
  obtain ⟨vs, bp, hp, hown, _⟩ := h.ex
  obtain ⟨A, c, rfl, hr⟩ := hown.form
  rw [Nat.mul_one] at hr
  have hlen := h.len
  have c0 : w.cell? ⟨p, 0, none⟩ = some (.slice A S.length c) := by rw [cell_of_row w p 0 _ _ _ hp]; rfl
  clear hp hown h
  by_cases h0 : n < 0
  · rw [if_neg (by omega), decide_eq_false (p := 0 ≤ n) (by omega)]
    generalize S.length = m at *
    go_enter Tryz.func121, Tryz.ntmps121
    go_wp2
    go_ret2
    exact ⟨rfl, rfl⟩
  · obtain ⟨k, rfl⟩ := Int.eq_ofNat_of_zero_le (show 0 ≤ n by omega)
    by_cases h1 : S.length ≤ k
    · rw [if_neg (by omega), decide_eq_false (p := (k : Int) < S.length) (by omega), Bool.and_false]
      generalize S.length = m at *
      go_enter Tryz.func121, Tryz.ntmps121
      go_wp2_with (go_at_call 118; refine hl.out.mono ?_; rintro e w' ⟨rfl, rfl⟩)
      go_ret2
      exact ⟨rfl, rfl⟩
    · obtain ⟨b, off, rfl, _, hc⟩ := hr.at_ (k := k) (by omega)
      have ck := hc k _ (uv_at (by omega)).1
      rw [if_pos (by omega), decide_eq_true (p := 0 ≤ (k : Int)) (by omega), decide_eq_true (p := (k : Int) < S.length) (by omega), Int.toNat_natCast]
      generalize S.getD k 0 = x at *
      clear hc hr
      generalize S.length = m at *
      go_enter Tryz.func121, Tryz.ntmps121
      go_wp2_with (go_at_call 118; refine hl.out.mono ?_; rintro e w' ⟨rfl, rfl⟩)
      go_ret2
      exact ⟨rfl, rfl⟩
end Go.Proofs.YtglliendhbkkhaaGreatDoor
namespace Go.Proofs.YtglliendhbkkhaaGreatDoor
open Go.RowKit
open Go.Maps (Keyed)
set_option maxRecDepth 100000

/-- What a step leaves: the graph over other sets, its own blocks or new ones changed. -/
def GrStep (w : World) (p : Nat) (Foot : Nat → Prop) (q : Nat) (S : List Nat) (bl : Nat) (L : Value → Option Value) (w' : World) : Prop :=
  ∃ Foot', Gr w' p Foot' q S bl L ∧ Keep Foot w w' ∧ ∀ k, Foot' k → Foot k ∨ w.heap.size ≤ k

theorem placeF_snoc (S : List Nat) (x : Nat) (hx : x ∉ S) {v : Value} {l : Lit} (h : keyOf Tryz.prog 51 v = some l) :
    (v = .int .u64 (x : Int) → placeF (S ++ [x]) v = some (.int .i64 (S.length : Int))) ∧ (v ≠ .int .u64 (x : Int) → placeF (S ++ [x]) v = placeF S v) := by
  obtain ⟨a, rfl, ha⟩ := keyU64_inv h
  obtain ⟨n, rfl⟩ := Int.eq_ofNat_of_zero_le ha
  simp only [placeF, Int.toNat_natCast, pos_snoc S x n hx]
  constructor
  · intro e
    injection e with _ e
    rw [if_pos (by omega)]; rfl
  · intro e
    rw [if_neg (fun h => e (by rw [h]))]

theorem LInv.node {S : List Nat} {L : Value → Option Value} (h : LInv S L) (x : Nat) : LInv (nodeS S x) L := by
  intro n c b m hm
  obtain ⟨s, i, h1, h2, h3, h4⟩ := h n c b m hm
  exact ⟨s, i, h1, nodeS_at h2, h3, nodeS_keep h4⟩

theorem gr_node (w : World) (p : Nat) (Foot : Nat → Prop) (q : Nat) (S : List Nat) (bl : Nat) (L : Value → Option Value) (h : Gr w p Foot q S bl L) (x : Nat) (hx : x < 18446744073709551616) (hlen : S.length < 1099511627776) :
    Calls Tryz.prog 134 #[.pointer (some ⟨p, 0, none⟩), .int .u64 x] w fun e w' => e = .returned (.int .i64 (nodeI S x : Nat)) ∧ GrStep w p Foot q (nodeS S x) bl L w' := by
  have F := Lib.hid (gr_find w p Foot q S bl L h x hx)
  cases hpos : pos S x with
  | some k =>
    rw [hpos] at F
    obtain ⟨e1, e2⟩ := nodeS_old hpos
    rw [e1, e2]
    have H := Lib.hid (show GrStep w p Foot q S bl L w from ⟨Foot, h, Keep.refl _ _, fun k hk => .inl hk⟩)
    clear hpos h e1 e2
    go_enter Tryz.func134, Tryz.ntmps134
    go_wp2_with (go_at_call 172; refine F.out.mono ?_; rintro e w' ⟨rfl, rfl⟩)
    go_ret
    exact ⟨rfl, H.out⟩
  | none =>
    rw [hpos] at F
    obtain ⟨e1, e2⟩ := nodeS_new hpos
    have hno := pos_none.1 hpos
    rw [e2]
    have H := Lib.hid h
    have E1 := Lib.hid e1
    have HN := Lib.hid hno
    obtain ⟨vs, bp, hp, hown, hmp, hml, hL, hne, f1, f2, f3⟩ := h.ex
    obtain ⟨i0, hi0, hz0, hz1, hz2⟩ := info_parts info_u64
    have HP := Lib.hid hp
    have c0 : w.cell? ⟨p, 0, none⟩ = some vs := by rw [cell_of_row w p 0 _ _ _ hp]; rfl
    have c1 : w.cell? ⟨p, 1, none⟩ = some (.map (some bp)) := by rw [cell_of_row w p 1 _ _ _ hp]; rfl
    have hpl := h.lt p h.at_
    obtain ⟨A, c, hvs, hr⟩ := hown.form
    subst hvs
    have HM := Lib.hid (And.intro hmp (And.intro hml (And.intro hL (And.intro hne (And.intro f1 (And.intro f2 f3))))))
    have HO := Lib.hid hown
    clear hpos h e1 e2 hno hp hmp hml hL hne f1 f2 f3 hr hown
    obtain ⟨n, hn⟩ : ∃ n, n = S.length := ⟨_, rfl⟩
    rw [← hn] at c0 hlen HO HP HM ⊢
    have NN := Lib.hid hn
    clear hn
    go_enter Tryz.func134, Tryz.ntmps134
    go_wp2_with (first
      | (go_at_call 172; refine F.out.mono ?_; rintro e w' ⟨rfl, rfl⟩)
      | (at_builtin; refine wpList_append_gen _ rfl (.tmp 27) (.tmp 29) _ _ rfl 0 51 i0 _ 1 8 Tryz.underlying168 hi0 hz0 hz1 hz2 rfl _ _ _ rfl (HO.out.alloc _) _ 1 _ rfl (src_one _ _ Tryz.underlying168 rfl) ?c1 ?c2 ?c3 ?_))
    case c1 => unfold maxLen; omega
    case c2 => omega
    case c3 => exact Nat.zero_le _
    intro v' w1 hown' hk1 hob
    obtain ⟨A', c', hv', hr'⟩ := hown'.form
    subst hv'
    clear hr'
    obtain ⟨hmp, hml, hL, hne, f1, f2, f3⟩ := HM.out
    have hk01 : Keep (fun k => ownB (.slice A n c) = some k) w w1 := Keep.trans ((Keep.refl _ w).alloc _) hk1 (fun _ _ h => h)
    have np := HO.out.ne_cells HP.out (by decide)
    have nbp : ownB (.slice A n c) ≠ some bp := by obtain ⟨_, _, hb⟩ := hmp.block; exact HO.out.ne_map hb
    have nbl : ownB (.slice A n c) ≠ some bl := by obtain ⟨_, _, hb⟩ := hml.block; exact HO.out.ne_map hb
    have hp1 : w1.heap[p]? = some (.cells #[.slice A n c, .map (some bp), .map (some bl)] 196 (0, 0)) := (hk01.block p hpl np).trans HP.out
    have d0 : w1.cell? ⟨p, 0, none⟩ = some (.slice A n c) := by rw [cell_of_row w1 p 0 _ _ _ hp1]; rfl
    have d1 : w1.cell? ⟨p, 1, none⟩ = some (.map (some bp)) := by rw [cell_of_row w1 p 1 _ _ _ hp1]; rfl
    have d2 : w1.frozen? ⟨p, 0, none⟩ = false := frozen_of_row w1 p 0 _ _ hp1
    have hp2 : (w1.setCell ⟨p, 0, none⟩ (.slice A' (n + 1) c')).heap[p]? = some (.cells #[.slice A' (n + 1) c', .map (some bp), .map (some bl)] 196 (0, 0)) := by
      rw [heap_setCell_same w1 p 0 _ _ _ hp1]; rfl
    have ks : Keep (fun k => k = p) w1 (w1.setCell ⟨p, 0, none⟩ (.slice A' (n + 1) c')) := Keep.setCell (S := fun k => k = p) (Keep.refl _ w1) (.inr rfl) _
    have np' : ownB (.slice A' (n + 1) c') ≠ some p := hown'.ne_cells hp1 (by decide)
    have ho2 := hown'.keep ks (fun k hk e => np' (by rw [hk, e]))
    have mp2 := (hmp.keep hk01 nbp).keep ks (fun e => hmp.ne_cells HP.out e.symm)
    have ml2 := (hml.keep hk01 nbl).keep ks (fun e => hml.ne_cells HP.out e.symm)
    have X := Lib.hid (And.intro hmp (And.intro hml (And.intro hL (And.intro hne (And.intro f1 (And.intro f2 (And.intro f3 (And.intro hk01 (And.intro np (And.intro nbp (And.intro nbl (And.intro hp1 (And.intro hp2 (And.intro ks (And.intro np' (And.intro ho2 (And.intro mp2 (And.intro ml2 hob))))))))))))))))))
    clear hmp hml hL hne f1 f2 f3 hk01 np nbp nbl hp1 hp2 ks np' ho2 ml2 hob hown' hk1
    have MP := Lib.hid mp2
    clear mp2
    go_wp2_with (at_mapUpdate; refine wpList_mapUpdate_gen rfl _ _ _ _ rfl MP.out keyedU64 (g := placeF (S ++ [x])) Tryz.underlying193 ?e1 _ (keyU64 x hx) rfl rfl rfl ?e2 ?_)
    case e1 => unfold maxLen; omega
    case e2 => intro v l hv; rw [NN.out]; exact placeF_snoc S x HN.out hv
    intro w3 hm3 hk3
    have HM3 := Lib.hid (And.intro hm3 hk3)
    clear hm3 hk3
    go_wp2
    go_ret
    refine ⟨rfl, ?_⟩
    obtain ⟨hmp, hml, hL, hne, f1, f2, f3, hk01, np, nbp, nbl, hp1, hp2, ks, np', ho2, mp2, ml2, hob⟩ := X.out
    obtain ⟨hm3, hk3⟩ := HM3.out
    have hbpne : p ≠ bp := hmp.ne_cells HP.out
    have hS := NN.out
    rw [E1.out]
    have hk03 : Keep Foot w w3 := by
      refine Keep.trans (T := fun k => k = bp) (Keep.trans (T := fun k => k = p) (hk01.mono (T := Foot) (fun k _ hk => f3 k hk)) ks (fun k _ hk => by rw [hk]; exact H.out.at_)) hk3 (fun k _ hk => by rw [hk]; exact f1)
    have hsz2 : (w1.setCell ⟨p, 0, none⟩ (.slice A' (n + 1) c')).heap.size ≤ w3.heap.size := hk3.size
    have ho3 := ho2.keep hk3 (fun k hk e => by
      subst e
      obtain ⟨_, _, hb⟩ := mp2.block
      exact ho2.ne_map hb hk)
    refine ⟨fun k => Foot k ∨ (w.heap.size ≤ k ∧ k < w3.heap.size), ⟨⟨.slice A' (n + 1) c', bp, ?_, ?_, ?_, ml2.keep hk3 (fun e => hne e.symm), ?_, hne, .inl f1, .inl f2, ?_⟩, .inl H.out.at_, ?_, ?_, ?_, ?_, H.out.asked⟩, hk03, ?_⟩
    · exact (hk3.block p (by rw [World.size_setCell]; exact Nat.lt_of_lt_of_le hpl (by have := hk01.size; exact this)) hbpne).trans hp2
    · exact ho3.re (by simp [uv]) (by simp [uv])
    · have : (S ++ [x]).length = n + 1 := by simp [hS]
      rw [this]; exact hm3
    · have := hL.node x
      rwa [E1.out] at this
    · intro k hk
      rcases hob k hk with e | e
      · exact .inl (f3 k e)
      · refine .inr ⟨?_, (ho3.ownB k hk).2⟩
        have : w.heap.size + 1 ≤ k := by simpa using e
        omega
    · intro k hk
      rcases hk with hk | hk
      · exact Nat.lt_of_lt_of_le (H.out.lt k hk) hk03.size
      · exact hk.2
    · intro y hy
      rcases List.mem_append.1 hy with hy | hy
      · exact H.out.small y hy
      · simp at hy; subst hy; exact hx
    · have := nodeS_nodup H.out.nodup x
      rwa [E1.out] at this
    · simp; omega
    · intro k hk
      rcases hk with hk | hk
      · exact .inl hk
      · exact .inr hk.1
end Go.Proofs.YtglliendhbkkhaaGreatDoor
namespace Go.Proofs.YtglliendhbkkhaaGreatDoor
open Go.RowKit
open Go.Maps (Keyed)
set_option maxRecDepth 100000

theorem Gr.keep {w w' : World} {p : Nat} {Foot : Nat → Prop} {q : Nat} {S : List Nat} {bl : Nat} {L : Value → Option Value} {T : Nat → Prop} (h : Gr w p Foot q S bl L) (hk : Keep T w w') (ht : ∀ k, Foot k → ¬ T k) : Gr w' p Foot q S bl L := by
  obtain ⟨vs, bp, hp, hown, hmp, hml, hL, hne, f1, f2, f3⟩ := h.ex
  exact ⟨⟨vs, bp, (hk.block p (h.lt p h.at_) (ht p h.at_)).trans hp, hown.keep hk (fun k hk => ht k (f3 k hk)), hmp.keep hk (ht bp f1), hml.keep hk (ht bl f2), hL, hne, f1, f2, f3⟩,
    h.at_, fun k hk' => Nat.lt_of_lt_of_le (h.lt k hk') hk.size, h.small, h.nodup, h.len, h.asked⟩
theorem Gr.more {w : World} {p : Nat} {Foot : Nat → Prop} {q q' : Nat} {S : List Nat} {bl : Nat} {L : Value → Option Value} (h : Gr w p Foot q S bl L) (hq : q ≤ q') (h2 : q' ≤ 1099511627776) : Gr w p Foot q' S bl L := by
  obtain ⟨vs, bp, hp, hown, hmp, hml, hL, hne, f1, f2, f3⟩ := h.ex
  exact ⟨⟨vs, bp, hp, hown, hmp, hml.mono hq, hL, hne, f1, f2, f3⟩, h.at_, h.lt, h.small, h.nodup, h.len, h2⟩
theorem GrStep.of_keep {w w' : World} {p : Nat} {Foot : Nat → Prop} {q q' : Nat} {S : List Nat} {bl : Nat} {L : Value → Option Value} (h : Gr w p Foot q S bl L) (hk : Keep (fun _ => False) w w') (hq : q ≤ q') (h2 : q' ≤ 1099511627776) : GrStep w p Foot q' S bl L w' :=
  ⟨Foot, (h.keep hk (fun _ _ h => h)).more hq h2, hk.mono (fun _ _ h => h.elim), fun _ h => .inl h⟩

theorem gr_lead_out (w : World) (p : Nat) (Foot : Nat → Prop) (q : Nat) (S : List Nat) (bl : Nat) (L : Value → Option Value) (h : Gr w p Foot q S bl L) (n c : Int) (b : Bool) (ho : n < 0 ∨ (S.length : Int) ≤ n) (hq : q < 1099511627776) :
    Calls Tryz.prog 142 #[.pointer (some ⟨p, 0, none⟩), edgeV n c b] w fun e w' => e = .returned (.int .i64 (-1)) ∧ GrStep w p Foot (q + 1) S bl L w' := by
  have hk := (Keep.refl (fun _ => False) w).alloc (.cells #[.int .i64 n, .int .i64 c, .bool b] 238)
  have G := Lib.hid (gr_sig _ p Foot q S bl L (h.keep hk (fun _ _ h => h)) n)
  rw [if_neg (by omega), show (decide (0 ≤ n) && decide (n < (S.length : Int))) = false by rcases ho with ho | ho; (· rw [decide_eq_false (by omega)]; rfl); (· rw [decide_eq_false (p := n < (S.length : Int)) (by omega), Bool.and_false])] at G
  have H := Lib.hid (GrStep.of_keep h hk (Nat.le_succ q) hq)
  clear h hk ho
  unfold edgeV
  go_enter Tryz.func142, Tryz.ntmps142
  go_wp2_with (go_at_call 121; refine G.out.mono ?_; rintro e w' ⟨rfl, rfl⟩)
  go_ret
  exact ⟨rfl, H.out⟩

theorem gr_lead_old (w : World) (p : Nat) (Foot : Nat → Prop) (q : Nat) (S : List Nat) (bl : Nat) (L : Value → Option Value) (h : Gr w p Foot q S bl L) (n : Nat) (c : Int) (b : Bool) (hn : n < S.length) (hq : q < 1099511627776) (hc : (Lit.int .i64 c).wf = true)
    (i : Nat) (hL : L (edgeV n c b) = some (.int .i64 (i : Int))) :
    Calls Tryz.prog 142 #[.pointer (some ⟨p, 0, none⟩), edgeV n c b] w fun e w' => e = .returned (.int .i64 (i : Int)) ∧ GrStep w p Foot (q + 1) S bl L w' := by
  obtain ⟨vs, bp, hp, hown, hmp, hml, hLI, hne, f1, f2, f3⟩ := h.ex
  have hk := (Keep.refl (fun _ => False) w).alloc (.cells #[.int .i64 (n : Int), .int .i64 c, .bool b] 238)
  have G := Lib.hid (gr_sig _ p Foot q S bl L (h.keep hk (fun _ _ h => h)) n)
  have hlen := h.len
  rw [decide_eq_true (by omega), decide_eq_true (by omega), Bool.and_self] at G
  obtain ⟨l, hl⟩ := keyEdge n c b (WalkArith.wf_i64 (by omega)) hc
  have hlook := fun nq : Nat => MapV.look (w := (w.alloc (.cells #[.int .i64 (n : Int), .int .i64 c, .bool b] 238)).drewN nq) (hml.keep (hk.drewN nq) (fun h => h)) keyedEdge Tryz.underlying194 zeroInt hl
  rw [hL] at hlook
  have H := Lib.hid (fun nq => GrStep.of_keep h (hk.drewN nq) (Nat.le_succ q) hq)
  have hpl := h.lt p h.at_
  have c2 : (w.alloc (.cells #[.int .i64 (n : Int), .int .i64 c, .bool b] 238)).cell? ⟨p, 2, none⟩ = some (.map (some bl)) := by
    rw [World.cell?_alloc_lt _ _ _ hpl, cell_of_row w p 2 _ _ _ hp]; rfl
  clear h hk hml hp hL hl hc hlen hown hmp hLI hne f1 f2 f3
  unfold edgeV at *
  simp only [Option.getD_some, Option.isSome_some] at hlook
  generalize (if 0 ≤ (n : Int) ∧ (n : Int) < S.length then S.getD (n : Int).toNat 0 else 0 : Nat) = s at *
  go_enter Tryz.func142, Tryz.ntmps142
  go_wp2_with (go_at_call 121; refine G.out.mono ?_; rintro e w' ⟨rfl, rfl⟩)
  go_quiet (fail)
  go_wp2
  go_ret
  exact ⟨rfl, H.out _⟩

noncomputable def updV (f : Value → Option Value) (key val : Value) : Value → Option Value := fun v => open Classical in if v = key then some val else f v
theorem updV_same (f : Value → Option Value) (key val : Value) : updV f key val key = some val := by unfold updV; rw [if_pos rfl]
theorem updV_other {f : Value → Option Value} {key val v : Value} (h : v ≠ key) : updV f key val v = f v := by unfold updV; rw [if_neg h]

/-- Behind 'g.leads[e] = g.Node(sig)'. -/
theorem lead_after {w W w2 : World} {p : Nat} {Foot Foot2 : Nat → Prop} {q : Nat} {S : List Nat} {bl : Nat} {L : Value → Option Value} (h : Gr w p Foot q S bl L) (hW : Keep (fun _ => False) w W) (hq : q < 1099511627776)
    {n : Nat} {c : Int} {b : Bool} {s x : Nat} {l : Lit} (hl : keyOf Tryz.prog 238 (edgeV n c b) = some l) (hs : S[n]? = some s) (hx : x = stepSig s c b)
    (hbox : W.heap[w.heap.size]? = some (.cells #[.int .i64 (n : Int), .int .i64 c, .bool b] 238 (0, 0)))
    (hg2 : Gr w2 p Foot2 q (nodeS S x) bl L) (hk2 : Keep Foot W w2) (hf2 : ∀ k, Foot2 k → Foot k ∨ W.heap.size ≤ k) :
    ∃ w3, (Instr.mapUpdate 194 (.map (some bl)) (edgeV n c b) (.int .i64 (nodeI S x : Nat))).run Tryz.prog w2 = .ok () w3 ∧
      (w2.cell? ⟨p, 2, none⟩ = some (.map (some bl)) ∧ w2.cell? ⟨w.heap.size, 0, none⟩ = some (.int .i64 (n : Int)) ∧ w2.cell? ⟨w.heap.size, 1, none⟩ = some (.int .i64 c) ∧ w2.cell? ⟨w.heap.size, 2, none⟩ = some (.bool b)) ∧
      (w3.cell? ⟨p, 2, none⟩ = some (.map (some bl)) ∧ w3.cell? ⟨w.heap.size, 0, none⟩ = some (.int .i64 (n : Int)) ∧ w3.cell? ⟨w.heap.size, 1, none⟩ = some (.int .i64 c) ∧ w3.cell? ⟨w.heap.size, 2, none⟩ = some (.bool b)) ∧
      (∀ nq, (Instr.lookup 194 (.map (some bl)) (edgeV n c b) false).run Tryz.prog (w3.drewN nq) = .ok (.int .i64 (nodeI S x : Nat)) (w3.drewN nq)) ∧
      ∀ nq, ∃ L', GrStep w p Foot (q + 1) (nodeS S x) bl L' (w3.drewN nq) := by
  obtain ⟨vs, bp, hp, hown, hmp, hml, hLI, hne, f1, f2, f3⟩ := hg2.ex
  obtain ⟨w3, hrun, hm3, hk3⟩ := hml.update keyedEdge Tryz.underlying194 (by unfold maxLen; omega) (.int .i64 (nodeI S x : Nat)) hl (g := updV L (edgeV n c b) (.int .i64 (nodeI S x : Nat)))
    (fun v l _ => ⟨fun e => by rw [e, updV_same], fun e => updV_other e⟩)
  have hFw : ¬ Foot w.heap.size := fun hF => by have := h.lt _ hF; omega
  have hwW : w.heap.size < W.heap.size := (Array.getElem?_eq_some_iff.1 hbox).1
  have hb2 : w2.heap[w.heap.size]? = some (.cells #[.int .i64 (n : Int), .int .i64 c, .bool b] 238 (0, 0)) := (hk2.block _ hwW hFw).trans hbox
  have hblne : w.heap.size ≠ bl := hml.ne_cells hb2
  have hpbl : p ≠ bl := hml.ne_cells hp
  have hp3 : w3.heap[p]? = some (.cells #[vs, .map (some bp), .map (some bl)] 196 (0, 0)) := (hk3.block p (hg2.lt p hg2.at_) hpbl).trans hp
  have hb3 : w3.heap[w.heap.size]? = some (.cells #[.int .i64 (n : Int), .int .i64 c, .bool b] 238 (0, 0)) := (hk3.block _ (Array.getElem?_eq_some_iff.1 hb2).1 hblne).trans hb2
  have hno : ownB vs ≠ some bl := by obtain ⟨_, _, hb⟩ := hml.block; exact hown.ne_map hb
  refine ⟨w3, hrun, ⟨?_, ?_, ?_, ?_⟩, ⟨?_, ?_, ?_, ?_⟩, fun nq => ?_, fun nq => ⟨updV L (edgeV n c b) (.int .i64 (nodeI S x : Nat)), Foot2, ⟨⟨vs, bp, hp3, hown.keep (S := fun x => x = bl) (hk3.drewN nq) (fun k hk e => hno (hk.trans (congrArg some e))), hmp.keep (S := fun x => x = bl) (hk3.drewN nq) hne, hm3, ?_, hne, f1, f2, f3⟩, hg2.at_, ?_, hg2.small, hg2.nodup, hg2.len, by omega⟩, ?_, ?_⟩⟩
  · rw [cell_of_row w2 p 2 _ _ _ hp]; rfl
  · rw [cell_of_row w2 _ 0 _ _ _ hb2]; rfl
  · rw [cell_of_row w2 _ 1 _ _ _ hb2]; rfl
  · rw [cell_of_row w2 _ 2 _ _ _ hb2]; rfl
  · rw [cell_of_row w3 p 2 _ _ _ hp3]; rfl
  · rw [cell_of_row w3 _ 0 _ _ _ hb3]; rfl
  · rw [cell_of_row w3 _ 1 _ _ _ hb3]; rfl
  · rw [cell_of_row w3 _ 2 _ _ _ hb3]; rfl
  · have := MapV.look1 (w := w3.drewN nq) hm3 keyedEdge Tryz.underlying194 zeroInt hl
    rwa [updV_same] at this
  · intro n' c' b' m hm
    by_cases e : edgeV n' c' b' = edgeV n c b
    · rw [e, updV_same] at hm
      injection hm with hm
      simp [edgeV] at e
      obtain ⟨rfl, rfl, rfl⟩ := e
      refine ⟨s, nodeI S x, by omega, ?_, hm.symm, ?_⟩
      · rw [Int.toNat_natCast]; exact nodeS_at hs
      · rw [← hx]; exact nodeS_pos S x
    · rw [updV_other e] at hm
      exact hLI n' c' b' m hm
  · intro k hk
    exact Nat.lt_of_lt_of_le (hg2.lt k hk) hk3.size
  · refine Keep.trans (S := Foot) (T := fun k => Foot2 k) (Keep.trans (T := Foot) (hW.mono (fun _ _ h => h.elim)) hk2 (fun _ _ h => h)) ((hk3.mono (T := fun k => Foot2 k) (fun k _ e => by rw [e]; exact f2)).drewN nq) (fun k hk hF => ?_)
    rcases hf2 k hF with h1 | h1
    · exact h1
    · have := hW.size; omega
  · intro k hk
    rcases hf2 k hk with h1 | h1
    · exact .inl h1
    · have := hW.size
      exact .inr (by omega)

theorem gr_lead_new (w : World) (p : Nat) (Foot : Nat → Prop) (q : Nat) (S : List Nat) (bl : Nat) (L : Value → Option Value) (h : Gr w p Foot q S bl L) (n : Nat) (c : Int) (b : Bool) (hn : n < S.length) (hq : q < 1099511627776) (hlen : S.length < 1099511627776) (hc : (Lit.int .i64 c).wf = true)
    (hL : L (edgeV n c b) = none) :
    Calls Tryz.prog 142 #[.pointer (some ⟨p, 0, none⟩), edgeV n c b] w fun e w' => e = .returned (.int .i64 (nodeI S (stepSig (S.getD n 0) c b) : Nat)) ∧ ∃ L', GrStep w p Foot (q + 1) (nodeS S (stepSig (S.getD n 0) c b)) bl L' w' := by
  obtain ⟨vs, bp, hp, hown, hmp, hml, hLI, hne, f1, f2, f3⟩ := h.ex
  have hk := (Keep.refl (fun _ => False) w).alloc (.cells #[.int .i64 (n : Int), .int .i64 c, .bool b] 238)
  have G := Lib.hid (gr_sig _ p Foot q S bl L (h.keep hk (fun _ _ h => h)) n)
  rw [if_pos (by omega), decide_eq_true (by omega), decide_eq_true (by omega), Bool.and_self, Int.toNat_natCast] at G
  obtain ⟨l, hl⟩ := keyEdge n c b (WalkArith.wf_i64 (by omega)) hc
  have hlook := fun nq : Nat => MapV.look (w := (w.alloc (.cells #[.int .i64 (n : Int), .int .i64 c, .bool b] 238)).drewN nq) (hml.keep (hk.drewN nq) (fun h => h)) keyedEdge Tryz.underlying194 zeroInt hl
  rw [hL] at hlook
  have hx0 : S.getD n 0 < 18446744073709551616 := h.small _ (List.mem_of_getElem? (uv_at hn).2)
  have hpl := h.lt p h.at_
  have c2 : (w.alloc (.cells #[.int .i64 (n : Int), .int .i64 c, .bool b] 238)).cell? ⟨p, 2, none⟩ = some (.map (some bl)) := by
    rw [World.cell?_alloc_lt _ _ _ hpl, cell_of_row w p 2 _ _ _ hp]; rfl
  have B1 := Lib.hid (with_any (S.getD n 0) c hx0)
  have B2 := Lib.hid (without_any (S.getD n 0) c hx0)
  have hxs := stepSig_lt (S.getD n 0) c b hx0
  have ND := Lib.hid (fun W (hW : Keep (fun _ => False) w W) => gr_node W p Foot q S bl L (h.keep hW (fun _ _ h => h)) (stepSig (S.getD n 0) c b) hxs hlen)
  have HK := Lib.hid hk
  have H := Lib.hid h
  have HP := Lib.hid (And.intro hL hl)
  have SN := Lib.hid (uv_at hn).2
  clear h hk hml hp hL hl hlen hown hmp hLI hne f1 f2 f3
  unfold edgeV at *
  simp only [Option.getD_none, Option.isSome_none] at hlook
  generalize S.getD n 0 = s at *
  cases b
  · go_enter Tryz.func142, Tryz.ntmps142
    go_wp2_with (go_at_call 121; refine G.out.mono ?_; rintro e w' ⟨rfl, rfl⟩)
    go_quiet (fail)
    go_wp2_with (go_at_call 176; refine (B2.out _).mono ?_; rintro e w' ⟨rfl, rfl⟩)
    have e1 : without s c = stepSig s c false := rfl
    rw [e1]
    generalize hX : stepSig s c false = x at *
    have HX := Lib.hid hX.symm
    clear hX e1
    go_region_held3 (fun w' => w'.cell? ⟨p, 2, none⟩ = some (.map (some bl)) ∧ w'.cell? ⟨w.heap.size, 0, none⟩ = some (.int .i64 (n : Int)) ∧ w'.cell? ⟨w.heap.size, 1, none⟩ = some (.int .i64 c) ∧ w'.cell? ⟨w.heap.size, 2, none⟩ = some (.bool false)) (go_keep)
      (first | (go_at_call 134; refine (ND.out _ (HK.out.drewN _).drew).mono ?_; rintro e w2 ⟨rfl, Foot2, hg2, hk2, hf2⟩; obtain ⟨w3, hrun, hs2, hs3, hl3, hfin⟩ := lead_after H.out (HK.out.drewN _).drew hq HP.out.2 SN.out HX.out (heap_alloc_new w _) hg2 hk2 hf2; have FIN := Lib.hid hfin; clear hfin hg2 hk2 hf2; unfold edgeV at hrun hl3))
    go_wp2
    go_quiet (fail)
    go_wp2
    go_ret
    rw [← HX.out]
    exact ⟨rfl, FIN.out _⟩
  · go_enter Tryz.func142, Tryz.ntmps142
    go_wp2_with (go_at_call 121; refine G.out.mono ?_; rintro e w' ⟨rfl, rfl⟩)
    go_quiet (fail)
    go_wp2_with (go_at_call 145; refine (B1.out _).mono ?_; rintro e w' ⟨rfl, rfl⟩)
    have e1 : (s ||| bitN c) = stepSig s c true := rfl
    rw [e1]
    generalize hX : stepSig s c true = x at *
    have HX := Lib.hid hX.symm
    clear hX e1
    go_region_held3 (fun w' => w'.cell? ⟨p, 2, none⟩ = some (.map (some bl)) ∧ w'.cell? ⟨w.heap.size, 0, none⟩ = some (.int .i64 (n : Int)) ∧ w'.cell? ⟨w.heap.size, 1, none⟩ = some (.int .i64 c) ∧ w'.cell? ⟨w.heap.size, 2, none⟩ = some (.bool true)) (go_keep)
      (first | (go_at_call 134; refine (ND.out _ (HK.out.drewN _).drew).mono ?_; rintro e w2 ⟨rfl, Foot2, hg2, hk2, hf2⟩; obtain ⟨w3, hrun, hs2, hs3, hl3, hfin⟩ := lead_after H.out (HK.out.drewN _).drew hq HP.out.2 SN.out HX.out (heap_alloc_new w _) hg2 hk2 hf2; have FIN := Lib.hid hfin; clear hfin hg2 hk2 hf2; unfold edgeV at hrun hl3))
    go_wp2
    go_quiet (fail)
    go_wp2
    go_ret
    rw [← HX.out]
    exact ⟨rfl, FIN.out _⟩

theorem gr_lead (w : World) (p : Nat) (Foot : Nat → Prop) (q : Nat) (S : List Nat) (bl : Nat) (L : Value → Option Value) (h : Gr w p Foot q S bl L) (n c : Int) (b : Bool) (hq : q < 1099511627776) (hlen : S.length < 1099511627776) (hc : (Lit.int .i64 c).wf = true) :
    Calls Tryz.prog 142 #[.pointer (some ⟨p, 0, none⟩), edgeV n c b] w fun e w' =>
      (e = .returned (.int .i64 (if 0 ≤ n ∧ n < S.length then (nodeI S (stepSig (S.getD n.toNat 0) c b) : Nat) else -1))) ∧ ∃ L', GrStep w p Foot (q + 1) (if 0 ≤ n ∧ n < S.length then nodeS S (stepSig (S.getD n.toNat 0) c b) else S) bl L' w' := by
  by_cases hn : 0 ≤ n ∧ n < S.length
  · rw [if_pos hn, if_pos hn]
    obtain ⟨k, rfl⟩ := Int.eq_ofNat_of_zero_le hn.1
    rw [Int.toNat_natCast]
    cases hL : L (edgeV (k : Int) c b) with
    | none => exact gr_lead_new w p Foot q S bl L h k c b (by omega) hq hlen hc hL
    | some m =>
      obtain ⟨vs, bp, hp, hown, hmp, hml, hLI, hne, f1, f2, f3⟩ := h.ex
      obtain ⟨s, i, h1, h2, rfl, h4⟩ := hLI k c b m hL
      rw [Int.toNat_natCast] at h2
      have e : S.getD k 0 = s := by rw [List.getD_eq_getElem?_getD, h2]; rfl
      obtain ⟨e1, e2⟩ := nodeS_old h4
      rw [e, e1, e2]
      exact (gr_lead_old w p Foot q S bl L h k c b (by omega) hq hc i hL).mono fun _ _ hh => ⟨hh.1, L, hh.2⟩
  · rw [if_neg hn, if_neg hn]
    exact (gr_lead_out w p Foot q S bl L h n c b (by omega) hq).mono fun _ _ hh => ⟨hh.1, L, hh.2⟩

theorem gr_with (w : World) (p : Nat) (Foot : Nat → Prop) (q : Nat) (S : List Nat) (bl : Nat) (L : Value → Option Value) (h : Gr w p Foot q S bl L) (n c : Int) (hq : q < 1099511627776) (hlen : S.length < 1099511627776) (hc : (Lit.int .i64 c).wf = true) :
    Calls Tryz.prog 99 #[.pointer (some ⟨p, 0, none⟩), .int .i64 n, .int .i64 c] w fun e w' =>
      (e = .returned (.int .i64 (if 0 ≤ n ∧ n < S.length then (nodeI S (stepSig (S.getD n.toNat 0) c true) : Nat) else -1))) ∧ ∃ L', GrStep w p Foot (q + 1) (if 0 ≤ n ∧ n < S.length then nodeS S (stepSig (S.getD n.toNat 0) c true) else S) bl L' w' := by
  have G := Lib.hid (gr_lead w p Foot q S bl L h n c true hq hlen hc)
  clear h hlen hc
  unfold edgeV at G
  generalize (if 0 ≤ n ∧ n < S.length then ((nodeI S (stepSig (S.getD n.toNat 0) c true) : Nat) : Int) else -1) = r at *
  generalize (if 0 ≤ n ∧ n < S.length then nodeS S (stepSig (S.getD n.toNat 0) c true) else S) = S' at *
  go_enter Tryz.func99, Tryz.ntmps99
  go_wp2_with fail
  refine G.out.mono ?_
  rintro e w' ⟨rfl, L', hs⟩
  have HS := Lib.hid hs
  clear hs
  go_wp2
  go_ret
  exact ⟨rfl, L', HS.out⟩
theorem gr_without (w : World) (p : Nat) (Foot : Nat → Prop) (q : Nat) (S : List Nat) (bl : Nat) (L : Value → Option Value) (h : Gr w p Foot q S bl L) (n c : Int) (hq : q < 1099511627776) (hlen : S.length < 1099511627776) (hc : (Lit.int .i64 c).wf = true) :
    Calls Tryz.prog 108 #[.pointer (some ⟨p, 0, none⟩), .int .i64 n, .int .i64 c] w fun e w' =>
      (e = .returned (.int .i64 (if 0 ≤ n ∧ n < S.length then (nodeI S (stepSig (S.getD n.toNat 0) c false) : Nat) else -1))) ∧ ∃ L', GrStep w p Foot (q + 1) (if 0 ≤ n ∧ n < S.length then nodeS S (stepSig (S.getD n.toNat 0) c false) else S) bl L' w' := by
  have G := Lib.hid (gr_lead w p Foot q S bl L h n c false hq hlen hc)
  clear h hlen hc
  unfold edgeV at G
  generalize (if 0 ≤ n ∧ n < S.length then ((nodeI S (stepSig (S.getD n.toNat 0) c false) : Nat) : Int) else -1) = r at *
  generalize (if 0 ≤ n ∧ n < S.length then nodeS S (stepSig (S.getD n.toNat 0) c false) else S) = S' at *
  go_enter Tryz.func108, Tryz.ntmps108
  go_wp2_with fail
  refine G.out.mono ?_
  rintro e w' ⟨rfl, L', hs⟩
  have HS := Lib.hid hs
  clear hs
  go_wp2
  go_ret
  exact ⟨rfl, L', HS.out⟩
end Go.Proofs.YtglliendhbkkhaaGreatDoor
namespace Go.Proofs.YtglliendhbkkhaaGreatDoor
open Go.RowKit
open Go.Maps (Keyed)
set_option maxRecDepth 100000

theorem gr_new (w : World) :
    Calls Tryz.prog 52 #[] w fun e w' => ∃ p Foot bl L, e = .returned (.pointer (some ⟨p, 0, none⟩)) ∧ Gr w' p Foot 0 [0] bl L ∧ Below w.heap.size w w' ∧ ∀ k, Foot k → w.heap.size ≤ k := by
  have hmm := @run_makeMap Tryz.prog
  have m0 := MapV.made (w.alloc (.cells #[.int .u64 0] 51)) Tryz.prog 51
  rw [World.size_alloc] at m0
  have hkey : keyOf Tryz.prog 51 (.int .u64 0) = some (.int .u64 0) := keyU64 0 (by omega)
  obtain ⟨w1, hrun, hm1, hk1⟩ := m0.update keyedU64 Tryz.underlying193 (by unfold maxLen; omega) (.int .i64 0) hkey (g := placeF [0]) (fun v l hv => by
    obtain ⟨a, rfl, ha⟩ := keyU64_inv hv
    obtain ⟨n, rfl⟩ := Int.eq_ofNat_of_zero_le ha
    have hp : pos [0] n = if n = 0 then some 0 else none := pos_snoc [] 0 n (by simp)
    constructor
    · intro e
      injection e with _ e
      obtain rfl : n = 0 := by omega
      rfl
    · intro e
      have : n ≠ 0 := fun h => e (by rw [h]; rfl)
      simp [placeF, hp, this])
  have hs1 : w.heap.size + 2 ≤ w1.heap.size := by have := hk1.size; simpa using this
  have hb0 : w1.heap[w.heap.size]? = some (.cells #[.int .u64 0] 51 (0, 0)) := by
    refine (hk1.block w.heap.size (by simp; omega) (by omega)).trans ?_
    rw [Below.heap_alloc _ _ _ (by simp)]
    exact heap_alloc_new w _
  have hkw : Keep (fun _ => False) w w1 := ⟨hk1.os, hk1.tape, hk1.output, by omega, fun k hk _ => by
    rw [hk1.block k (by simp; omega) (by omega), Below.heap_alloc _ _ _ (by simp; omega), Below.heap_alloc _ _ _ hk]⟩
  have HS := Lib.hid (And.intro hm1 (And.intro hk1 (And.intro hs1 (And.intro hb0 hkw))))
  clear hm1 hk1 hs1 hb0 hkw m0 hkey
  go_enter Tryz.func52, Tryz.ntmps52
  go_wp2
  go_ret
  obtain ⟨hm1, hk1, hs1, hb0, hkw⟩ := HS.out
  have ka := (Keep.refl (fun _ => False) w1).alloc (.map #[] 0)
  have kb := ka.alloc (.cells #[.slice (some ⟨w.heap.size, 0, none⟩) 1 1, .map (some (w.heap.size + 1)), .map (some w1.heap.size)] 196)
  refine ⟨w1.heap.size + 1, fun k => w.heap.size ≤ k ∧ k < w1.heap.size + 2, w1.heap.size, fun _ => none, rfl, ⟨⟨.slice (some ⟨w.heap.size, 0, none⟩) 1 1, w.heap.size + 1, ?_, ?_, ?_, ?_, ?_, by omega, ⟨by omega, by omega⟩, ⟨by omega, by omega⟩, ?_⟩, ⟨by omega, by omega⟩, ?_, ?_, by simp, by decide, by decide⟩, ?_, fun k hk => hk.1⟩
  · exact heap_alloc2_new w1 _ _
  · refine (Own.keep (S := fun _ => False) (w := w1) ?_ kb (fun _ _ h => h))
    exact ⟨rfl, some ⟨w.heap.size, 0, none⟩, 1, rfl, Nat.le_refl _, by unfold maxLen; omega, fun _ => ⟨w.heap.size, #[.int .u64 0], rfl, Nat.zero_le _, hb0, rfl, rfl⟩⟩
  · exact hm1.keep kb (fun h => h)
  · exact (MapV.made w1 Tryz.prog 238).keep ((Keep.refl (fun _ => False) _).alloc _) (fun h => h)
  · intro n c b m h
    cases h
  · intro k hk
    simp [ownB] at hk
    omega
  · intro k hk
    simp
    omega
  · intro x hx
    simp at hx
    omega
  · exact hkw.to_below'.trans ((kb.to_below').mono hkw.size)
end Go.Proofs.YtglliendhbkkhaaGreatDoor

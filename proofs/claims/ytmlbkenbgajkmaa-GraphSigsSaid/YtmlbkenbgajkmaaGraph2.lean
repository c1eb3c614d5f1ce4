/- Contracts of graph.Node, lead, With, Without. -/
import Derived.Test.YtmlbkenbgajkmaaGraph1
import Derived.Test.YtmlbkenbgajkmaaBits5
import Derived.Deep.RegionHeld3
namespace Go.Proofs.Ytmlbkenbgajkmaa
open Go.RowKit
open Go.Maps (Keyed)
set_option maxRecDepth 100000

/-- What a step leaves: the graph over other sets, its own blocks or new ones changed. -/
def GrStep (w : World) (p : Nat) (Foot : Nat → Prop) (q : Nat) (S : List Nat) (bl : Nat) (L : Value → Option Value) (w' : World) : Prop :=
  ∃ Foot', Gr w' p Foot' q S bl L ∧ Keep Foot w w' ∧ ∀ k, Foot' k → Foot k ∨ w.heap.size ≤ k

theorem placeF_snoc (S : List Nat) (x : Nat) (hx : x ∉ S) {v : Value} {l : Lit} (h : keyOf Try.prog 36 v = some l) :
    (v = .int .u64 (x : Int) → placeF (S ++ [x]) v = some (.int .i64 (S.length : Int))) ∧ (v ≠ .int .u64 (x : Int) → placeF (S ++ [x]) v = placeF S v) := by
  obtain ⟨a, rfl, ha⟩ := keyU64_inv h
  obtain ⟨n, rfl⟩ := Int.eq_ofNat_of_zero_le ha
  simp only [placeF, Int.toNat_natCast, pos_snoc S x n hx]
  constructor
  · intro e
    injection e with _ e
    rw [if_pos (by omega)]; rfl
  · intro e
    rw [if_neg (fun h => e (by rw [h]))]

theorem LInv.node {S : List Nat} {L : Value → Option Value} (h : LInv S L) (x : Nat) : LInv (nodeS S x) L := by
  intro n c b m hm
  obtain ⟨s, i, h1, h2, h3, h4⟩ := h n c b m hm
  exact ⟨s, i, h1, nodeS_at h2, h3, nodeS_keep h4⟩

theorem gr_node (w : World) (p : Nat) (Foot : Nat → Prop) (q : Nat) (S : List Nat) (bl : Nat) (L : Value → Option Value) (h : Gr w p Foot q S bl L) (x : Nat) (hx : x < 18446744073709551616) (hlen : S.length < 1099511627776) :
    Calls Try.prog 30 #[.pointer (some ⟨p, 0, none⟩), .int .u64 x] w fun e w' => e = .returned (.int .i64 (nodeI S x : Nat)) ∧ GrStep w p Foot q (nodeS S x) bl L w' := by
  have F := Lib.hid (gr_find w p Foot q S bl L h x hx)
  cases hpos : pos S x with
  | some k =>
    rw [hpos] at F
    obtain ⟨e1, e2⟩ := nodeS_old hpos
    rw [e1, e2]
    have H := Lib.hid (show GrStep w p Foot q S bl L w from ⟨Foot, h, Keep.refl _ _, fun k hk => .inl hk⟩)
    clear hpos h e1 e2
    go_enter Try.func30, Try.ntmps30
    go_wp2_with (go_at_call 28; refine F.out.mono ?_; rintro e w' ⟨rfl, rfl⟩)
    go_ret
    exact ⟨rfl, H.out⟩
  | none =>
    rw [hpos] at F
    obtain ⟨e1, e2⟩ := nodeS_new hpos
    have hno := pos_none.1 hpos
    rw [e2]
    have H := Lib.hid h
    have E1 := Lib.hid e1
    have HN := Lib.hid hno
    obtain ⟨vs, bp, hp, hown, hmp, hml, hL, hne, f1, f2, f3⟩ := h.ex
    obtain ⟨i0, hi0, hz0, hz1, hz2⟩ := info_parts info_u64
    have HP := Lib.hid hp
    have c0 : w.cell? ⟨p, 0, none⟩ = some vs := by rw [cell_of_row w p 0 _ _ _ hp]; rfl
    have c1 : w.cell? ⟨p, 1, none⟩ = some (.map (some bp)) := by rw [cell_of_row w p 1 _ _ _ hp]; rfl
    have hpl := h.lt p h.at_
    obtain ⟨A, c, hvs, hr⟩ := hown.form
    subst hvs
    have HM := Lib.hid (And.intro hmp (And.intro hml (And.intro hL (And.intro hne (And.intro f1 (And.intro f2 f3))))))
    have HO := Lib.hid hown
    clear hpos h e1 e2 hno hp hmp hml hL hne f1 f2 f3 hr hown
    obtain ⟨n, hn⟩ : ∃ n, n = S.length := ⟨_, rfl⟩
    rw [← hn] at c0 hlen HO HP HM ⊢
    have NN := Lib.hid hn
    clear hn
    go_enter Try.func30, Try.ntmps30
    go_wp2_with (first
      | (go_at_call 28; refine F.out.mono ?_; rintro e w' ⟨rfl, rfl⟩)
      | (at_builtin; refine wpList_append_gen _ rfl (.tmp 27) (.tmp 29) _ _ rfl 0 36 i0 _ 1 8 Try.underlying39 hi0 hz0 hz1 hz2 rfl _ _ _ rfl (HO.out.alloc _) _ 1 _ rfl (src_one _ _ Try.underlying39 rfl) ?c1 ?c2 ?c3 ?_))
    case c1 => unfold maxLen; omega
    case c2 => omega
    case c3 => exact Nat.zero_le _
    intro v' w1 hown' hk1 hob
    obtain ⟨A', c', hv', hr'⟩ := hown'.form
    subst hv'
    clear hr'
    obtain ⟨hmp, hml, hL, hne, f1, f2, f3⟩ := HM.out
    have hk01 : Keep (fun k => ownB (.slice A n c) = some k) w w1 := Keep.trans ((Keep.refl _ w).alloc _) hk1 (fun _ _ h => h)
    have np := HO.out.ne_cells HP.out (by decide)
    have nbp : ownB (.slice A n c) ≠ some bp := by obtain ⟨_, _, hb⟩ := hmp.block; exact HO.out.ne_map hb
    have nbl : ownB (.slice A n c) ≠ some bl := by obtain ⟨_, _, hb⟩ := hml.block; exact HO.out.ne_map hb
    have hp1 : w1.heap[p]? = some (.cells #[.slice A n c, .map (some bp), .map (some bl)] 102 (0, 0)) := (hk01.block p hpl np).trans HP.out
    have d0 : w1.cell? ⟨p, 0, none⟩ = some (.slice A n c) := by rw [cell_of_row w1 p 0 _ _ _ hp1]; rfl
    have d1 : w1.cell? ⟨p, 1, none⟩ = some (.map (some bp)) := by rw [cell_of_row w1 p 1 _ _ _ hp1]; rfl
    have d2 : w1.frozen? ⟨p, 0, none⟩ = false := frozen_of_row w1 p 0 _ _ hp1
    have hp2 : (w1.setCell ⟨p, 0, none⟩ (.slice A' (n + 1) c')).heap[p]? = some (.cells #[.slice A' (n + 1) c', .map (some bp), .map (some bl)] 102 (0, 0)) := by
      rw [heap_setCell_same w1 p 0 _ _ _ hp1]; rfl
    have ks : Keep (fun k => k = p) w1 (w1.setCell ⟨p, 0, none⟩ (.slice A' (n + 1) c')) := Keep.setCell (S := fun k => k = p) (Keep.refl _ w1) (.inr rfl) _
    have np' : ownB (.slice A' (n + 1) c') ≠ some p := hown'.ne_cells hp1 (by decide)
    have ho2 := hown'.keep ks (fun k hk e => np' (by rw [hk, e]))
    have mp2 := (hmp.keep hk01 nbp).keep ks (fun e => hmp.ne_cells HP.out e.symm)
    have ml2 := (hml.keep hk01 nbl).keep ks (fun e => hml.ne_cells HP.out e.symm)
    have X := Lib.hid (And.intro hmp (And.intro hml (And.intro hL (And.intro hne (And.intro f1 (And.intro f2 (And.intro f3 (And.intro hk01 (And.intro np (And.intro nbp (And.intro nbl (And.intro hp1 (And.intro hp2 (And.intro ks (And.intro np' (And.intro ho2 (And.intro mp2 (And.intro ml2 hob))))))))))))))))))
    clear hmp hml hL hne f1 f2 f3 hk01 np nbp nbl hp1 hp2 ks np' ho2 ml2 hob hown' hk1
    have MP := Lib.hid mp2
    clear mp2
    go_wp2_with (at_mapUpdate; refine wpList_mapUpdate_gen rfl _ _ _ _ rfl MP.out keyedU64 (g := placeF (S ++ [x])) Try.underlying99 ?e1 _ (keyU64 x hx) rfl rfl rfl ?e2 ?_)
    case e1 => unfold maxLen; omega
    case e2 => intro v l hv; rw [NN.out]; exact placeF_snoc S x HN.out hv
    intro w3 hm3 hk3
    have HM3 := Lib.hid (And.intro hm3 hk3)
    clear hm3 hk3
    go_wp2
    go_ret
    refine ⟨rfl, ?_⟩
    obtain ⟨hmp, hml, hL, hne, f1, f2, f3, hk01, np, nbp, nbl, hp1, hp2, ks, np', ho2, mp2, ml2, hob⟩ := X.out
    obtain ⟨hm3, hk3⟩ := HM3.out
    have hbpne : p ≠ bp := hmp.ne_cells HP.out
    have hS := NN.out
    rw [E1.out]
    have hk03 : Keep Foot w w3 := by
      refine Keep.trans (T := fun k => k = bp) (Keep.trans (T := fun k => k = p) (hk01.mono (T := Foot) (fun k _ hk => f3 k hk)) ks (fun k _ hk => by rw [hk]; exact H.out.at_)) hk3 (fun k _ hk => by rw [hk]; exact f1)
    have hsz2 : (w1.setCell ⟨p, 0, none⟩ (.slice A' (n + 1) c')).heap.size ≤ w3.heap.size := hk3.size
    have ho3 := ho2.keep hk3 (fun k hk e => by
      subst e
      obtain ⟨_, _, hb⟩ := mp2.block
      exact ho2.ne_map hb hk)
    refine ⟨fun k => Foot k ∨ (w.heap.size ≤ k ∧ k < w3.heap.size), ⟨⟨.slice A' (n + 1) c', bp, ?_, ?_, ?_, ml2.keep hk3 (fun e => hne e.symm), ?_, hne, .inl f1, .inl f2, ?_⟩, .inl H.out.at_, ?_, ?_, ?_, ?_, H.out.asked⟩, hk03, ?_⟩
    · exact (hk3.block p (by rw [World.size_setCell]; exact Nat.lt_of_lt_of_le hpl (by have := hk01.size; exact this)) hbpne).trans hp2
    · exact ho3.re (by simp [uv]) (by simp [uv])
    · have : (S ++ [x]).length = n + 1 := by simp [hS]
      rw [this]; exact hm3
    · have := hL.node x
      rwa [E1.out] at this
    · intro k hk
      rcases hob k hk with e | e
      · exact .inl (f3 k e)
      · refine .inr ⟨?_, (ho3.ownB k hk).2⟩
        have : w.heap.size + 1 ≤ k := by simpa using e
        omega
    · intro k hk
      rcases hk with hk | hk
      · exact Nat.lt_of_lt_of_le (H.out.lt k hk) hk03.size
      · exact hk.2
    · intro y hy
      rcases List.mem_append.1 hy with hy | hy
      · exact H.out.small y hy
      · simp at hy; subst hy; exact hx
    · have := nodeS_nodup H.out.nodup x
      rwa [E1.out] at this
    · simp; omega
    · intro k hk
      rcases hk with hk | hk
      · exact .inl hk
      · exact .inr hk.1
end Go.Proofs.Ytmlbkenbgajkmaa

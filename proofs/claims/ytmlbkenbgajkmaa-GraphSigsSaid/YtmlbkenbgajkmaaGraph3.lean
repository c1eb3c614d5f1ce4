/- Contracts of graph.lead, With, Without. -/
import Derived.Test.YtmlbkenbgajkmaaGraph2
namespace Go.Proofs.Ytmlbkenbgajkmaa
open Go.RowKit
open Go.Maps (Keyed)
set_option maxRecDepth 100000

theorem Gr.keep {w w' : World} {p : Nat} {Foot : Nat → Prop} {q : Nat} {S : List Nat} {bl : Nat} {L : Value → Option Value} {T : Nat → Prop} (h : Gr w p Foot q S bl L) (hk : Keep T w w') (ht : ∀ k, Foot k → ¬ T k) : Gr w' p Foot q S bl L := by
  obtain ⟨vs, bp, hp, hown, hmp, hml, hL, hne, f1, f2, f3⟩ := h.ex
  exact ⟨⟨vs, bp, (hk.block p (h.lt p h.at_) (ht p h.at_)).trans hp, hown.keep hk (fun k hk => ht k (f3 k hk)), hmp.keep hk (ht bp f1), hml.keep hk (ht bl f2), hL, hne, f1, f2, f3⟩,
    h.at_, fun k hk' => Nat.lt_of_lt_of_le (h.lt k hk') hk.size, h.small, h.nodup, h.len, h.asked⟩
theorem Gr.more {w : World} {p : Nat} {Foot : Nat → Prop} {q q' : Nat} {S : List Nat} {bl : Nat} {L : Value → Option Value} (h : Gr w p Foot q S bl L) (hq : q ≤ q') (h2 : q' ≤ 1099511627776) : Gr w p Foot q' S bl L := by
  obtain ⟨vs, bp, hp, hown, hmp, hml, hL, hne, f1, f2, f3⟩ := h.ex
  exact ⟨⟨vs, bp, hp, hown, hmp, hml.mono hq, hL, hne, f1, f2, f3⟩, h.at_, h.lt, h.small, h.nodup, h.len, h2⟩
theorem GrStep.of_keep {w w' : World} {p : Nat} {Foot : Nat → Prop} {q q' : Nat} {S : List Nat} {bl : Nat} {L : Value → Option Value} (h : Gr w p Foot q S bl L) (hk : Keep (fun _ => False) w w') (hq : q ≤ q') (h2 : q' ≤ 1099511627776) : GrStep w p Foot q' S bl L w' :=
  ⟨Foot, (h.keep hk (fun _ _ h => h)).more hq h2, hk.mono (fun _ _ h => h.elim), fun _ h => .inl h⟩

theorem gr_lead_out (w : World) (p : Nat) (Foot : Nat → Prop) (q : Nat) (S : List Nat) (bl : Nat) (L : Value → Option Value) (h : Gr w p Foot q S bl L) (n c : Int) (b : Bool) (ho : n < 0 ∨ (S.length : Int) ≤ n) (hq : q < 1099511627776) :
    Calls Try.prog 75 #[.pointer (some ⟨p, 0, none⟩), edgeV n c b] w fun e w' => e = .returned (.int .i64 (-1)) ∧ GrStep w p Foot (q + 1) S bl L w' := by
  have hk := (Keep.refl (fun _ => False) w).alloc (.cells #[.int .i64 n, .int .i64 c, .bool b] 113)
  have G := Lib.hid (gr_sig _ p Foot q S bl L (h.keep hk (fun _ _ h => h)) n)
  rw [if_neg (by omega), show (decide (0 ≤ n) && decide (n < (S.length : Int))) = false by rcases ho with ho | ho; (· rw [decide_eq_false (by omega)]; rfl); (· rw [decide_eq_false (p := n < (S.length : Int)) (by omega), Bool.and_false])] at G
  have H := Lib.hid (GrStep.of_keep h hk (Nat.le_succ q) hq)
  clear h hk ho
  unfold edgeV
  go_enter Try.func75, Try.ntmps75
  go_wp2_with (go_at_call 27; refine G.out.mono ?_; rintro e w' ⟨rfl, rfl⟩)
  go_ret
  exact ⟨rfl, H.out⟩

theorem gr_lead_old (w : World) (p : Nat) (Foot : Nat → Prop) (q : Nat) (S : List Nat) (bl : Nat) (L : Value → Option Value) (h : Gr w p Foot q S bl L) (n : Nat) (c : Int) (b : Bool) (hn : n < S.length) (hq : q < 1099511627776) (hc : (Lit.int .i64 c).wf = true)
    (i : Nat) (hL : L (edgeV n c b) = some (.int .i64 (i : Int))) :
    Calls Try.prog 75 #[.pointer (some ⟨p, 0, none⟩), edgeV n c b] w fun e w' => e = .returned (.int .i64 (i : Int)) ∧ GrStep w p Foot (q + 1) S bl L w' := by
  obtain ⟨vs, bp, hp, hown, hmp, hml, hLI, hne, f1, f2, f3⟩ := h.ex
  have hk := (Keep.refl (fun _ => False) w).alloc (.cells #[.int .i64 (n : Int), .int .i64 c, .bool b] 113)
  have G := Lib.hid (gr_sig _ p Foot q S bl L (h.keep hk (fun _ _ h => h)) n)
  have hlen := h.len
  rw [decide_eq_true (by omega), decide_eq_true (by omega), Bool.and_self] at G
  obtain ⟨l, hl⟩ := keyEdge n c b (WalkArith.wf_i64 (by omega)) hc
  have hlook := fun nq : Nat => MapV.look (w := (w.alloc (.cells #[.int .i64 (n : Int), .int .i64 c, .bool b] 113)).drewN nq) (hml.keep (hk.drewN nq) (fun h => h)) keyedEdge Try.underlying100 zeroInt hl
  rw [hL] at hlook
  have H := Lib.hid (fun nq => GrStep.of_keep h (hk.drewN nq) (Nat.le_succ q) hq)
  have hpl := h.lt p h.at_
  have c2 : (w.alloc (.cells #[.int .i64 (n : Int), .int .i64 c, .bool b] 113)).cell? ⟨p, 2, none⟩ = some (.map (some bl)) := by
    rw [World.cell?_alloc_lt _ _ _ hpl, cell_of_row w p 2 _ _ _ hp]; rfl
  clear h hk hml hp hL hl hc hlen hown hmp hLI hne f1 f2 f3
  unfold edgeV at *
  simp only [Option.getD_some, Option.isSome_some] at hlook
  generalize (if 0 ≤ (n : Int) ∧ (n : Int) < S.length then S.getD (n : Int).toNat 0 else 0 : Nat) = s at *
  go_enter Try.func75, Try.ntmps75
  go_wp2_with (go_at_call 27; refine G.out.mono ?_; rintro e w' ⟨rfl, rfl⟩)
  go_quiet (fail)
  go_wp2
  go_ret
  exact ⟨rfl, H.out _⟩

noncomputable def updV (f : Value → Option Value) (key val : Value) : Value → Option Value := fun v => open Classical in if v = key then some val else f v
theorem updV_same (f : Value → Option Value) (key val : Value) : updV f key val key = some val := by unfold updV; rw [if_pos rfl]
theorem updV_other {f : Value → Option Value} {key val v : Value} (h : v ≠ key) : updV f key val v = f v := by unfold updV; rw [if_neg h]

/-- Behind 'g.leads[e] = g.Node(sig)'. -/
theorem lead_after {w W w2 : World} {p : Nat} {Foot Foot2 : Nat → Prop} {q : Nat} {S : List Nat} {bl : Nat} {L : Value → Option Value} (h : Gr w p Foot q S bl L) (hW : Keep (fun _ => False) w W) (hq : q < 1099511627776)
    {n : Nat} {c : Int} {b : Bool} {s x : Nat} {l : Lit} (hl : keyOf Try.prog 113 (edgeV n c b) = some l) (hs : S[n]? = some s) (hx : x = stepSig s c b)
    (hbox : W.heap[w.heap.size]? = some (.cells #[.int .i64 (n : Int), .int .i64 c, .bool b] 113 (0, 0)))
    (hg2 : Gr w2 p Foot2 q (nodeS S x) bl L) (hk2 : Keep Foot W w2) (hf2 : ∀ k, Foot2 k → Foot k ∨ W.heap.size ≤ k) :
    ∃ w3, (Instr.mapUpdate 100 (.map (some bl)) (edgeV n c b) (.int .i64 (nodeI S x : Nat))).run Try.prog w2 = .ok () w3 ∧
      (w2.cell? ⟨p, 2, none⟩ = some (.map (some bl)) ∧ w2.cell? ⟨w.heap.size, 0, none⟩ = some (.int .i64 (n : Int)) ∧ w2.cell? ⟨w.heap.size, 1, none⟩ = some (.int .i64 c) ∧ w2.cell? ⟨w.heap.size, 2, none⟩ = some (.bool b)) ∧
      (w3.cell? ⟨p, 2, none⟩ = some (.map (some bl)) ∧ w3.cell? ⟨w.heap.size, 0, none⟩ = some (.int .i64 (n : Int)) ∧ w3.cell? ⟨w.heap.size, 1, none⟩ = some (.int .i64 c) ∧ w3.cell? ⟨w.heap.size, 2, none⟩ = some (.bool b)) ∧
      (∀ nq, (Instr.lookup 100 (.map (some bl)) (edgeV n c b) false).run Try.prog (w3.drewN nq) = .ok (.int .i64 (nodeI S x : Nat)) (w3.drewN nq)) ∧
      ∀ nq, ∃ L', GrStep w p Foot (q + 1) (nodeS S x) bl L' (w3.drewN nq) := by
  obtain ⟨vs, bp, hp, hown, hmp, hml, hLI, hne, f1, f2, f3⟩ := hg2.ex
  obtain ⟨w3, hrun, hm3, hk3⟩ := hml.update keyedEdge Try.underlying100 (by unfold maxLen; omega) (.int .i64 (nodeI S x : Nat)) hl (g := updV L (edgeV n c b) (.int .i64 (nodeI S x : Nat)))
    (fun v l _ => ⟨fun e => by rw [e, updV_same], fun e => updV_other e⟩)
  have hFw : ¬ Foot w.heap.size := fun hF => by have := h.lt _ hF; omega
  have hwW : w.heap.size < W.heap.size := (Array.getElem?_eq_some_iff.1 hbox).1
  have hb2 : w2.heap[w.heap.size]? = some (.cells #[.int .i64 (n : Int), .int .i64 c, .bool b] 113 (0, 0)) := (hk2.block _ hwW hFw).trans hbox
  have hblne : w.heap.size ≠ bl := hml.ne_cells hb2
  have hpbl : p ≠ bl := hml.ne_cells hp
  have hp3 : w3.heap[p]? = some (.cells #[vs, .map (some bp), .map (some bl)] 102 (0, 0)) := (hk3.block p (hg2.lt p hg2.at_) hpbl).trans hp
  have hb3 : w3.heap[w.heap.size]? = some (.cells #[.int .i64 (n : Int), .int .i64 c, .bool b] 113 (0, 0)) := (hk3.block _ (Array.getElem?_eq_some_iff.1 hb2).1 hblne).trans hb2
  have hno : ownB vs ≠ some bl := by obtain ⟨_, _, hb⟩ := hml.block; exact hown.ne_map hb
  refine ⟨w3, hrun, ⟨?_, ?_, ?_, ?_⟩, ⟨?_, ?_, ?_, ?_⟩, fun nq => ?_, fun nq => ⟨updV L (edgeV n c b) (.int .i64 (nodeI S x : Nat)), Foot2, ⟨⟨vs, bp, hp3, hown.keep (S := fun x => x = bl) (hk3.drewN nq) (fun k hk e => hno (hk.trans (congrArg some e))), hmp.keep (S := fun x => x = bl) (hk3.drewN nq) hne, hm3, ?_, hne, f1, f2, f3⟩, hg2.at_, ?_, hg2.small, hg2.nodup, hg2.len, by omega⟩, ?_, ?_⟩⟩
  · rw [cell_of_row w2 p 2 _ _ _ hp]; rfl
  · rw [cell_of_row w2 _ 0 _ _ _ hb2]; rfl
  · rw [cell_of_row w2 _ 1 _ _ _ hb2]; rfl
  · rw [cell_of_row w2 _ 2 _ _ _ hb2]; rfl
  · rw [cell_of_row w3 p 2 _ _ _ hp3]; rfl
  · rw [cell_of_row w3 _ 0 _ _ _ hb3]; rfl
  · rw [cell_of_row w3 _ 1 _ _ _ hb3]; rfl
  · rw [cell_of_row w3 _ 2 _ _ _ hb3]; rfl
  · have := MapV.look1 (w := w3.drewN nq) hm3 keyedEdge Try.underlying100 zeroInt hl
    rwa [updV_same] at this
  · intro n' c' b' m hm
    by_cases e : edgeV n' c' b' = edgeV n c b
    · rw [e, updV_same] at hm
      injection hm with hm
      simp [edgeV] at e
      obtain ⟨rfl, rfl, rfl⟩ := e
      refine ⟨s, nodeI S x, by omega, ?_, hm.symm, ?_⟩
      · rw [Int.toNat_natCast]; exact nodeS_at hs
      · rw [← hx]; exact nodeS_pos S x
    · rw [updV_other e] at hm
      exact hLI n' c' b' m hm
  · intro k hk
    exact Nat.lt_of_lt_of_le (hg2.lt k hk) hk3.size
  · refine Keep.trans (S := Foot) (T := fun k => Foot2 k) (Keep.trans (T := Foot) (hW.mono (fun _ _ h => h.elim)) hk2 (fun _ _ h => h)) ((hk3.mono (T := fun k => Foot2 k) (fun k _ e => by rw [e]; exact f2)).drewN nq) (fun k hk hF => ?_)
    rcases hf2 k hF with h1 | h1
    · exact h1
    · have := hW.size; omega
  · intro k hk
    rcases hf2 k hk with h1 | h1
    · exact .inl h1
    · have := hW.size
      exact .inr (by omega)

theorem gr_lead_new (w : World) (p : Nat) (Foot : Nat → Prop) (q : Nat) (S : List Nat) (bl : Nat) (L : Value → Option Value) (h : Gr w p Foot q S bl L) (n : Nat) (c : Int) (b : Bool) (hn : n < S.length) (hq : q < 1099511627776) (hlen : S.length < 1099511627776) (hc : (Lit.int .i64 c).wf = true)
    (hL : L (edgeV n c b) = none) :
    Calls Try.prog 75 #[.pointer (some ⟨p, 0, none⟩), edgeV n c b] w fun e w' => e = .returned (.int .i64 (nodeI S (stepSig (S.getD n 0) c b) : Nat)) ∧ ∃ L', GrStep w p Foot (q + 1) (nodeS S (stepSig (S.getD n 0) c b)) bl L' w' := by
  obtain ⟨vs, bp, hp, hown, hmp, hml, hLI, hne, f1, f2, f3⟩ := h.ex
  have hk := (Keep.refl (fun _ => False) w).alloc (.cells #[.int .i64 (n : Int), .int .i64 c, .bool b] 113)
  have G := Lib.hid (gr_sig _ p Foot q S bl L (h.keep hk (fun _ _ h => h)) n)
  rw [if_pos (by omega), decide_eq_true (by omega), decide_eq_true (by omega), Bool.and_self, Int.toNat_natCast] at G
  obtain ⟨l, hl⟩ := keyEdge n c b (WalkArith.wf_i64 (by omega)) hc
  have hlook := fun nq : Nat => MapV.look (w := (w.alloc (.cells #[.int .i64 (n : Int), .int .i64 c, .bool b] 113)).drewN nq) (hml.keep (hk.drewN nq) (fun h => h)) keyedEdge Try.underlying100 zeroInt hl
  rw [hL] at hlook
  have hx0 : S.getD n 0 < 18446744073709551616 := h.small _ (List.mem_of_getElem? (uv_at hn).2)
  have hpl := h.lt p h.at_
  have c2 : (w.alloc (.cells #[.int .i64 (n : Int), .int .i64 c, .bool b] 113)).cell? ⟨p, 2, none⟩ = some (.map (some bl)) := by
    rw [World.cell?_alloc_lt _ _ _ hpl, cell_of_row w p 2 _ _ _ hp]; rfl
  have B1 := Lib.hid (with_any (S.getD n 0) c hx0)
  have B2 := Lib.hid (without_any (S.getD n 0) c hx0)
  have hxs := stepSig_lt (S.getD n 0) c b hx0
  have ND := Lib.hid (fun W (hW : Keep (fun _ => False) w W) => gr_node W p Foot q S bl L (h.keep hW (fun _ _ h => h)) (stepSig (S.getD n 0) c b) hxs hlen)
  have HK := Lib.hid hk
  have H := Lib.hid h
  have HP := Lib.hid (And.intro hL hl)
  have SN := Lib.hid (uv_at hn).2
  clear h hk hml hp hL hl hlen hown hmp hLI hne f1 f2 f3
  unfold edgeV at *
  simp only [Option.getD_none, Option.isSome_none] at hlook
  generalize S.getD n 0 = s at *
  cases b
  · go_enter Try.func75, Try.ntmps75
    go_wp2_with (go_at_call 27; refine G.out.mono ?_; rintro e w' ⟨rfl, rfl⟩)
    go_quiet (fail)
    go_wp2_with (go_at_call 92; refine (B2.out _).mono ?_; rintro e w' ⟨rfl, rfl⟩)
    have e1 : without s c = stepSig s c false := rfl
    rw [e1]
    generalize hX : stepSig s c false = x at *
    have HX := Lib.hid hX.symm
    clear hX e1
    go_region_held3 (fun w' => w'.cell? ⟨p, 2, none⟩ = some (.map (some bl)) ∧ w'.cell? ⟨w.heap.size, 0, none⟩ = some (.int .i64 (n : Int)) ∧ w'.cell? ⟨w.heap.size, 1, none⟩ = some (.int .i64 c) ∧ w'.cell? ⟨w.heap.size, 2, none⟩ = some (.bool false)) (go_keep)
      (first | (go_at_call 30; refine (ND.out _ (HK.out.drewN _).drew).mono ?_; rintro e w2 ⟨rfl, Foot2, hg2, hk2, hf2⟩; obtain ⟨w3, hrun, hs2, hs3, hl3, hfin⟩ := lead_after H.out (HK.out.drewN _).drew hq HP.out.2 SN.out HX.out (heap_alloc_new w _) hg2 hk2 hf2; have FIN := Lib.hid hfin; clear hfin hg2 hk2 hf2; unfold edgeV at hrun hl3))
    go_wp2
    go_quiet (fail)
    go_wp2
    go_ret
    rw [← HX.out]
    exact ⟨rfl, FIN.out _⟩
  · go_enter Try.func75, Try.ntmps75
    go_wp2_with (go_at_call 27; refine G.out.mono ?_; rintro e w' ⟨rfl, rfl⟩)
    go_quiet (fail)
    go_wp2_with (go_at_call 91; refine (B1.out _).mono ?_; rintro e w' ⟨rfl, rfl⟩)
    have e1 : (s ||| bitN c) = stepSig s c true := rfl
    rw [e1]
    generalize hX : stepSig s c true = x at *
    have HX := Lib.hid hX.symm
    clear hX e1
    go_region_held3 (fun w' => w'.cell? ⟨p, 2, none⟩ = some (.map (some bl)) ∧ w'.cell? ⟨w.heap.size, 0, none⟩ = some (.int .i64 (n : Int)) ∧ w'.cell? ⟨w.heap.size, 1, none⟩ = some (.int .i64 c) ∧ w'.cell? ⟨w.heap.size, 2, none⟩ = some (.bool true)) (go_keep)
      (first | (go_at_call 30; refine (ND.out _ (HK.out.drewN _).drew).mono ?_; rintro e w2 ⟨rfl, Foot2, hg2, hk2, hf2⟩; obtain ⟨w3, hrun, hs2, hs3, hl3, hfin⟩ := lead_after H.out (HK.out.drewN _).drew hq HP.out.2 SN.out HX.out (heap_alloc_new w _) hg2 hk2 hf2; have FIN := Lib.hid hfin; clear hfin hg2 hk2 hf2; unfold edgeV at hrun hl3))
    go_wp2
    go_quiet (fail)
    go_wp2
    go_ret
    rw [← HX.out]
    exact ⟨rfl, FIN.out _⟩

theorem gr_lead (w : World) (p : Nat) (Foot : Nat → Prop) (q : Nat) (S : List Nat) (bl : Nat) (L : Value → Option Value) (h : Gr w p Foot q S bl L) (n c : Int) (b : Bool) (hq : q < 1099511627776) (hlen : S.length < 1099511627776) (hc : (Lit.int .i64 c).wf = true) :
    Calls Try.prog 75 #[.pointer (some ⟨p, 0, none⟩), edgeV n c b] w fun e w' =>
      (e = .returned (.int .i64 (if 0 ≤ n ∧ n < S.length then (nodeI S (stepSig (S.getD n.toNat 0) c b) : Nat) else -1))) ∧ ∃ L', GrStep w p Foot (q + 1) (if 0 ≤ n ∧ n < S.length then nodeS S (stepSig (S.getD n.toNat 0) c b) else S) bl L' w' := by
  by_cases hn : 0 ≤ n ∧ n < S.length
  · rw [if_pos hn, if_pos hn]
    obtain ⟨k, rfl⟩ := Int.eq_ofNat_of_zero_le hn.1
    rw [Int.toNat_natCast]
    cases hL : L (edgeV (k : Int) c b) with
    | none => exact gr_lead_new w p Foot q S bl L h k c b (by omega) hq hlen hc hL
    | some m =>
      obtain ⟨vs, bp, hp, hown, hmp, hml, hLI, hne, f1, f2, f3⟩ := h.ex
      obtain ⟨s, i, h1, h2, rfl, h4⟩ := hLI k c b m hL
      rw [Int.toNat_natCast] at h2
      have e : S.getD k 0 = s := by rw [List.getD_eq_getElem?_getD, h2]; rfl
      obtain ⟨e1, e2⟩ := nodeS_old h4
      rw [e, e1, e2]
      exact (gr_lead_old w p Foot q S bl L h k c b (by omega) hq hc i hL).mono fun _ _ hh => ⟨hh.1, L, hh.2⟩
  · rw [if_neg hn, if_neg hn]
    exact (gr_lead_out w p Foot q S bl L h n c b (by omega) hq).mono fun _ _ hh => ⟨hh.1, L, hh.2⟩

theorem gr_with (w : World) (p : Nat) (Foot : Nat → Prop) (q : Nat) (S : List Nat) (bl : Nat) (L : Value → Option Value) (h : Gr w p Foot q S bl L) (n c : Int) (hq : q < 1099511627776) (hlen : S.length < 1099511627776) (hc : (Lit.int .i64 c).wf = true) :
    Calls Try.prog 37 #[.pointer (some ⟨p, 0, none⟩), .int .i64 n, .int .i64 c] w fun e w' =>
      (e = .returned (.int .i64 (if 0 ≤ n ∧ n < S.length then (nodeI S (stepSig (S.getD n.toNat 0) c true) : Nat) else -1))) ∧ ∃ L', GrStep w p Foot (q + 1) (if 0 ≤ n ∧ n < S.length then nodeS S (stepSig (S.getD n.toNat 0) c true) else S) bl L' w' := by
  have G := Lib.hid (gr_lead w p Foot q S bl L h n c true hq hlen hc)
  clear h hlen hc
  unfold edgeV at G
  generalize (if 0 ≤ n ∧ n < S.length then ((nodeI S (stepSig (S.getD n.toNat 0) c true) : Nat) : Int) else -1) = r at *
  generalize (if 0 ≤ n ∧ n < S.length then nodeS S (stepSig (S.getD n.toNat 0) c true) else S) = S' at *
  go_enter Try.func37, Try.ntmps37
  go_wp2_with fail
  refine G.out.mono ?_
  rintro e w' ⟨rfl, L', hs⟩
  have HS := Lib.hid hs
  clear hs
  go_wp2
  go_ret
  exact ⟨rfl, L', HS.out⟩
theorem gr_without (w : World) (p : Nat) (Foot : Nat → Prop) (q : Nat) (S : List Nat) (bl : Nat) (L : Value → Option Value) (h : Gr w p Foot q S bl L) (n c : Int) (hq : q < 1099511627776) (hlen : S.length < 1099511627776) (hc : (Lit.int .i64 c).wf = true) :
    Calls Try.prog 38 #[.pointer (some ⟨p, 0, none⟩), .int .i64 n, .int .i64 c] w fun e w' =>
      (e = .returned (.int .i64 (if 0 ≤ n ∧ n < S.length then (nodeI S (stepSig (S.getD n.toNat 0) c false) : Nat) else -1))) ∧ ∃ L', GrStep w p Foot (q + 1) (if 0 ≤ n ∧ n < S.length then nodeS S (stepSig (S.getD n.toNat 0) c false) else S) bl L' w' := by
  have G := Lib.hid (gr_lead w p Foot q S bl L h n c false hq hlen hc)
  clear h hlen hc
  unfold edgeV at G
  generalize (if 0 ≤ n ∧ n < S.length then ((nodeI S (stepSig (S.getD n.toNat 0) c false) : Nat) : Int) else -1) = r at *
  generalize (if 0 ≤ n ∧ n < S.length then nodeS S (stepSig (S.getD n.toNat 0) c false) else S) = S' at *
  go_enter Try.func38, Try.ntmps38
  go_wp2_with fail
  refine G.out.mono ?_
  rintro e w' ⟨rfl, L', hs⟩
  have HS := Lib.hid hs
  clear hs
  go_wp2
  go_ret
  exact ⟨rfl, L', HS.out⟩
end Go.Proofs.Ytmlbkenbgajkmaa

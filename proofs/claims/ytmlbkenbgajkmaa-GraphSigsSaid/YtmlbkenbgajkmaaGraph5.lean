/- Contracts of vivariumlaw10.do, live. -/
import Derived.Test.YtmlbkenbgajkmaaGraph4
import Derived.Test.YtmlbkenbgajkmaaGraphR
namespace Go.Proofs.Ytmlbkenbgajkmaa
open Go.RowKit
set_option maxRecDepth 100000

/-- A graph over S, at most q steps asked. -/
def GrIs (w : World) (p : Nat) (Foot : Nat → Prop) (q : Nat) (S : List Nat) : Prop := ∃ q' bl L, q' ≤ q ∧ Gr w p Foot q' S bl L
/-- The graph over S' behind a call. -/
def GrTo (w : World) (p : Nat) (Foot : Nat → Prop) (q : Nat) (S : List Nat) (w' : World) : Prop :=
  ∃ Foot', GrIs w' p Foot' q S ∧ Keep Foot w w' ∧ ∀ k, Foot' k → Foot k ∨ w.heap.size ≤ k
theorem GrIs.keep {w w' : World} {p q : Nat} {Foot T : Nat → Prop} {S : List Nat} (h : GrIs w p Foot q S) (hk : Keep T w w') (ht : ∀ k, Foot k → ¬ T k) : GrIs w' p Foot q S := by
  obtain ⟨q', bl, L, h1, h2⟩ := h
  exact ⟨q', bl, L, h1, h2.keep hk ht⟩
theorem GrTo.of_step {w w' : World} {p q q' : Nat} {Foot : Nat → Prop} {S : List Nat} {bl : Nat} {L : Value → Option Value} (h : GrStep w p Foot q' S bl L w') (hq : q' ≤ q) : GrTo w p Foot q S w' := by
  obtain ⟨Foot', h1, h2, h3⟩ := h
  exact ⟨Foot', ⟨q', bl, L, hq, h1⟩, h2, h3⟩
theorem GrTo.same {w w0 w' : World} {p q : Nat} {Foot : Nat → Prop} {S : List Nat} (hk : Keep (fun _ => False) w0 w) (h : GrTo w p Foot q S w') : GrTo w0 p Foot q S w' := by
  obtain ⟨Foot', h1, h2, h3⟩ := h
  exact ⟨Foot', h1, hk.mono (T := Foot) (fun _ _ h => h.elim) |>.trans h2 (fun _ _ h => h), fun k h => (h3 k h).imp id fun h => Nat.le_trans hk.size h⟩

theorem gis_find {w : World} {p q : Nat} {Foot : Nat → Prop} {S : List Nat} (h : GrIs w p Foot q S) (x : Nat) (hx : x < 18446744073709551616) :
    Calls Try.prog 28 #[.pointer (some ⟨p, 0, none⟩), .int .u64 x] w fun e w' => e = .returned (.tuple #[.int .i64 ((pos S x).getD 0 : Nat), .bool (pos S x).isSome]) ∧ w = w' := by
  obtain ⟨q', bl, L, _, h⟩ := h
  exact gr_find w p Foot q' S bl L h x hx
theorem gis_sig {w : World} {p q : Nat} {Foot : Nat → Prop} {S : List Nat} (h : GrIs w p Foot q S) (n : Int) :
    Calls Try.prog 27 #[.pointer (some ⟨p, 0, none⟩), .int .i64 n] w fun e w' =>
      e = .returned (.tuple #[.int .u64 (if 0 ≤ n ∧ n < S.length then S.getD n.toNat 0 else 0 : Nat), .bool (decide (0 ≤ n) && decide (n < S.length))]) ∧ w = w' := by
  obtain ⟨q', bl, L, _, h⟩ := h
  exact gr_sig w p Foot q' S bl L h n
theorem gis_len {w : World} {p q : Nat} {Foot : Nat → Prop} {S : List Nat} (h : GrIs w p Foot q S) :
    Calls Try.prog 26 #[.pointer (some ⟨p, 0, none⟩)] w fun e w' => e = .returned (.int .i64 (S.length : Nat)) ∧ w = w' := by
  obtain ⟨q', bl, L, _, h⟩ := h
  exact gr_len w p Foot q' S bl L h
theorem gis_node {w : World} {p q : Nat} {Foot : Nat → Prop} {S : List Nat} (h : GrIs w p Foot q S) (x : Nat) (hx : x < 18446744073709551616) (hlen : S.length < 1099511627776) :
    Calls Try.prog 30 #[.pointer (some ⟨p, 0, none⟩), .int .u64 x] w fun e w' => e = .returned (.int .i64 (nodeI S x : Nat)) ∧ GrTo w p Foot q (nodeS S x) w' := by
  obtain ⟨q', bl, L, hq, h⟩ := h
  exact (gr_node w p Foot q' S bl L h x hx hlen).mono fun _ _ hh => ⟨hh.1, .of_step hh.2 hq⟩
theorem gis_with {w : World} {p q : Nat} {Foot : Nat → Prop} {S : List Nat} (h : GrIs w p Foot q S) (n c : Int) (hq : q < 1099511627776) (hlen : S.length < 1099511627776) (hc : (Lit.int .i64 c).wf = true) :
    Calls Try.prog 37 #[.pointer (some ⟨p, 0, none⟩), .int .i64 n, .int .i64 c] w fun e w' =>
      (e = .returned (.int .i64 (if 0 ≤ n ∧ n < S.length then (nodeI S (stepSig (S.getD n.toNat 0) c true) : Nat) else -1))) ∧ GrTo w p Foot (q + 1) (if 0 ≤ n ∧ n < S.length then nodeS S (stepSig (S.getD n.toNat 0) c true) else S) w' := by
  obtain ⟨q', bl, L, hq', h⟩ := h
  exact (gr_with w p Foot q' S bl L h n c (by omega) hlen hc).mono fun _ _ ⟨h1, L', h2⟩ => ⟨h1, .of_step h2 (by omega)⟩
theorem gis_without {w : World} {p q : Nat} {Foot : Nat → Prop} {S : List Nat} (h : GrIs w p Foot q S) (n c : Int) (hq : q < 1099511627776) (hlen : S.length < 1099511627776) (hc : (Lit.int .i64 c).wf = true) :
    Calls Try.prog 38 #[.pointer (some ⟨p, 0, none⟩), .int .i64 n, .int .i64 c] w fun e w' =>
      (e = .returned (.int .i64 (if 0 ≤ n ∧ n < S.length then (nodeI S (stepSig (S.getD n.toNat 0) c false) : Nat) else -1))) ∧ GrTo w p Foot (q + 1) (if 0 ≤ n ∧ n < S.length then nodeS S (stepSig (S.getD n.toNat 0) c false) else S) w' := by
  obtain ⟨q', bl, L, hq', h⟩ := h
  exact (gr_without w p Foot q' S bl L h n c (by omega) hlen hc).mono fun _ _ ⟨h1, L', h2⟩ => ⟨h1, .of_step h2 (by omega)⟩

theorem gis_do {w : World} {p q : Nat} {Foot : Nat → Prop} {S : List Nat} (h : GrIs w p Foot q S) (act n c : Int) (sig : Nat) (hq : q < 1099511627776) (hlen : S.length < 1099511627776) (hc : (Lit.int .i64 c).wf = true) (hsig : sig < 18446744073709551616) :
    Calls Try.prog 24 #[.pointer (some ⟨p, 0, none⟩), .agg #[.int .i64 act, .int .u64 sig, .int .i64 n, .int .i64 c]] w fun e w' =>
      e = .returned (.int .i64 (goS S act n c sig).2) ∧ GrTo w p Foot (q + 1) (goS S act n c sig).1 w' := by
  have hk := (Keep.refl (fun _ => False) w).alloc (.cells #[.int .i64 act, .int .u64 (sig : Int), .int .i64 n, .int .i64 c] 42)
  have h' := h.keep hk (fun _ _ h => h)
  have HK := Lib.hid hk
  by_cases e1 : act = 1
  · subst e1
    have C := Lib.hid (gis_with h' n c hq hlen hc)
    have G : goS S 1 n c sig = (if 0 ≤ n ∧ n < S.length then nodeS S (stepSig (S.getD n.toNat 0) c true) else S, if 0 ≤ n ∧ n < S.length then ((nodeI S (stepSig (S.getD n.toNat 0) c true) : Nat) : Int) else -1) := by
      unfold goS
      rw [if_pos (.inl rfl)]
      split <;> rfl
    rw [G]
    clear G h h' hk hlen hc hsig hq
    generalize (if 0 ≤ n ∧ n < S.length then nodeS S (stepSig (S.getD n.toNat 0) c true) else S) = S' at *
    generalize (if 0 ≤ n ∧ n < S.length then ((nodeI S (stepSig (S.getD n.toNat 0) c true) : Nat) : Int) else -1) = r at *
    go_enter Try.func24, Try.ntmps24
    go_wp2_with (go_at_call 37; refine C.out.mono ?_; rintro e w3 ⟨rfl, hs3⟩; have HS3 := Lib.hid hs3; clear hs3)
    go_ret
    exact ⟨rfl, HS3.out.same HK.out⟩
  · by_cases e2 : act = 2
    · subst e2
      have C := Lib.hid (gis_without h' n c hq hlen hc)
      have G : goS S 2 n c sig = (if 0 ≤ n ∧ n < S.length then nodeS S (stepSig (S.getD n.toNat 0) c false) else S, if 0 ≤ n ∧ n < S.length then ((nodeI S (stepSig (S.getD n.toNat 0) c false) : Nat) : Int) else -1) := by
        unfold goS
        rw [if_pos (.inr rfl)]
        split <;> rfl
      rw [G]
      clear G h h' hk hlen hc hsig hq
      generalize (if 0 ≤ n ∧ n < S.length then nodeS S (stepSig (S.getD n.toNat 0) c false) else S) = S' at *
      generalize (if 0 ≤ n ∧ n < S.length then ((nodeI S (stepSig (S.getD n.toNat 0) c false) : Nat) : Int) else -1) = r at *
      go_enter Try.func24, Try.ntmps24
      go_wp2_with (go_at_call 38; refine C.out.mono ?_; rintro e w3 ⟨rfl, hs3⟩; have HS3 := Lib.hid hs3; clear hs3)
      go_ret
      exact ⟨rfl, HS3.out.same HK.out⟩
    · have C := Lib.hid (gis_node h' sig hsig hlen)
      have G : goS S act n c sig = (nodeS S sig, ((nodeI S sig : Nat) : Int)) := by
        unfold goS
        rw [if_neg (fun h => h.elim e1 e2)]
      rw [G]
      have b1 : (act == 1) = false := by simpa using e1
      have b2 : (act == 2) = false := by simpa using e2
      clear G h h' hk hlen hc hsig hq
      go_enter Try.func24, Try.ntmps24
      go_wp2_with (go_at_call 30; refine C.out.mono ?_; rintro e w3 ⟨rfl, hs3⟩; have HS3 := Lib.hid hs3; clear hs3)
      go_ret
      obtain ⟨Foot', ⟨q', bl, L, h1, h2⟩, h3, h4⟩ := HS3.out.same HK.out
      exact ⟨rfl, Foot', ⟨q', bl, L, by omega, h2⟩, h3, h4⟩

theorem gr_new' (w : World) :
    Calls Try.prog 23 #[] w fun e w' => ∃ p Foot, e = .returned (.pointer (some ⟨p, 0, none⟩)) ∧ GrIs w' p Foot 0 [0] ∧ Below w.heap.size w w' ∧ ∀ k, Foot k → w.heap.size ≤ k :=
  (gr_new w).mono fun _ _ ⟨p, Foot, bl, L, h1, h2, h3, h4⟩ => ⟨p, Foot, h1, ⟨0, bl, L, Nat.le_refl _, h2⟩, h3, h4⟩

theorem GrTo.below {w w' : World} {p q : Nat} {Foot : Nat → Prop} {S : List Nat} (h : GrTo w p Foot q S w') {B : Nat} (hB : B ≤ w.heap.size) (hf : ∀ k, Foot k → B ≤ k) : Below B w w' := by
  obtain ⟨F', h1, h2, h3⟩ := h
  exact h2.below hB (fun k hk hF => by have := hf k hF; omega)

theorem grLive (w : World) : Calls Try.prog 22 #[] w fun e w' => e = .returned (.bool true) ∧ Below w.heap.size w w' := by
  have e1 : (if (0 : Int) ≤ 0 ∧ (0 : Int) < ([0] : List Nat).length then nodeS [0] (stepSig (([0] : List Nat).getD (0 : Int).toNat 0) 3 true) else [0]) = [0, 8] := by decide +kernel
  have e2 : (if (0 : Int) ≤ 0 ∧ (0 : Int) < ([0] : List Nat).length then ((nodeI [0] (stepSig (([0] : List Nat).getD (0 : Int).toNat 0) 3 true) : Nat) : Int) else -1) = 1 := by decide +kernel
  have e3 : (if (0 : Int) ≤ 0 ∧ (0 : Int) < ([0, 8] : List Nat).length then nodeS [0, 8] (stepSig (([0, 8] : List Nat).getD (0 : Int).toNat 0) 3 true) else [0, 8]) = [0, 8] := by decide +kernel
  have e4 : (if (0 : Int) ≤ 0 ∧ (0 : Int) < ([0, 8] : List Nat).length then ((nodeI [0, 8] (stepSig (([0, 8] : List Nat).getD (0 : Int).toNat 0) 3 true) : Nat) : Int) else -1) = 1 := by decide +kernel
  have e5 : (if (0 : Int) ≤ 1 ∧ (1 : Int) < ([0, 8] : List Nat).length then nodeS [0, 8] (stepSig (([0, 8] : List Nat).getD (1 : Int).toNat 0) 3 false) else [0, 8]) = [0, 8] := by decide +kernel
  have e6 : (if (0 : Int) ≤ 1 ∧ (1 : Int) < ([0, 8] : List Nat).length then ((nodeI [0, 8] (stepSig (([0, 8] : List Nat).getD (1 : Int).toNat 0) 3 false) : Nat) : Int) else -1) = 0 := by decide +kernel
  have W1 := Lib.hid (fun (W : World) (p q : Nat) (Foot : Nat → Prop) (h : GrIs W p Foot q [0]) (hq : q < 100) => e1 ▸ e2 ▸ gis_with h 0 3 (by omega) (by decide) (by decide))
  have W2 := Lib.hid (fun (W : World) (p q : Nat) (Foot : Nat → Prop) (h : GrIs W p Foot q [0, 8]) (hq : q < 100) => e3 ▸ e4 ▸ gis_with h 0 3 (by omega) (by decide) (by decide))
  have W3 := Lib.hid (fun (W : World) (p q : Nat) (Foot : Nat → Prop) (h : GrIs W p Foot q [0, 8]) (hq : q < 100) => e5 ▸ e6 ▸ gis_without h 1 3 (by omega) (by decide) (by decide))
  clear e1 e2 e3 e4 e5 e6
  go_enter Try.func22, Try.ntmps22
  go_wp2_with fail
  refine (gr_new' _).mono ?_
  rintro e w1 ⟨p, F1, rfl, h1, b1, f1⟩
  have H1 := Lib.hid (And.intro h1 (And.intro b1 f1))
  clear h1 b1 f1
  go_wp2_with fail
  refine (W1.out _ _ _ _ H1.out.1 (by omega)).mono ?_
  rintro e w2 ⟨rfl, F2, h2⟩
  have H2 := Lib.hid h2
  clear h2
  go_wp2_with fail
  refine (W2.out _ _ _ _ H2.out.1 (by omega)).mono ?_
  rintro e w3 ⟨rfl, F3, h3⟩
  have H3 := Lib.hid h3
  clear h3
  go_wp2_with fail
  refine (W3.out _ _ _ _ H3.out.1 (by omega)).mono ?_
  rintro e w4 ⟨rfl, F4, h4⟩
  have H4 := Lib.hid h4
  clear h4
  go_wp2_with fail
  refine (gis_len H4.out.1).mono ?_
  rintro e w5 ⟨rfl, rfl⟩
  go_wp2
  go_ret
  refine ⟨rfl, ?_⟩
  have s1 := H1.out.2.1.size
  have s2 := H2.out.2.1.size
  have s3 := H3.out.2.1.size
  have g2 : ∀ k, F2 k → w.heap.size ≤ k := fun k h => (H2.out.2.2 k h).elim (H1.out.2.2 k) (fun h => by omega)
  have g3 : ∀ k, F3 k → w.heap.size ≤ k := fun k h => (H3.out.2.2 k h).elim (g2 k) (fun h => by omega)
  exact ((H1.out.2.1.trans (H2.out.2.1.below s1 (fun k hk hF => by have := H1.out.2.2 k hF; omega))).trans (H3.out.2.1.below (by omega) (fun k hk hF => by have := g2 k hF; omega))).trans (H4.out.2.1.below (by omega) (fun k hk hF => by have := g3 k hF; omega))
end Go.Proofs.Ytmlbkenbgajkmaa

/- The walk of vivariumlaw08.ColumnOwn: it returns true, old memory unchanged. -/
import Derived.Test.YtmlbkenbgajkmaaColB
import Derived.Test.YtmlbkenbgajkmaaLe4
namespace Go.Proofs.Ytmlbkenbgajkmaa
open Go.RowKit
set_option maxRecDepth 100000
set_option linter.unusedVariables false

/-- A byte of a slice of the call's own is another. -/
def Poked (w w' : World) (v : Value) : Prop := Keep (fun b => ownB v = some b) w w'
theorem own_poke {w : World} {base n j : Nat} {e : TypeId} {v : Value} {l : List UInt8} (h : Own w base e 1 v n (bv l)) (hj : j < n) :
    ∃ g c x, v = .slice (some ⟨g, 0, none⟩) n c ∧ n ≤ c ∧ c ≤ maxLen ∧ base ≤ g ∧ g < w.heap.size ∧ w.cell? ⟨g, j, none⟩ = some (.int .u8 x) ∧ w.frozen? ⟨g, j, none⟩ = false ∧ 0 ≤ x ∧ x ≤ 255 := by
  obtain ⟨g, c, rfl, h1, h2, h3, h4, h5, h6⟩ := h.at_ (by omega)
  have hl := h.1
  rw [bv_len, Nat.mul_one] at hl
  have := (bv_at (l := l) (k := j) (by omega)).1
  have hx := (l.getD j 0).toNat_lt
  exact ⟨g, c, _, rfl, h1, h2, h3, h4, h5 j _ this, h6 j, by omega, by omega⟩
theorem keep_poke (w : World) (g j : Nat) (u : Value) : Keep (fun b => b = g) w (w.setCell ⟨g, j, none⟩ u) :=
  Keep.setCell (S := fun b => b = g) (p := ⟨g, j, none⟩) (Keep.refl _ _) (.inr rfl) _

/-- The column holds the one row C; so does the slice u2, in a block of its own. -/
def OSt (W : World) (p n : Nat) (C : List UInt8) (u2 : Value) (w : World) : Prop :=
  ∃ F, Col w p F n [C] ∧ (∀ k, F k → W.heap.size ≤ k) ∧ Own w W.heap.size 5 1 u2 n (bv C) ∧ (∀ k, ownB u2 = some k → ¬ F k) ∧ Below W.heap.size W w
theorem OSt.poke {W w : World} {p n g j : Nat} {C : List UInt8} {u2 : Value} (h : OSt W p n C u2 w) (hg : w.heap.size ≤ g) {w' : World} (hk : Keep (fun _ => False) w w') (u : Value) : OSt W p n C u2 (w'.setCell ⟨g, j, none⟩ u) := by
  obtain ⟨F, h1, h2, h3, h4, h5⟩ := h
  have k2 : Keep (fun b => b = g) w (w'.setCell ⟨g, j, none⟩ u) := Keep.trans (T := fun b => b = g) (hk.mono (fun _ _ h => h.elim)) (keep_poke w' g j u) (fun _ _ h => h)
  exact ⟨F, col_keep h1 k2 (fun k hk e => by have := h1.lt k hk; omega), h2, h3.keep k2 (fun k hk e => by have := (h3.ownB k hk).2; omega), h4, h5.trans (k2.below h5.size (fun x hx e => by have := h5.size; omega))⟩
theorem OSt.below {W w w' : World} {p n : Nat} {C : List UInt8} {u2 : Value} (h : OSt W p n C u2 w) (hb : Below w.heap.size w w') : OSt W p n C u2 w' := by
  obtain ⟨F, h1, h2, h3, h4, h5⟩ := h
  exact ⟨F, col_keep h1 (Keep.of_below' hb) (fun _ _ h => h), h2, h3.keep (Keep.of_below' hb) (fun _ _ h => h), h4, h5.trans (hb.mono h5.size)⟩
/-- What is handed out: it is C; it may be written, and nothing of the column turns. -/
def OutSt (W : World) (p n j : Nat) (C : List UInt8) (u2 v : Value) (w : World) : Prop :=
  Calls Try.prog 16 #[v, u2] w (fun e w' => e = .returned (.bool true) ∧ w = w') ∧
  Hid (∃ g c x, v = .slice (some ⟨g, 0, none⟩) n c ∧ n ≤ c ∧ c ≤ maxLen ∧ w.cell? ⟨g, j, none⟩ = some (.int .u8 x) ∧ w.frozen? ⟨g, j, none⟩ = false ∧ 0 ≤ x ∧ x ≤ 255 ∧ ∀ u, OSt W p n C u2 (w.setCell ⟨g, j, none⟩ u)) ∧ Hid (OSt W p n C u2 w)
theorem out_of {W w w' : World} {p n j : Nat} {C : List UInt8} {u2 v : Value} (h : OSt W p n C u2 w) (hj : j < n) (hb : Below w.heap.size w w') (ho : Own w' w.heap.size 5 1 v C.length (bv C)) (hC : C.length = n) : OutSt W p n j C u2 v w' := by
  have h' := h.below hb
  subst hC
  obtain ⟨g, c, x, rfl, q1, q2, q3, q4, r0, r1, r2, r3⟩ := own_poke ho hj
  refine ⟨?_, ⟨g, c, x, rfl, q1, q2, r0, r1, r2, r3, fun u => h.poke q3 (Keep.of_below' hb) u⟩, h'⟩
  obtain ⟨F, h1, h2, h3, h4, h5⟩ := h'
  have := same_any _ _ _ _ _ _ w' (sl_by ho.sl) (sl_by h3.sl)
  rwa [decide_eq_true rfl] at this
theorem ost_get {W w : World} {p n j : Nat} {C : List UInt8} {u2 : Value} (h : OSt W p n C u2 w) (hj : j < n) (hC : C.length = n) :
    Calls Try.prog 34 #[.pointer (some ⟨p, 0, none⟩), .int .i64 0] w fun e w' => ∃ v, e = .returned (.tuple #[v, .int .i64 0]) ∧ OutSt W p n j C u2 v w' := by
  obtain ⟨F, h1, _⟩ := id h
  refine (col_get h1 0 (by simp)).mono ?_
  rintro e w' ⟨v, rfl, ho, hb⟩
  exact ⟨v, rfl, out_of h hj hb ho hC⟩
theorem ost_bytes {W w : World} {p n j : Nat} {C : List UInt8} {u2 : Value} (h : OSt W p n C u2 w) (hj : j < n) (hC : C.length = n) :
    Calls Try.prog 35 #[.pointer (some ⟨p, 0, none⟩)] w fun e w' => ∃ v, e = .returned v ∧ OutSt W p n j C u2 v w' := by
  obtain ⟨F, h1, _⟩ := id h
  refine (col_bytes h1).mono ?_
  rintro e w' ⟨v, rfl, ho, hb⟩
  rw [show [C].flatten = C by simp] at ho
  exact ⟨v, rfl, out_of h hj hb ho hC⟩

theorem columnOwn_walk (s i : Int) (l : List UInt8) (v : Value) (W : World) (hv : By W (fun _ => True) v l) (hs : 0 ≤ s ∧ s ≤ 255) (hi : 0 ≤ i ∧ i ≤ 255) :
    Calls Try.prog 7 #[.int .u8 s, v, .int .u8 i] W fun e w' => e = .returned (.bool true) ∧ Below W.heap.size W w' := by
  obtain ⟨hs0, hs1⟩ := hs
  obtain ⟨hi0, hi1⟩ := hi
  obtain ⟨n, hn⟩ : ∃ n : Nat, s % 64 + 1 = n := ⟨(s % 64 + 1).toNat, by omega⟩
  have hn1 : 1 ≤ n := by omega
  have hn2 : n ≤ 64 := by omega
  obtain ⟨j, hj⟩ : ∃ j : Nat, i % (n : Int) = j := ⟨(i % (n : Int)).toNat, by have := Int.emod_nonneg i (show (n : Int) ≠ 0 by omega); omega⟩
  have hjn : j < n := by have := Int.emod_lt_of_pos i (show (0 : Int) < n by omega); omega
  have hcn : cutN n = n := by unfold cutN; rw [if_neg (by omega), if_neg (by omega)]; omega
  have C1 := Lib.hid (refCut_any l v _ n W hv)
  have C2 := Lib.hid (fun w (hw : By w (fun _ => True) v l) => refCut_any l v _ n w hw)
  have HV := Lib.hid hv
  rw [hcn] at C1 C2
  have HL := Lib.hid (cutB_len l n)
  generalize hC : cutB l n = C at *
  have hcl : clampN n = n := by unfold clampN; rw [if_neg (by omega), if_neg (by omega)]; omega
  have NW := Lib.hid (fun w => col_new n w)
  rw [hcl] at NW
  obtain ⟨A0, c0, rfl, _, hc0, _, _⟩ := hv
  clear hC hcn hcl
  generalize hll : l.length = len at *
  clear hll
  go_enter Try.func7, Try.ntmps7
  go_wp2_with fail
  refine C1.out.mono ?_
  rintro e w1 ⟨u1, rfl, ho1, hb1⟩
  have O1 := Lib.hid (And.intro ho1 hb1)
  clear ho1 hb1
  go_wp2_with fail
  refine (NW.out w1).mono ?_
  rintro e w2 ⟨p, Foot, rfl, hc, hb, hf⟩
  have O2 := Lib.hid (And.intro hc (And.intro hb hf))
  have LV := Lib.hid (show ∀ w', Below W.heap.size W w' → ∃ e w'', True from fun _ _ => ⟨Ending.outgrown, W, trivial⟩)
  clear hc hb hf LV
  have B2 := Lib.hid (show Below W.heap.size W w2 from O1.out.2.trans (O2.out.2.1.mono O1.out.2.size))
  by_cases hlen : 200 < len
  · go_wp2_with (go_at_call 32; refine (live08 _).mono ?_; rintro e w4 ⟨rfl, hb4⟩)
    go_ret
    exact ⟨rfl, B2.out.trans (hb4.mono B2.out.size)⟩
  have C3 := Lib.hid (C2.out w2 (HV.out.below B2.out))
  clear C1 C2
  go_wp2_with fail
  refine C3.out.mono ?_
  rintro e w3 ⟨u2, rfl, ho2, hb3⟩
  -- the row is laid
  obtain ⟨ho1, hb1⟩ := O1.out
  obtain ⟨hc, hb2, hf⟩ := O2.out
  have hlC := HL.out
  have ho1' := ((ho1.keep (Keep.of_below' hb2) (fun _ _ h => h)).keep (Keep.of_below' hb3) (fun _ _ h => h))
  have hA := col_add (col_keep hc (Keep.of_below' hb3) (fun _ _ h => h)) C u1 _ (sl_by ho1'.sl)
  rw [show addCode n [] C = 0 by unfold addCode; rw [if_neg (by omega), if_neg (by simp)], if_pos rfl, List.nil_append] at hA
  have AD := Lib.hid hA
  have g1lt : ∀ k, ownB u1 = some k → k < w1.heap.size := fun k hk => (ho1.ownB k hk).2
  have G1 := Lib.hid g1lt
  have FT := Lib.hid hf
  have FL := Lib.hid hc.lt
  have OW := Lib.hid (And.intro ho1' (And.intro ho2 (And.intro hb2 hb3)))
  have SZ := Lib.hid (And.intro hb1.size (And.intro hb2.size hb3.size))
  clear ho1 hb1 hc hb2 hf ho1' hA ho2 hb3 g1lt hlC
  obtain ⟨A1, c1, rfl, _⟩ := OW.out.1.form
  obtain ⟨A2, c2, rfl, _⟩ := OW.out.2.1.form
  go_wp2_with fail
  refine AD.out.mono ?_
  rintro e w4 ⟨rfl, F4, hc4, hk4, hf4⟩
  obtain ⟨ho1, ho2, hb2, hb3⟩ := OW.out
  obtain ⟨z1, z2, z3⟩ := SZ.out
  have hk1 : ∀ k, ownB (.slice A1 n c1) = some k → ¬ Foot k := fun k hk hF => by have := G1.out k hk; have := FT.out k hF; omega
  have ho1 := ho1.keep hk4 hk1
  have hk2 : ∀ k, ownB (.slice A2 n c2) = some k → ¬ Foot k := fun k hk hF => by have := (ho2.ownB k hk).1; have := FL.out k hF; omega
  have ho2 := ho2.keep hk4 hk2
  obtain ⟨g1, c1', x1, ev, q1, q2, q3, q4, r0, r1, r2, r3⟩ := own_poke ho1 hjn
  injection ev with ev1 _ ev3
  subst ev1 ev3
  have ow1 : ownB (.slice (some ⟨g1, 0, none⟩) n c1) = some g1 := by obtain ⟨c', rfl⟩ : ∃ c', c1 = c' + 1 := ⟨c1 - 1, by omega⟩; rfl
  have g1l := G1.out g1 ow1
  have gF4 : ∀ k, F4 k → k ≠ g1 := fun k hk e => by
    rcases hf4 k hk with h | h
    · have := FT.out k h; omega
    · omega
  have hlC := HL.out
  have ST : Hid (∀ u, OSt W p n C (.slice A2 n c2) (w4.setCell ⟨g1, j, none⟩ u)) := fun u => by
    have B4 : Below W.heap.size W w4 := (B2.out.trans (hb3.mono B2.out.size)).trans (hk4.below (by have := B2.out.size; omega) (fun x hx hF => by have := FT.out x hF; omega))
    have g1W := (O1.out.1.ownB g1 ow1).1
    exact ⟨F4, col_keep hc4 (keep_poke w4 g1 j u) gF4, fun k hk => by
        have := B2.out.size
        rcases hf4 k hk with h | h
        · have := FT.out k h; omega
        · omega, (ho2.keep (keep_poke w4 g1 j u) (fun k hk e => by have := (ho2.ownB k hk).1; omega)).mono B2.out.size, fun k hk hF => by
        rcases hf4 k hF with h | h
        · exact hk2 k hk h
        · have := (OW.out.2.1.ownB k hk).2; omega, B4.setCell (p := ⟨g1, j, none⟩) g1W u⟩
  clear ho1 ho2 hb2 hb3 hk4 hf4 hk1 hk2 hc4 z1 z2 z3 gF4 g1l q1 q2 q3 q4 AD hlC
  go_wp2_with fail
  refine (ost_get (ST.out _) hjn HL.out).mono ?_
  rintro e w6 ⟨u3, rfl, cS3, P3, S3⟩
  have CS3 := Lib.hid cS3
  clear cS3
  go_wp2_with fail
  refine CS3.out.mono ?_
  rintro e w' ⟨rfl, rfl⟩
  obtain ⟨g3, c3, x3, rfl, qa3, qb3, r30, r31, r32, r33, ST3⟩ := P3.out
  have ST3 := Lib.hid ST3
  clear r0 r1
  go_wp2_with fail
  refine (ost_bytes (ST3.out _) hjn HL.out).mono ?_
  rintro e w7 ⟨u4, rfl, cS4, P4, S4⟩
  have CS4 := Lib.hid cS4
  clear cS4
  go_wp2_with fail
  refine CS4.out.mono ?_
  rintro e w' ⟨rfl, rfl⟩
  obtain ⟨g4, c4, x4, rfl, qa4, qb4, r40, r41, r42, r43, ST4⟩ := P4.out
  have ST4 := Lib.hid ST4
  clear r30 r31
  go_wp2_with fail
  refine (ost_get (ST4.out _) hjn HL.out).mono ?_
  rintro e w8 ⟨u5, rfl, cS5, P5, S5⟩
  have CS5 := Lib.hid cS5
  clear cS5 r40 r41
  go_wp2_with fail
  refine CS5.out.mono ?_
  rintro e w' ⟨rfl, rfl⟩
  go_wp2_with (first
    | (go_at_call 36; refine (code_any _ _).mono ?_; rintro e w3 ⟨rfl, rfl⟩)
    | (go_at_call 32; refine (live08 _).mono ?_; rintro e w9 ⟨rfl, hb9⟩))
  go_ret
  obtain ⟨_, _, _, _, _, hbel⟩ := S5.out
  exact ⟨rfl, hbel.trans (hb9.mono hbel.size)⟩
end Go.Proofs.Ytmlbkenbgajkmaa

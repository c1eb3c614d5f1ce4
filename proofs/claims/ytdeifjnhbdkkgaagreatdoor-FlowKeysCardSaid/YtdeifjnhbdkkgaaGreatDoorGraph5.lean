/- Contracts of vivariumlaw10.do, live. -/
import Derived.Test.YtdeifjnhbdkkgaaGreatDoorGraph1
import Derived.Test.YtdeifjnhbdkkgaaGreatDoorGraphR
namespace Go.Proofs.YtdeifjnhbdkkgaaGreatDoor
open Go.RowKit
set_option maxRecDepth 100000

/-- A graph over S, at most q steps asked. -/
def GrIs (w : World) (p : Nat) (Foot : Nat → Prop) (q : Nat) (S : List Nat) : Prop := ∃ q' bl L, q' ≤ q ∧ Gr w p Foot q' S bl L
/-- The graph over S' behind a call. -/
def GrTo (w : World) (p : Nat) (Foot : Nat → Prop) (q : Nat) (S : List Nat) (w' : World) : Prop :=
  ∃ Foot', GrIs w' p Foot' q S ∧ Keep Foot w w' ∧ ∀ k, Foot' k → Foot k ∨ w.heap.size ≤ k
theorem GrIs.keep {w w' : World} {p q : Nat} {Foot T : Nat → Prop} {S : List Nat} (h : GrIs w p Foot q S) (hk : Keep T w w') (ht : ∀ k, Foot k → ¬ T k) : GrIs w' p Foot q S := by
  obtain ⟨q', bl, L, h1, h2⟩ := h
  exact ⟨q', bl, L, h1, h2.keep hk ht⟩
theorem GrTo.of_step {w w' : World} {p q q' : Nat} {Foot : Nat → Prop} {S : List Nat} {bl : Nat} {L : Value → Option Value} (h : GrStep w p Foot q' S bl L w') (hq : q' ≤ q) : GrTo w p Foot q S w' := by
  obtain ⟨Foot', h1, h2, h3⟩ := h
  exact ⟨Foot', ⟨q', bl, L, hq, h1⟩, h2, h3⟩
theorem GrTo.same {w w0 w' : World} {p q : Nat} {Foot : Nat → Prop} {S : List Nat} (hk : Keep (fun _ => False) w0 w) (h : GrTo w p Foot q S w') : GrTo w0 p Foot q S w' := by
  obtain ⟨Foot', h1, h2, h3⟩ := h
  exact ⟨Foot', h1, hk.mono (T := Foot) (fun _ _ h => h.elim) |>.trans h2 (fun _ _ h => h), fun k h => (h3 k h).imp id fun h => Nat.le_trans hk.size h⟩

theorem gis_sig {w : World} {p q : Nat} {Foot : Nat → Prop} {S : List Nat} (h : GrIs w p Foot q S) (n : Int) :
    Calls Tryz.prog 75 #[.pointer (some ⟨p, 0, none⟩), .int .i64 n] w fun e w' =>
      e = .returned (.tuple #[.int .u64 (if 0 ≤ n ∧ n < S.length then S.getD n.toNat 0 else 0 : Nat), .bool (decide (0 ≤ n) && decide (n < S.length))]) ∧ w = w' := by
  obtain ⟨q', bl, L, _, h⟩ := h
  exact gr_sig w p Foot q' S bl L h n
theorem gis_len {w : World} {p q : Nat} {Foot : Nat → Prop} {S : List Nat} (h : GrIs w p Foot q S) :
    Calls Tryz.prog 72 #[.pointer (some ⟨p, 0, none⟩)] w fun e w' => e = .returned (.int .i64 (S.length : Nat)) ∧ w = w' := by
  obtain ⟨q', bl, L, _, h⟩ := h
  exact gr_len w p Foot q' S bl L h
theorem gr_new' (w : World) :
    Calls Tryz.prog 33 #[] w fun e w' => ∃ p Foot, e = .returned (.pointer (some ⟨p, 0, none⟩)) ∧ GrIs w' p Foot 0 [0] ∧ Below w.heap.size w w' ∧ ∀ k, Foot k → w.heap.size ≤ k :=
  (gr_new w).mono fun _ _ ⟨p, Foot, bl, L, h1, h2, h3, h4⟩ => ⟨p, Foot, h1, ⟨0, bl, L, Nat.le_refl _, h2⟩, h3, h4⟩

theorem GrTo.below {w w' : World} {p q : Nat} {Foot : Nat → Prop} {S : List Nat} (h : GrTo w p Foot q S w') {B : Nat} (hB : B ≤ w.heap.size) (hf : ∀ k, Foot k → B ≤ k) : Below B w w' := by
  obtain ⟨F', h1, h2, h3⟩ := h
  exact h2.below hB (fun k hk hF => by have := hf k hF; omega)

end Go.Proofs.YtdeifjnhbdkkgaaGreatDoor

/- Plain law: getP = refP. -/
import Derived.Test.YtakchlaoimnnhaaCmdL
namespace Go.Proofs.Ytakchlaoimnnhaa
open Go.RowKit
set_option maxRecDepth 100000
set_option linter.unusedVariables false

theorem getZ1 {l : List UInt8} {k : Nat} (h : k < l.length) : getZ l k 1 = byteZ l k := by
  unfold getZ
  rw [if_pos (getOk_yes (by rw [w1]; omega)), w1, Int.toNat_natCast]
  have hp : pieceOf l k 1 = [l.getD k 0] := by
    unfold pieceOf
    rw [List.drop_eq_getElem_cons h, List.take_succ_cons, List.take_zero, List.getD_eq_getElem?_getD, List.getElem?_eq_getElem h]
    rfl
  rw [hp]
  have := (l.getD k 0).toNat_lt
  unfold byteZ
  generalize l.getD k 0 = u at *
  simp only [getN]
  have h2 : u.toNat < 256 := this
  unfold wrap64
  omega
theorem byteZ_bd (l : List UInt8) (k : Nat) : 0 ≤ byteZ l k ∧ byteZ l k ≤ 255 := by
  unfold byteZ
  have h2 : (l.getD k 0).toNat < 256 := (l.getD k 0).toNat_lt
  omega
theorem cmd_law (l : List UInt8) : (cmdS l rs0).2.e = (refL l).2.2 ∧ ((refL l).2.2 = 0 → (cmdS l rs0).1 = (refL l).1 ∧ ((cmdS l rs0).2.k : Int) = (refL l).2.1) := by
  have b0 := byteZ_bd l 0
  have b1 := byteZ_bd l 1
  unfold refL
  by_cases h0 : l.length = 0
  · rw [if_pos h0]
    have a := numS_no (l := l) (k := 0) (width := 1) (by rw [w1]; omega)
    have b : (doS l rs0).2.e = 12 := by unfold doS; exact (mustS_e' (by rw [show rs0 = ⟨0, false, 0⟩ from rfl, a]; decide)).trans a
    unfold cmdS
    rw [if_pos (.inl (by rw [b]; decide))]
    exact ⟨b, fun h => absurd h (by decide)⟩
  rw [if_neg h0]
  have a := numS_ok (l := l) (k := 0) (e := 0) (width := 1) (by rw [w1]; omega)
  rw [w1, getZ1 (by omega)] at a
  by_cases h3 : 3 < byteZ l 0
  · rw [if_pos h3]
    have b : (doS l rs0).2.e = 11 := by unfold doS; rw [show rs0 = ⟨0, false, 0⟩ from rfl, a]; unfold mustS knownC; rw [if_pos ⟨decide_eq_false (by omega), rfl⟩]
    unfold cmdS
    rw [if_pos (.inl (by rw [b]; decide))]
    exact ⟨b, fun h => absurd h (by decide)⟩
  rw [if_neg h3]
  have b : doS l rs0 = (byteZ l 0, ⟨1, false, 0⟩) := by unfold doS; rw [show rs0 = ⟨0, false, 0⟩ from rfl, a]; unfold mustS knownC; rw [if_neg (by intro h; have := h.1; rw [decide_eq_true (by omega)] at this; cases this)]
  unfold cmdS
  rw [b]
  by_cases hz : byteZ l 0 = 0
  · rw [if_pos hz, if_pos (.inr hz)]
    exact ⟨rfl, fun _ => ⟨by rw [hz]; rfl, rfl⟩⟩
  rw [if_neg hz, if_neg (by intro h; rcases h with h | h; exact h rfl; exact hz h)]
  by_cases h1 : l.length = 1
  · rw [if_pos h1]
    have c := numS_no (l := l) (k := 1) (width := 1) (by rw [w1]; omega)
    have d : (locS l ⟨1, false, 0⟩).2.e = 12 := by unfold locS; exact (mustS_e' (by rw [c]; decide)).trans c
    exact ⟨(restS_eLoc (by rw [d]; decide)).trans d, fun h => absurd h (by decide)⟩
  rw [if_neg h1]
  have c := numS_ok (l := l) (k := 1) (e := 0) (width := 1) (by rw [w1]; omega)
  rw [w1, getZ1 (by omega)] at c
  by_cases h4 : 1 < byteZ l 1
  · rw [if_pos h4]
    have d : (locS l ⟨1, false, 0⟩).2.e = 11 := by unfold locS; rw [c]; unfold mustS; rw [if_pos ⟨decide_eq_false (by omega), rfl⟩]
    exact ⟨(restS_eLoc (by rw [d]; decide)).trans d, fun h => absurd h (by decide)⟩
  rw [if_neg h4]
  have d : locS l ⟨1, false, 0⟩ = (decide (byteZ l 1 = 1), ⟨2, false, 0⟩) := by unfold locS; rw [c]; unfold mustS; rw [if_neg (by intro h; have := h.1; rw [decide_eq_true (by omega)] at this; cases this)]
  exact rest_law l (byteZ l 0) _ (by omega) d
theorem getP_refP (b : List UInt8) (at_ : Int) : getP b at_ = refP b at_ := by
  unfold getP refP
  by_cases hat : at_ < 0 ∨ (b.length : Int) < at_
  · rw [if_pos hat, if_pos hat]
  rw [if_neg hat, if_neg hat]
  obtain ⟨h1, h2⟩ := cmd_law (b.drop at_.toNat)
  rw [h1]
  by_cases he : (refL (b.drop at_.toNat)).2.2 = 0
  · obtain ⟨h3, h4⟩ := h2 he
    rw [if_neg (fun h => h he), if_neg (fun h => h he), h3, h4, List.length_drop]
    have : (b.length : Int) - (((b.length - at_.toNat : Nat) : Int) - (refL (b.drop at_.toNat)).2.1) = at_ + (refL (b.drop at_.toNat)).2.1 := by omega
    rw [this]
  · rw [if_pos he, if_pos he]
end Go.Proofs.Ytakchlaoimnnhaa

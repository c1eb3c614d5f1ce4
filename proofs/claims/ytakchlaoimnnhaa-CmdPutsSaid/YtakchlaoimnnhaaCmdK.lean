/- Contract of vivariumref13.Get. -/
import Derived.Test.YtakchlaoimnnhaaCmdJ
namespace Go.Proofs.Ytakchlaoimnnhaa
open Go.RowKit
set_option maxRecDepth 100000
set_option linter.unusedVariables false

theorem rget_any (b : List UInt8) (v : Value) (F : Nat → Prop) (at_ : Int) (w : World) (hv : By w F v b) (hn : b.length ≤ 1099511627776) (hlo : -9223372036854775808 ≤ at_) (hhi : at_ ≤ 9223372036854775807) :
    Calls Try.prog 26 #[v, .int .i64 at_] w (RGPost F w (refP b at_)) := by
  by_cases hat : at_ < 0 ∨ (b.length : Int) < at_
  · rw [show refP b at_ = (zeroC, 0, 2) by unfold refP; rw [if_pos hat]]
    exact rg_bad b v F at_ w hv hat hlo hhi
  obtain ⟨a, rfl⟩ := Int.eq_ofNat_of_zero_le (show 0 ≤ at_ by omega)
  have ha : a ≤ b.length := by omega
  rw [show refP b a = (if (refL (b.drop a)).2.2 ≠ 0 then (zeroC, 0, (refL (b.drop a)).2.2) else ((refL (b.drop a)).1, (a : Int) + (refL (b.drop a)).2.1, 0)) by unfold refP; rw [if_neg hat]; rfl]
  have hv0 := hv
  obtain ⟨A, c, rfl, hbc, hcm, hnil, hlen, hrd⟩ := hv
  by_cases hz : b.length = a
  · subst hz
    rw [show refL (b.drop b.length) = (zeroC, 0, 12) by unfold refL; rw [if_pos (by simp)]]
    exact rg_none F b.length c A w hn hbc hcm
  have h1 : a < b.length := by omega
  have hc : ¬ c = a := by omega
  obtain ⟨g, o, hA, hF, hcell⟩ := hrd (by omega)
  have cellAt : ∀ i, a + i < b.length → w.cell? ⟨g, o + a + i, none⟩ = some (.int .u8 (byteZ (b.drop a) i)) := fun i hi => by
    have := hcell (a + i) _ (bv_at hi).1
    rw [Nat.add_assoc, this]
    unfold byteZ
    simp [List.getElem?_drop]
  have x0 : w.cell? ⟨g, o + a, none⟩ = some (.int .u8 (byteZ (b.drop a) 0)) := cellAt 0 h1
  have hl : (b.drop a).length = b.length - a := List.length_drop
  have hP : ∀ W, Keep (fun _ => False) w W → By W F (.slice (some ⟨g, o + a, none⟩) (b.length - a) (c - a)) (b.drop a) := fun W hk => by
    have := (hv0.keep hk (fun _ _ _ h => h)).piece (A' := some ⟨g, o + a, none⟩) (lo := a) (m := b.length - a) (c' := c - a) (by omega) (fun _ x hx => by rw [hA] at hx; injection hx with hx; subst hx; simp [Addr.add]) (by omega) (by omega) (fun h => by cases h)
    rwa [List.take_of_length_le (by rw [List.length_drop]; omega)] at this
  generalize b.drop a = l at *
  have b0 : 0 ≤ byteZ l 0 := by unfold byteZ; omega
  have b1 : 0 ≤ byteZ l 1 := by unfold byteZ; omega
  have hne : ¬ l.length = 0 := by omega
  by_cases h3 : 3 < byteZ l 0
  · rw [show refL l = (zeroC, 0, 11) by unfold refL; rw [if_neg hne, if_pos h3]]
    exact rg_big F a b.length c o g A hA w hn ha hbc hcm hc _ h1 x0 h3
  by_cases h0 : byteZ l 0 = 0
  · rw [show refL l = (zeroC, 1, 0) by unfold refL; rw [if_neg hne, if_neg h3, if_pos h0]]
    rw [h0] at x0
    exact rg_zero F a b.length c o g A hA w hn ha hbc hcm hc h1 x0
  by_cases hone : l.length = 1
  · rw [show refL l = (zeroC, 0, 12) by unfold refL; rw [if_neg hne, if_neg h3, if_neg h0, if_pos hone]]
    exact rg_one F a b.length c o g A hA w hn ha hbc hcm hc _ h1 x0 (by omega) (by omega)
  have h2 : a + 1 < b.length := by omega
  have x1 := cellAt 1 h2
  by_cases h4 : 1 < byteZ l 1
  · rw [show refL l = (zeroC, 0, 11) by unfold refL; rw [if_neg hne, if_neg h3, if_neg h0, if_neg hone, if_pos h4]]
    exact rg_big1 F a b.length c o g A hA w hn ha hbc hcm hc _ _ h1 x0 h2 x1 (by omega) h4
  rw [show refL l = refRest l (byteZ l 0) (decide (byteZ l 1 = 1)) by unfold refL; rw [if_neg hne, if_neg h3, if_neg h0, if_neg hone, if_neg h4]]
  refine rest_any _ F a b.length c o g A hA w hn ha hbc hcm hc l hl _ h1 x0 h2 ?_ (by omega) hP
  rw [x1]
  by_cases hh : byteZ l 1 = 1
  · simp [hh]
  · have : byteZ l 1 = 0 := by omega
    simp [this]
end Go.Proofs.Ytakchlaoimnnhaa

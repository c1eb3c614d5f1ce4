/- vivariumref13.Get, all ways joined. -/
import Derived.Test.YtakchlaoimnnhaaCmdI
namespace Go.Proofs.Ytakchlaoimnnhaa
open Go.RowKit
set_option maxRecDepth 100000
set_option linter.unusedVariables false

theorem getZ2_bd (l : List UInt8) (k : Int) : 0 ≤ getZ l k 2 ∧ getZ l k 2 ≤ 65535 := by
  unfold getZ
  split
  · have h1 := getN_lt (pieceOf l k.toNat (wideN 2))
    have h2 : (pieceOf l k.toNat (wideN 2)).length ≤ 2 := List.length_take_le _ _
    have h3 : 256 ^ (pieceOf l k.toNat (wideN 2)).length ≤ 256 ^ 2 := Nat.pow_le_pow_right (by decide) h2
    generalize getN (pieceOf l k.toNat (wideN 2)) = x at *
    rw [show wrap64 (x : Int) = x by unfold wrap64; omega]
    omega
  · omega
theorem getZ_no {l : List UInt8} {k y : Int} (h : getOk l k y = false) : getZ l k y = 0 := by
  unfold getZ
  rw [if_neg (by rw [h]; simp)]
theorem rest_any (loc : Bool) (F : Nat → Prop) (a n c o g : Nat) (A : Option Addr) (hA : A = some ⟨g, o, none⟩) (w : World) (hn : n ≤ 1099511627776) (ha : a ≤ n) (hbc : n ≤ c) (hcm : c ≤ maxLen) (hc : ¬ c = a) (l : List UInt8) (hl : l.length = n - a) (d : Int)
    (h1 : a < n) (x0 : w.cell? ⟨g, o + a, none⟩ = some (.int .u8 d)) (h2 : a + 1 < n) (x1 : w.cell? ⟨g, o + a + 1, none⟩ = some (.int .u8 (if loc = true then 1 else 0))) (hd : 1 ≤ d ∧ d ≤ 3)
    (hP : ∀ W, Keep (fun _ => False) w W → By W F (.slice (some ⟨g, o + a, none⟩) (n - a) (c - a)) l) :
    Calls Try.prog 26 #[.slice A n c, .int .i64 (a : Nat)] w (RGPost F w (if (refRest l d loc).2.2 ≠ 0 then (zeroC, 0, (refRest l d loc).2.2) else ((refRest l d loc).1, (a : Int) + (refRest l d loc).2.1, 0))) := by
  have G : ∀ z y : Int, -9223372036854775808 ≤ z → z ≤ 9223372036854775807 → GetC w g (o + a) (n - a) (c - a) z y (getZ l z y) (getOk l z y) := fun z y hz hz2 W hk => refGet_any l _ F z y W (hP W hk) hz hz2
  have hl2 : (l.length : Int) = (n : Int) - a := by omega
  have hd3 : d = 1 ∨ d = 2 ∨ d = 3 := by omega
  rcases loc with _ | _
  · rcases hd3 with rfl | rfl | rfl
    all_goals have e0 : e0R false = 18 := rfl
    · by_cases hE : (l.length : Int) < (e0R false : Nat)
      · rw [show refRest l 1 false = (zeroC, 0, 12) by unfold refRest; rw [if_neg (by decide), if_pos rfl, if_pos hE]]
        exact rg_g1_out F a n c o g A hA w hn ha hbc hcm hc (getZ l 2 8) (getZ l 10 8) (0) 0 (getOk l 2 8) (getOk l 10 8) (false) h1 x0 h2 x1 (G 2 8 (by decide) (by decide)) (G 10 8 (by decide) (by decide)) (by omega)
      · rw [show refRest l 1 false = ((⟨1, false, getZ l 2 8, getZ l 10 8, 0, []⟩ : Cmd), ((18 : Nat) : Int), (0 : Int)) by unfold refRest; rw [if_neg (by decide), if_pos rfl, if_neg hE]; rfl]
        exact rg_g1_in F a n c o g A hA w hn ha hbc hcm hc (getZ l 2 8) (getZ l 10 8) (0) 0 (getOk l 2 8) (getOk l 10 8) (false) h1 x0 h2 x1 (G 2 8 (by decide) (by decide)) (G 10 8 (by decide) (by decide)) (by omega)
    · have hzb := getZ2_bd l 26
      by_cases hb : getOk l (e0R false + 8 : Nat) 2 = true ∧ 64 < getZ l (e0R false + 8 : Nat) 2
      · rw [show refRest l 2 false = (zeroC, 0, 13) by unfold refRest; rw [if_pos rfl, if_pos hb]]
        have hok : getOk l 26 2 = true := hb.1
        have g5 := G 26 2 (by decide) (by decide)
        rw [hok] at g5
        exact rg_g2_big F a n c o g A hA w hn ha hbc hcm hc (getZ l 2 8) (getZ l 10 8) (getZ l 18 8) (getZ l 26 2) (getOk l 2 8) (getOk l 10 8) (getOk l 18 8) h1 x0 h2 x1 (G 2 8 (by decide) (by decide)) (G 10 8 (by decide) (by decide)) (G 18 8 (by decide) (by decide)) g5 hb.2
      by_cases hE : (l.length : Int) < (e0R false + 10 : Nat) + getZ l (e0R false + 8 : Nat) 2
      · rw [show refRest l 2 false = (zeroC, 0, 12) by unfold refRest; rw [if_pos rfl, if_neg hb, if_pos hE]]
        have hE' : (l.length : Int) < 28 + getZ l 26 2 := hE
        have g5 := G 26 2 (by decide) (by decide)
        by_cases hok : getOk l 26 2 = true
        · rw [hok] at g5
          have hz : getZ l 26 2 ≤ 64 := by have : ¬ 64 < getZ l 26 2 := fun h => hb ⟨hok, h⟩; omega
          exact rg_g2_shorty F a n c o g A hA w hn ha hbc hcm hc (getZ l 2 8) (getZ l 10 8) (getZ l 18 8) (getZ l 26 2) (getOk l 2 8) (getOk l 10 8) (getOk l 18 8) h1 x0 h2 x1 (G 2 8 (by decide) (by decide)) (G 10 8 (by decide) (by decide)) (G 18 8 (by decide) (by decide)) g5 hzb.1 hz (by omega)
        · have hok' : getOk l 26 2 = false := by simpa using hok
          rw [getZ_no hok', hok'] at g5
          have := getZ_no hok'
          exact rg_g2_shortn F a n c o g A hA w hn ha hbc hcm hc (getZ l 2 8) (getZ l 10 8) (getZ l 18 8) 0 (getOk l 2 8) (getOk l 10 8) (getOk l 18 8) h1 x0 h2 x1 (G 2 8 (by decide) (by decide)) (G 10 8 (by decide) (by decide)) (G 18 8 (by decide) (by decide)) g5 (by omega)
      · have hok : getOk l 26 2 = true := by
          rcases hh : getOk l 26 2 with _ | _
          · exfalso
            have hz0 := getZ_no hh
            have hE' : ¬ (l.length : Int) < 28 + getZ l 26 2 := hE
            have := getOk_yes (l := l) (k := 26) (width := 2) (by have : wideN 2 = 2 := rfl; omega)
            rw [show (((26 : Nat)) : Int) = 26 from rfl, hh] at this
            cases this
          · rfl
        have hE' : ¬ (l.length : Int) < 28 + getZ l 26 2 := hE
        have hz : getZ l 26 2 ≤ 64 := by have : ¬ 64 < getZ l 26 2 := fun h => hb ⟨hok, h⟩; omega
        have g5 := G 26 2 (by decide) (by decide)
        rw [hok] at g5
        rw [show refRest l 2 false = ((⟨2, false, getZ l 2 8, getZ l 10 8, getZ l 18 8, (l.drop 28).take (getZ l 26 2).toNat⟩ : Cmd), ((28 : Nat) : Int) + getZ l 26 2, (0 : Int)) by unfold refRest; rw [if_pos rfl, if_neg hb, if_neg hE]; rfl]
        obtain ⟨zn, hzn⟩ := Int.eq_ofNat_of_zero_le hzb.1
        rw [hzn] at hz hE' g5 ⊢
        rw [Int.toNat_natCast]
        by_cases hcE : c - a = 28
        · obtain rfl : zn = 0 := by omega
          have G' : ∀ z y : Int, -9223372036854775808 ≤ z → z ≤ 9223372036854775807 → GetC w g (o + a) (n - a) 28 z y (getZ l z y) (getOk l z y) := by rw [← hcE]; exact G
          have g5' : GetC w g (o + a) (n - a) 28 26 2 0 true := by rw [← hcE]; exact g5
          have := rg_g2_inz F a n c o g A hA w hn ha hbc hcm hc (getZ l 2 8) (getZ l 10 8) (getZ l 18 8) 0 (getOk l 2 8) (getOk l 10 8) (getOk l 18 8) h1 x0 h2 x1 (G' 2 8 (by decide) (by decide)) (G' 10 8 (by decide) (by decide)) (G' 18 8 (by decide) (by decide)) g5' (by omega) hcE
          simpa using this
        · have := rg_g2_in F a n c o g A hA w hn ha hbc hcm hc zn ((l.drop 28).take zn) (getZ l 2 8) (getZ l 10 8) (getZ l 18 8) (getOk l 2 8) (getOk l 10 8) (getOk l 18 8) h1 x0 h2 x1 (G 2 8 (by decide) (by decide)) (G 10 8 (by decide) (by decide)) (G 18 8 (by decide) (by decide)) g5 hz (by omega) hcE (fun W hk => (hP W hk).piece (A' := some ⟨g, o + a + 28, none⟩) (lo := 28) (m := zn) (by omega) (fun _ x hx => by injection hx with hx; subst hx; rfl) (by omega) (by omega) (fun h => by cases h))
          simpa [Int.add_assoc] using this
    · by_cases hE : (l.length : Int) < (e0R false + 8 : Nat)
      · rw [show refRest l 3 false = (zeroC, 0, 12) by unfold refRest; rw [if_neg (by decide), if_neg (by decide), if_pos hE]]
        exact rg_g3_out F a n c o g A hA w hn ha hbc hcm hc (getZ l 2 8) (getZ l 10 8) (getZ l 18 8) 0 (getOk l 2 8) (getOk l 10 8) (getOk l 18 8) h1 x0 h2 x1 (G 2 8 (by decide) (by decide)) (G 10 8 (by decide) (by decide)) (G 18 8 (by decide) (by decide)) (by omega)
      · rw [show refRest l 3 false = ((⟨3, false, getZ l 2 8, getZ l 10 8, getZ l 18 8, []⟩ : Cmd), ((26 : Nat) : Int), (0 : Int)) by unfold refRest; rw [if_neg (by decide), if_neg (by decide), if_neg hE]; rfl]
        exact rg_g3_in F a n c o g A hA w hn ha hbc hcm hc (getZ l 2 8) (getZ l 10 8) (getZ l 18 8) 0 (getOk l 2 8) (getOk l 10 8) (getOk l 18 8) h1 x0 h2 x1 (G 2 8 (by decide) (by decide)) (G 10 8 (by decide) (by decide)) (G 18 8 (by decide) (by decide)) (by omega)
  · rcases hd3 with rfl | rfl | rfl
    all_goals have e0 : e0R true = 10 := rfl
    · by_cases hE : (l.length : Int) < (e0R true : Nat)
      · rw [show refRest l 1 true = (zeroC, 0, 12) by unfold refRest; rw [if_neg (by decide), if_pos rfl, if_pos hE]]
        exact rg_l1_out F a n c o g A hA w hn ha hbc hcm hc (getZ l 2 8) (0) (0) 0 (getOk l 2 8) (false) (false) h1 x0 h2 x1 (G 2 8 (by decide) (by decide)) (by omega)
      · rw [show refRest l 1 true = ((⟨1, true, getZ l 2 8, 0, 0, []⟩ : Cmd), ((10 : Nat) : Int), (0 : Int)) by unfold refRest; rw [if_neg (by decide), if_pos rfl, if_neg hE]; rfl]
        exact rg_l1_in F a n c o g A hA w hn ha hbc hcm hc (getZ l 2 8) (0) (0) 0 (getOk l 2 8) (false) (false) h1 x0 h2 x1 (G 2 8 (by decide) (by decide)) (by omega)
    · have hzb := getZ2_bd l 18
      by_cases hb : getOk l (e0R true + 8 : Nat) 2 = true ∧ 64 < getZ l (e0R true + 8 : Nat) 2
      · rw [show refRest l 2 true = (zeroC, 0, 13) by unfold refRest; rw [if_pos rfl, if_pos hb]]
        have hok : getOk l 18 2 = true := hb.1
        have g5 := G 18 2 (by decide) (by decide)
        rw [hok] at g5
        exact rg_l2_big F a n c o g A hA w hn ha hbc hcm hc (getZ l 2 8) (0) (getZ l 10 8) (getZ l 18 2) (getOk l 2 8) (false) (getOk l 10 8) h1 x0 h2 x1 (G 2 8 (by decide) (by decide)) (G 10 8 (by decide) (by decide)) g5 hb.2
      by_cases hE : (l.length : Int) < (e0R true + 10 : Nat) + getZ l (e0R true + 8 : Nat) 2
      · rw [show refRest l 2 true = (zeroC, 0, 12) by unfold refRest; rw [if_pos rfl, if_neg hb, if_pos hE]]
        have hE' : (l.length : Int) < 20 + getZ l 18 2 := hE
        have g5 := G 18 2 (by decide) (by decide)
        by_cases hok : getOk l 18 2 = true
        · rw [hok] at g5
          have hz : getZ l 18 2 ≤ 64 := by have : ¬ 64 < getZ l 18 2 := fun h => hb ⟨hok, h⟩; omega
          exact rg_l2_shorty F a n c o g A hA w hn ha hbc hcm hc (getZ l 2 8) (0) (getZ l 10 8) (getZ l 18 2) (getOk l 2 8) (false) (getOk l 10 8) h1 x0 h2 x1 (G 2 8 (by decide) (by decide)) (G 10 8 (by decide) (by decide)) g5 hzb.1 hz (by omega)
        · have hok' : getOk l 18 2 = false := by simpa using hok
          rw [getZ_no hok', hok'] at g5
          have := getZ_no hok'
          exact rg_l2_shortn F a n c o g A hA w hn ha hbc hcm hc (getZ l 2 8) (0) (getZ l 10 8) 0 (getOk l 2 8) (false) (getOk l 10 8) h1 x0 h2 x1 (G 2 8 (by decide) (by decide)) (G 10 8 (by decide) (by decide)) g5 (by omega)
      · have hok : getOk l 18 2 = true := by
          rcases hh : getOk l 18 2 with _ | _
          · exfalso
            have hz0 := getZ_no hh
            have hE' : ¬ (l.length : Int) < 20 + getZ l 18 2 := hE
            have := getOk_yes (l := l) (k := 18) (width := 2) (by have : wideN 2 = 2 := rfl; omega)
            rw [show (((18 : Nat)) : Int) = 18 from rfl, hh] at this
            cases this
          · rfl
        have hE' : ¬ (l.length : Int) < 20 + getZ l 18 2 := hE
        have hz : getZ l 18 2 ≤ 64 := by have : ¬ 64 < getZ l 18 2 := fun h => hb ⟨hok, h⟩; omega
        have g5 := G 18 2 (by decide) (by decide)
        rw [hok] at g5
        rw [show refRest l 2 true = ((⟨2, true, getZ l 2 8, 0, getZ l 10 8, (l.drop 20).take (getZ l 18 2).toNat⟩ : Cmd), ((20 : Nat) : Int) + getZ l 18 2, (0 : Int)) by unfold refRest; rw [if_pos rfl, if_neg hb, if_neg hE]; rfl]
        obtain ⟨zn, hzn⟩ := Int.eq_ofNat_of_zero_le hzb.1
        rw [hzn] at hz hE' g5 ⊢
        rw [Int.toNat_natCast]
        by_cases hcE : c - a = 20
        · obtain rfl : zn = 0 := by omega
          have G' : ∀ z y : Int, -9223372036854775808 ≤ z → z ≤ 9223372036854775807 → GetC w g (o + a) (n - a) 20 z y (getZ l z y) (getOk l z y) := by rw [← hcE]; exact G
          have g5' : GetC w g (o + a) (n - a) 20 18 2 0 true := by rw [← hcE]; exact g5
          have := rg_l2_inz F a n c o g A hA w hn ha hbc hcm hc (getZ l 2 8) (0) (getZ l 10 8) 0 (getOk l 2 8) (false) (getOk l 10 8) h1 x0 h2 x1 (G' 2 8 (by decide) (by decide)) (G' 10 8 (by decide) (by decide)) g5' (by omega) hcE
          simpa using this
        · have := rg_l2_in F a n c o g A hA w hn ha hbc hcm hc zn ((l.drop 20).take zn) (getZ l 2 8) (0) (getZ l 10 8) (getOk l 2 8) (false) (getOk l 10 8) h1 x0 h2 x1 (G 2 8 (by decide) (by decide)) (G 10 8 (by decide) (by decide)) g5 hz (by omega) hcE (fun W hk => (hP W hk).piece (A' := some ⟨g, o + a + 20, none⟩) (lo := 20) (m := zn) (by omega) (fun _ x hx => by injection hx with hx; subst hx; rfl) (by omega) (by omega) (fun h => by cases h))
          simpa [Int.add_assoc] using this
    · by_cases hE : (l.length : Int) < (e0R true + 8 : Nat)
      · rw [show refRest l 3 true = (zeroC, 0, 12) by unfold refRest; rw [if_neg (by decide), if_neg (by decide), if_pos hE]]
        exact rg_l3_out F a n c o g A hA w hn ha hbc hcm hc (getZ l 2 8) (0) (getZ l 10 8) 0 (getOk l 2 8) (false) (getOk l 10 8) h1 x0 h2 x1 (G 2 8 (by decide) (by decide)) (G 10 8 (by decide) (by decide)) (by omega)
      · rw [show refRest l 3 true = ((⟨3, true, getZ l 2 8, 0, getZ l 10 8, []⟩ : Cmd), ((18 : Nat) : Int), (0 : Int)) by unfold refRest; rw [if_neg (by decide), if_neg (by decide), if_neg hE]; rfl]
        exact rg_l3_in F a n c o g A hA w hn ha hbc hcm hc (getZ l 2 8) (0) (getZ l 10 8) 0 (getOk l 2 8) (false) (getOk l 10 8) h1 x0 h2 x1 (G 2 8 (by decide) (by decide)) (G 10 8 (by decide) (by decide)) (by omega)
end Go.Proofs.Ytakchlaoimnnhaa

/- Contract of vivariumref13.Get. -/
import Derived.Test.YtfjgbnnjfapcmaaCmdG
import Derived.OwnWalk
import Derived.Test.YtfjgbnnjfapcmaaCrc1
import Derived.Test.YtfjgbnnjfapcmaaLePl
import Derived.Test.YtfjgbnnjfapcmaaCmd1
namespace Go.Proofs.Ytfjgbnnjfapcmaa
open Go.RowKit
set_option maxRecDepth 100000
set_option linter.unusedVariables false

def byteZ (l : List UInt8) (i : Nat) : Int := ((l.getD i 0).toNat : Nat)
def e0R (loc : Bool) : Nat := if loc = true then 10 else 18
def genR (l : List UInt8) (loc : Bool) : Int := if loc = true then 0 else getZ l 10 8
/-- Past the two first bytes. -/
def refRest (l : List UInt8) (d : Int) (loc : Bool) : Cmd × Int × Int :=
  if d = 2 then
    if getOk l (e0R loc + 8 : Nat) 2 = true ∧ 64 < getZ l (e0R loc + 8 : Nat) 2 then (zeroC, 0, 13)
    else if (l.length : Int) < (e0R loc + 10 : Nat) + getZ l (e0R loc + 8 : Nat) 2 then (zeroC, 0, 12)
    else (⟨2, loc, getZ l 2 8, genR l loc, getZ l (e0R loc) 8, (l.drop (e0R loc + 10)).take (getZ l (e0R loc + 8 : Nat) 2).toNat⟩, (e0R loc + 10 : Nat) + getZ l (e0R loc + 8 : Nat) 2, 0)
  else if d = 1 then
    if (l.length : Int) < e0R loc then (zeroC, 0, 12) else (⟨1, loc, getZ l 2 8, genR l loc, 0, []⟩, e0R loc, 0)
  else
    if (l.length : Int) < (e0R loc + 8 : Nat) then (zeroC, 0, 12) else (⟨3, loc, getZ l 2 8, genR l loc, getZ l (e0R loc) 8, []⟩, (e0R loc + 8 : Nat), 0)
def refL (l : List UInt8) : Cmd × Int × Int :=
  if l.length = 0 then (zeroC, 0, 12)
  else if 3 < byteZ l 0 then (zeroC, 0, 11)
  else if byteZ l 0 = 0 then (zeroC, 1, 0)
  else if l.length = 1 then (zeroC, 0, 12)
  else if 1 < byteZ l 1 then (zeroC, 0, 11)
  else refRest l (byteZ l 0) (decide (byteZ l 1 = 1))
def refP (b : List UInt8) (at_ : Int) : Cmd × Int × Int :=
  if at_ < 0 ∨ (b.length : Int) < at_ then (zeroC, 0, 2)
  else if (refL (b.drop at_.toNat)).2.2 ≠ 0 then (zeroC, 0, (refL (b.drop at_.toNat)).2.2)
  else ((refL (b.drop at_.toNat)).1, at_ + (refL (b.drop at_.toNat)).2.1, 0)
set_option maxHeartbeats 4000000 in
theorem rg_bad (b : List UInt8) (v : Value) (F : Nat → Prop) (at_ : Int) (w : World) (hv : By w F v b) (hat : at_ < 0 ∨ (b.length : Int) < at_) (hlo : -9223372036854775808 ≤ at_) (hhi : at_ ≤ 9223372036854775807) :
    Calls Try.prog 62 #[v, .int .i64 at_] w (RGPost F w (zeroC, 0, 2)) := by
  obtain ⟨A, c, rfl, -⟩ := hv
  generalize b.length = n at *
  by_cases h0 : at_ < 0
  · clear hat
    go_enter Try.func62, Try.ntmps62
    go_wp2
    exact bodyPost_ret (results_cmd3 rfl _ _ w.heap.size _ _ _ _ _ _ rfl (heap_alloc_new w _) _ _ rfl rfl) rfl ⟨none, 0, 0, rfl, By.nil _ _, by exact (by repeat first | exact Below.refl _ _ | refine Below.setCell ?_ (by first | omega | (simp; done) | (simp; omega)) _ | refine Below.alloc ?_ (by first | omega | (simp; done) | (simp; omega)) _ | refine Below.drew ?_ | refine below_drewN ?_ _ | assumption)⟩
  · have h1 : (n : Int) < at_ := hat.resolve_left h0
    clear hat
    go_enter Try.func62, Try.ntmps62
    go_wp2
    exact bodyPost_ret (results_cmd3 rfl _ _ w.heap.size _ _ _ _ _ _ rfl (heap_alloc_new w _) _ _ rfl rfl) rfl ⟨none, 0, 0, rfl, By.nil _ _, by exact (by repeat first | exact Below.refl _ _ | refine Below.setCell ?_ (by first | omega | (simp; done) | (simp; omega)) _ | refine Below.alloc ?_ (by first | omega | (simp; done) | (simp; omega)) _ | refine Below.drew ?_ | refine below_drewN ?_ _ | assumption)⟩
set_option maxHeartbeats 4000000 in
theorem rg_none (F : Nat → Prop) (n c : Nat) (A : Option Addr) (w : World) (hn : n ≤ 1099511627776) (hbc : n ≤ c) (hcm : c ≤ maxLen) :
    Calls Try.prog 62 #[.slice A n c, .int .i64 (n : Nat)] w (RGPost F w (zeroC, 0, 12)) := by
  have f0 : (0 : Int) ≤ (n : Int) := by omega
  have f2 : (n : Int) ≤ (c : Int) := by omega
  by_cases hc : c = n
  all_goals
    go_enter Try.func62, Try.ntmps62
    go_upto_region 5 with fail
    refine wp_world (S := fun X => X.heap[w.heap.size]? = some (.cells #[.int .i64 0, .bool false, .int .i64 0, .int .i64 0, .int .i64 0, .slice none 0 0] 83 (0, 0)) ∧ X.heap[w.heap.size + 1]? = some (.cells #[.int .i64 0, .bool false, .int .i64 0, .int .i64 0, .int .i64 0, .slice none 0 0] 83 (0, 0)) ∧ Keep (fun _ => False) w X) ⟨(heap_alloc_old (w.alloc _) _ (by simp)).trans (heap_alloc_new w _), (by have := heap_alloc_new (w.alloc (.cells #[.int .i64 0, .bool false, .int .i64 0, .int .i64 0, .int .i64 0, .slice none 0 0] 83)) (.cells #[.int .i64 0, .bool false, .int .i64 0, .int .i64 0, .int .i64 0, .slice none 0 0] 83 (0, 0)); simpa using this), ((Keep.refl (fun _ => False) w).alloc _).alloc _⟩ ?_
    rintro X hX
    have HX := Lib.hid hX
    clear hX
    obtain ⟨r0, r1, r2, r3, r4, r5, rf⟩ := cells6 HX.out.1
    obtain ⟨q0, q1, q2, q3, q4, q5, qf⟩ := cells6 HX.out.2.1
    go_wp2_with fail
    have KK := keepS6 X w.heap.size (.int .i64 0) (.bool false) (.int .i64 0) (.int .i64 0) (.int .i64 0) (.slice none 0 0)
    have HS := stored6 (HX.out.1) (.int .i64 0) (.bool false) (.int .i64 0) (.int .i64 0) (.int .i64 0) (.slice none 0 0)
    generalize ((((((X.setCell ⟨w.heap.size, 0, none⟩ (.int .i64 0)).setCell ⟨w.heap.size, 1, none⟩ (.bool false)).setCell ⟨w.heap.size, 2, none⟩ (.int .i64 0)).setCell ⟨w.heap.size, 3, none⟩ (.int .i64 0)).setCell ⟨w.heap.size, 4, none⟩ (.int .i64 0)).setCell ⟨w.heap.size, 5, none⟩ (.slice none 0 0)) = W7 at KK HS ⊢
    exact bodyPost_ret (results_cmd3 rfl _ _ w.heap.size _ _ _ _ _ _ rfl (show W7.heap[w.heap.size]? = _ from HS) _ _ rfl rfl) rfl ⟨none, 0, 0, rfl, By.nil _ _, ((HX.out.2.2).transQ KK (Nat.le_refl _)).to_below'⟩
end Go.Proofs.Ytfjgbnnjfapcmaa
namespace Go.Proofs.Ytfjgbnnjfapcmaa
open Go.RowKit
set_option maxRecDepth 100000
set_option linter.unusedVariables false

theorem getZ2_bd (l : List UInt8) (k : Int) : 0 ≤ getZ l k 2 ∧ getZ l k 2 ≤ 65535 := by
  unfold getZ
  split
  · have h1 := getN_lt (pieceOf l k.toNat (wideN 2))
    have h2 : (pieceOf l k.toNat (wideN 2)).length ≤ 2 := List.length_take_le _ _
    have h3 : 256 ^ (pieceOf l k.toNat (wideN 2)).length ≤ 256 ^ 2 := Nat.pow_le_pow_right (by decide) h2
    generalize getN (pieceOf l k.toNat (wideN 2)) = x at *
    rw [show wrap64 (x : Int) = x by unfold wrap64; omega]
    omega
  · omega
theorem getZ_no {l : List UInt8} {k y : Int} (h : getOk l k y = false) : getZ l k y = 0 := by
  unfold getZ
  rw [if_neg (by rw [h]; simp)]
theorem rest_any (loc : Bool) (F : Nat → Prop) (a n c o g : Nat) (A : Option Addr) (hA : A = some ⟨g, o, none⟩) (w : World) (hn : n ≤ 1099511627776) (ha : a ≤ n) (hbc : n ≤ c) (hcm : c ≤ maxLen) (hc : ¬ c = a) (l : List UInt8) (hl : l.length = n - a) (d : Int)
    (h1 : a < n) (x0 : w.cell? ⟨g, o + a, none⟩ = some (.int .u8 d)) (h2 : a + 1 < n) (x1 : w.cell? ⟨g, o + a + 1, none⟩ = some (.int .u8 (if loc = true then 1 else 0))) (hd : 1 ≤ d ∧ d ≤ 3)
    (hP : ∀ W, Keep (fun _ => False) w W → By W F (.slice (some ⟨g, o + a, none⟩) (n - a) (c - a)) l) :
    Calls Try.prog 62 #[.slice A n c, .int .i64 (a : Nat)] w (RGPost F w (if (refRest l d loc).2.2 ≠ 0 then (zeroC, 0, (refRest l d loc).2.2) else ((refRest l d loc).1, (a : Int) + (refRest l d loc).2.1, 0))) := by
  have G : ∀ z y : Int, -9223372036854775808 ≤ z → z ≤ 9223372036854775807 → GetC w g (o + a) (n - a) (c - a) z y (getZ l z y) (getOk l z y) := fun z y hz hz2 W hk => refGet_any l _ F z y W (hP W hk) hz hz2
  have hl2 : (l.length : Int) = (n : Int) - a := by omega
  have hd3 : d = 1 ∨ d = 2 ∨ d = 3 := by omega
  rcases loc with _ | _
  · rcases hd3 with rfl | rfl | rfl
    all_goals have e0 : e0R false = 18 := rfl
    · by_cases hE : (l.length : Int) < (e0R false : Nat)
      · rw [show refRest l 1 false = (zeroC, 0, 12) by unfold refRest; rw [if_neg (by decide), if_pos rfl, if_pos hE]]
        exact rg_g1_out F a n c o g A hA w hn ha hbc hcm hc (getZ l 2 8) (getZ l 10 8) (0) 0 (getOk l 2 8) (getOk l 10 8) (false) h1 x0 h2 x1 (G 2 8 (by decide) (by decide)) (G 10 8 (by decide) (by decide)) (by omega)
      · rw [show refRest l 1 false = ((⟨1, false, getZ l 2 8, getZ l 10 8, 0, []⟩ : Cmd), ((18 : Nat) : Int), (0 : Int)) by unfold refRest; rw [if_neg (by decide), if_pos rfl, if_neg hE]; rfl]
        exact rg_g1_in F a n c o g A hA w hn ha hbc hcm hc (getZ l 2 8) (getZ l 10 8) (0) 0 (getOk l 2 8) (getOk l 10 8) (false) h1 x0 h2 x1 (G 2 8 (by decide) (by decide)) (G 10 8 (by decide) (by decide)) (by omega)
    · have hzb := getZ2_bd l 26
      by_cases hb : getOk l (e0R false + 8 : Nat) 2 = true ∧ 64 < getZ l (e0R false + 8 : Nat) 2
      · rw [show refRest l 2 false = (zeroC, 0, 13) by unfold refRest; rw [if_pos rfl, if_pos hb]]
        have hok : getOk l 26 2 = true := hb.1
        have g5 := G 26 2 (by decide) (by decide)
        rw [hok] at g5
        exact rg_g2_big F a n c o g A hA w hn ha hbc hcm hc (getZ l 2 8) (getZ l 10 8) (getZ l 18 8) (getZ l 26 2) (getOk l 2 8) (getOk l 10 8) (getOk l 18 8) h1 x0 h2 x1 (G 2 8 (by decide) (by decide)) (G 10 8 (by decide) (by decide)) (G 18 8 (by decide) (by decide)) g5 hb.2
      by_cases hE : (l.length : Int) < (e0R false + 10 : Nat) + getZ l (e0R false + 8 : Nat) 2
      · rw [show refRest l 2 false = (zeroC, 0, 12) by unfold refRest; rw [if_pos rfl, if_neg hb, if_pos hE]]
        have hE' : (l.length : Int) < 28 + getZ l 26 2 := hE
        have g5 := G 26 2 (by decide) (by decide)
        by_cases hok : getOk l 26 2 = true
        · rw [hok] at g5
          have hz : getZ l 26 2 ≤ 64 := by have : ¬ 64 < getZ l 26 2 := fun h => hb ⟨hok, h⟩; omega
          exact rg_g2_shorty F a n c o g A hA w hn ha hbc hcm hc (getZ l 2 8) (getZ l 10 8) (getZ l 18 8) (getZ l 26 2) (getOk l 2 8) (getOk l 10 8) (getOk l 18 8) h1 x0 h2 x1 (G 2 8 (by decide) (by decide)) (G 10 8 (by decide) (by decide)) (G 18 8 (by decide) (by decide)) g5 hzb.1 hz (by omega)
        · have hok' : getOk l 26 2 = false := by simpa using hok
          rw [getZ_no hok', hok'] at g5
          have := getZ_no hok'
          exact rg_g2_shortn F a n c o g A hA w hn ha hbc hcm hc (getZ l 2 8) (getZ l 10 8) (getZ l 18 8) 0 (getOk l 2 8) (getOk l 10 8) (getOk l 18 8) h1 x0 h2 x1 (G 2 8 (by decide) (by decide)) (G 10 8 (by decide) (by decide)) (G 18 8 (by decide) (by decide)) g5 (by omega)
      · have hok : getOk l 26 2 = true := by
          rcases hh : getOk l 26 2 with _ | _
          · exfalso
            have hz0 := getZ_no hh
            have hE' : ¬ (l.length : Int) < 28 + getZ l 26 2 := hE
            have := getOk_yes (l := l) (k := 26) (width := 2) (by have : wideN 2 = 2 := rfl; omega)
            rw [show (((26 : Nat)) : Int) = 26 from rfl, hh] at this
            cases this
          · rfl
        have hE' : ¬ (l.length : Int) < 28 + getZ l 26 2 := hE
        have hz : getZ l 26 2 ≤ 64 := by have : ¬ 64 < getZ l 26 2 := fun h => hb ⟨hok, h⟩; omega
        have g5 := G 26 2 (by decide) (by decide)
        rw [hok] at g5
        rw [show refRest l 2 false = ((⟨2, false, getZ l 2 8, getZ l 10 8, getZ l 18 8, (l.drop 28).take (getZ l 26 2).toNat⟩ : Cmd), ((28 : Nat) : Int) + getZ l 26 2, (0 : Int)) by unfold refRest; rw [if_pos rfl, if_neg hb, if_neg hE]; rfl]
        obtain ⟨zn, hzn⟩ := Int.eq_ofNat_of_zero_le hzb.1
        rw [hzn] at hz hE' g5 ⊢
        rw [Int.toNat_natCast]
        by_cases hcE : c - a = 28
        · obtain rfl : zn = 0 := by omega
          have G' : ∀ z y : Int, -9223372036854775808 ≤ z → z ≤ 9223372036854775807 → GetC w g (o + a) (n - a) 28 z y (getZ l z y) (getOk l z y) := by rw [← hcE]; exact G
          have g5' : GetC w g (o + a) (n - a) 28 26 2 0 true := by rw [← hcE]; exact g5
          have := rg_g2_inz F a n c o g A hA w hn ha hbc hcm hc (getZ l 2 8) (getZ l 10 8) (getZ l 18 8) 0 (getOk l 2 8) (getOk l 10 8) (getOk l 18 8) h1 x0 h2 x1 (G' 2 8 (by decide) (by decide)) (G' 10 8 (by decide) (by decide)) (G' 18 8 (by decide) (by decide)) g5' (by omega) hcE
          simpa using this
        · have := rg_g2_in F a n c o g A hA w hn ha hbc hcm hc zn ((l.drop 28).take zn) (getZ l 2 8) (getZ l 10 8) (getZ l 18 8) (getOk l 2 8) (getOk l 10 8) (getOk l 18 8) h1 x0 h2 x1 (G 2 8 (by decide) (by decide)) (G 10 8 (by decide) (by decide)) (G 18 8 (by decide) (by decide)) g5 hz (by omega) hcE (fun W hk => (hP W hk).piece (A' := some ⟨g, o + a + 28, none⟩) (lo := 28) (m := zn) (by omega) (fun _ x hx => by injection hx with hx; subst hx; rfl) (by omega) (by omega) (fun h => by cases h))
          simpa [Int.add_assoc] using this
    · by_cases hE : (l.length : Int) < (e0R false + 8 : Nat)
      · rw [show refRest l 3 false = (zeroC, 0, 12) by unfold refRest; rw [if_neg (by decide), if_neg (by decide), if_pos hE]]
        exact rg_g3_out F a n c o g A hA w hn ha hbc hcm hc (getZ l 2 8) (getZ l 10 8) (getZ l 18 8) 0 (getOk l 2 8) (getOk l 10 8) (getOk l 18 8) h1 x0 h2 x1 (G 2 8 (by decide) (by decide)) (G 10 8 (by decide) (by decide)) (G 18 8 (by decide) (by decide)) (by omega)
      · rw [show refRest l 3 false = ((⟨3, false, getZ l 2 8, getZ l 10 8, getZ l 18 8, []⟩ : Cmd), ((26 : Nat) : Int), (0 : Int)) by unfold refRest; rw [if_neg (by decide), if_neg (by decide), if_neg hE]; rfl]
        exact rg_g3_in F a n c o g A hA w hn ha hbc hcm hc (getZ l 2 8) (getZ l 10 8) (getZ l 18 8) 0 (getOk l 2 8) (getOk l 10 8) (getOk l 18 8) h1 x0 h2 x1 (G 2 8 (by decide) (by decide)) (G 10 8 (by decide) (by decide)) (G 18 8 (by decide) (by decide)) (by omega)
  · rcases hd3 with rfl | rfl | rfl
    all_goals have e0 : e0R true = 10 := rfl
    · by_cases hE : (l.length : Int) < (e0R true : Nat)
      · rw [show refRest l 1 true = (zeroC, 0, 12) by unfold refRest; rw [if_neg (by decide), if_pos rfl, if_pos hE]]
        exact rg_l1_out F a n c o g A hA w hn ha hbc hcm hc (getZ l 2 8) (0) (0) 0 (getOk l 2 8) (false) (false) h1 x0 h2 x1 (G 2 8 (by decide) (by decide)) (by omega)
      · rw [show refRest l 1 true = ((⟨1, true, getZ l 2 8, 0, 0, []⟩ : Cmd), ((10 : Nat) : Int), (0 : Int)) by unfold refRest; rw [if_neg (by decide), if_pos rfl, if_neg hE]; rfl]
        exact rg_l1_in F a n c o g A hA w hn ha hbc hcm hc (getZ l 2 8) (0) (0) 0 (getOk l 2 8) (false) (false) h1 x0 h2 x1 (G 2 8 (by decide) (by decide)) (by omega)
    · have hzb := getZ2_bd l 18
      by_cases hb : getOk l (e0R true + 8 : Nat) 2 = true ∧ 64 < getZ l (e0R true + 8 : Nat) 2
      · rw [show refRest l 2 true = (zeroC, 0, 13) by unfold refRest; rw [if_pos rfl, if_pos hb]]
        have hok : getOk l 18 2 = true := hb.1
        have g5 := G 18 2 (by decide) (by decide)
        rw [hok] at g5
        exact rg_l2_big F a n c o g A hA w hn ha hbc hcm hc (getZ l 2 8) (0) (getZ l 10 8) (getZ l 18 2) (getOk l 2 8) (false) (getOk l 10 8) h1 x0 h2 x1 (G 2 8 (by decide) (by decide)) (G 10 8 (by decide) (by decide)) g5 hb.2
      by_cases hE : (l.length : Int) < (e0R true + 10 : Nat) + getZ l (e0R true + 8 : Nat) 2
      · rw [show refRest l 2 true = (zeroC, 0, 12) by unfold refRest; rw [if_pos rfl, if_neg hb, if_pos hE]]
        have hE' : (l.length : Int) < 20 + getZ l 18 2 := hE
        have g5 := G 18 2 (by decide) (by decide)
        by_cases hok : getOk l 18 2 = true
        · rw [hok] at g5
          have hz : getZ l 18 2 ≤ 64 := by have : ¬ 64 < getZ l 18 2 := fun h => hb ⟨hok, h⟩; omega
          exact rg_l2_shorty F a n c o g A hA w hn ha hbc hcm hc (getZ l 2 8) (0) (getZ l 10 8) (getZ l 18 2) (getOk l 2 8) (false) (getOk l 10 8) h1 x0 h2 x1 (G 2 8 (by decide) (by decide)) (G 10 8 (by decide) (by decide)) g5 hzb.1 hz (by omega)
        · have hok' : getOk l 18 2 = false := by simpa using hok
          rw [getZ_no hok', hok'] at g5
          have := getZ_no hok'
          exact rg_l2_shortn F a n c o g A hA w hn ha hbc hcm hc (getZ l 2 8) (0) (getZ l 10 8) 0 (getOk l 2 8) (false) (getOk l 10 8) h1 x0 h2 x1 (G 2 8 (by decide) (by decide)) (G 10 8 (by decide) (by decide)) g5 (by omega)
      · have hok : getOk l 18 2 = true := by
          rcases hh : getOk l 18 2 with _ | _
          · exfalso
            have hz0 := getZ_no hh
            have hE' : ¬ (l.length : Int) < 20 + getZ l 18 2 := hE
            have := getOk_yes (l := l) (k := 18) (width := 2) (by have : wideN 2 = 2 := rfl; omega)
            rw [show (((18 : Nat)) : Int) = 18 from rfl, hh] at this
            cases this
          · rfl
        have hE' : ¬ (l.length : Int) < 20 + getZ l 18 2 := hE
        have hz : getZ l 18 2 ≤ 64 := by have : ¬ 64 < getZ l 18 2 := fun h => hb ⟨hok, h⟩; omega
        have g5 := G 18 2 (by decide) (by decide)
        rw [hok] at g5
        rw [show refRest l 2 true = ((⟨2, true, getZ l 2 8, 0, getZ l 10 8, (l.drop 20).take (getZ l 18 2).toNat⟩ : Cmd), ((20 : Nat) : Int) + getZ l 18 2, (0 : Int)) by unfold refRest; rw [if_pos rfl, if_neg hb, if_neg hE]; rfl]
        obtain ⟨zn, hzn⟩ := Int.eq_ofNat_of_zero_le hzb.1
        rw [hzn] at hz hE' g5 ⊢
        rw [Int.toNat_natCast]
        by_cases hcE : c - a = 20
        · obtain rfl : zn = 0 := by omega
          have G' : ∀ z y : Int, -9223372036854775808 ≤ z → z ≤ 9223372036854775807 → GetC w g (o + a) (n - a) 20 z y (getZ l z y) (getOk l z y) := by rw [← hcE]; exact G
          have g5' : GetC w g (o + a) (n - a) 20 18 2 0 true := by rw [← hcE]; exact g5
          have := rg_l2_inz F a n c o g A hA w hn ha hbc hcm hc (getZ l 2 8) (0) (getZ l 10 8) 0 (getOk l 2 8) (false) (getOk l 10 8) h1 x0 h2 x1 (G' 2 8 (by decide) (by decide)) (G' 10 8 (by decide) (by decide)) g5' (by omega) hcE
          simpa using this
        · have := rg_l2_in F a n c o g A hA w hn ha hbc hcm hc zn ((l.drop 20).take zn) (getZ l 2 8) (0) (getZ l 10 8) (getOk l 2 8) (false) (getOk l 10 8) h1 x0 h2 x1 (G 2 8 (by decide) (by decide)) (G 10 8 (by decide) (by decide)) g5 hz (by omega) hcE (fun W hk => (hP W hk).piece (A' := some ⟨g, o + a + 20, none⟩) (lo := 20) (m := zn) (by omega) (fun _ x hx => by injection hx with hx; subst hx; rfl) (by omega) (by omega) (fun h => by cases h))
          simpa [Int.add_assoc] using this
    · by_cases hE : (l.length : Int) < (e0R true + 8 : Nat)
      · rw [show refRest l 3 true = (zeroC, 0, 12) by unfold refRest; rw [if_neg (by decide), if_neg (by decide), if_pos hE]]
        exact rg_l3_out F a n c o g A hA w hn ha hbc hcm hc (getZ l 2 8) (0) (getZ l 10 8) 0 (getOk l 2 8) (false) (getOk l 10 8) h1 x0 h2 x1 (G 2 8 (by decide) (by decide)) (G 10 8 (by decide) (by decide)) (by omega)
      · rw [show refRest l 3 true = ((⟨3, true, getZ l 2 8, 0, getZ l 10 8, []⟩ : Cmd), ((18 : Nat) : Int), (0 : Int)) by unfold refRest; rw [if_neg (by decide), if_neg (by decide), if_neg hE]; rfl]
        exact rg_l3_in F a n c o g A hA w hn ha hbc hcm hc (getZ l 2 8) (0) (getZ l 10 8) 0 (getOk l 2 8) (false) (getOk l 10 8) h1 x0 h2 x1 (G 2 8 (by decide) (by decide)) (G 10 8 (by decide) (by decide)) (by omega)
end Go.Proofs.Ytfjgbnnjfapcmaa
namespace Go.Proofs.Ytfjgbnnjfapcmaa
open Go.RowKit
set_option maxRecDepth 100000
set_option linter.unusedVariables false

theorem rget_any (b : List UInt8) (v : Value) (F : Nat → Prop) (at_ : Int) (w : World) (hv : By w F v b) (hn : b.length ≤ 1099511627776) (hlo : -9223372036854775808 ≤ at_) (hhi : at_ ≤ 9223372036854775807) :
    Calls Try.prog 62 #[v, .int .i64 at_] w (RGPost F w (refP b at_)) := by
  by_cases hat : at_ < 0 ∨ (b.length : Int) < at_
  · rw [show refP b at_ = (zeroC, 0, 2) by unfold refP; rw [if_pos hat]]
    exact rg_bad b v F at_ w hv hat hlo hhi
  obtain ⟨a, rfl⟩ := Int.eq_ofNat_of_zero_le (show 0 ≤ at_ by omega)
  have ha : a ≤ b.length := by omega
  rw [show refP b a = (if (refL (b.drop a)).2.2 ≠ 0 then (zeroC, 0, (refL (b.drop a)).2.2) else ((refL (b.drop a)).1, (a : Int) + (refL (b.drop a)).2.1, 0)) by unfold refP; rw [if_neg hat]; rfl]
  have hv0 := hv
  obtain ⟨A, c, rfl, hbc, hcm, hnil, hlen, hrd⟩ := hv
  by_cases hz : b.length = a
  · subst hz
    rw [show refL (b.drop b.length) = (zeroC, 0, 12) by unfold refL; rw [if_pos (by simp)]]
    exact rg_none F b.length c A w hn hbc hcm
  have h1 : a < b.length := by omega
  have hc : ¬ c = a := by omega
  obtain ⟨g, o, hA, hF, hcell⟩ := hrd (by omega)
  have cellAt : ∀ i, a + i < b.length → w.cell? ⟨g, o + a + i, none⟩ = some (.int .u8 (byteZ (b.drop a) i)) := fun i hi => by
    have := hcell (a + i) _ (bv_at hi).1
    rw [Nat.add_assoc, this]
    unfold byteZ
    simp [List.getElem?_drop]
  have x0 : w.cell? ⟨g, o + a, none⟩ = some (.int .u8 (byteZ (b.drop a) 0)) := cellAt 0 h1
  have hl : (b.drop a).length = b.length - a := List.length_drop
  have hP : ∀ W, Keep (fun _ => False) w W → By W F (.slice (some ⟨g, o + a, none⟩) (b.length - a) (c - a)) (b.drop a) := fun W hk => by
    have := (hv0.keep hk (fun _ _ _ h => h)).piece (A' := some ⟨g, o + a, none⟩) (lo := a) (m := b.length - a) (c' := c - a) (by omega) (fun _ x hx => by rw [hA] at hx; injection hx with hx; subst hx; simp [Addr.add]) (by omega) (by omega) (fun h => by cases h)
    rwa [List.take_of_length_le (by rw [List.length_drop]; omega)] at this
  generalize b.drop a = l at *
  have b0 : 0 ≤ byteZ l 0 := by unfold byteZ; omega
  have b1 : 0 ≤ byteZ l 1 := by unfold byteZ; omega
  have hne : ¬ l.length = 0 := by omega
  by_cases h3 : 3 < byteZ l 0
  · rw [show refL l = (zeroC, 0, 11) by unfold refL; rw [if_neg hne, if_pos h3]]
    exact rg_big F a b.length c o g A hA w hn ha hbc hcm hc _ h1 x0 h3
  by_cases h0 : byteZ l 0 = 0
  · rw [show refL l = (zeroC, 1, 0) by unfold refL; rw [if_neg hne, if_neg h3, if_pos h0]]
    rw [h0] at x0
    exact rg_zero F a b.length c o g A hA w hn ha hbc hcm hc h1 x0
  by_cases hone : l.length = 1
  · rw [show refL l = (zeroC, 0, 12) by unfold refL; rw [if_neg hne, if_neg h3, if_neg h0, if_pos hone]]
    exact rg_one F a b.length c o g A hA w hn ha hbc hcm hc _ h1 x0 (by omega) (by omega)
  have h2 : a + 1 < b.length := by omega
  have x1 := cellAt 1 h2
  by_cases h4 : 1 < byteZ l 1
  · rw [show refL l = (zeroC, 0, 11) by unfold refL; rw [if_neg hne, if_neg h3, if_neg h0, if_neg hone, if_pos h4]]
    exact rg_big1 F a b.length c o g A hA w hn ha hbc hcm hc _ _ h1 x0 h2 x1 (by omega) h4
  rw [show refL l = refRest l (byteZ l 0) (decide (byteZ l 1 = 1)) by unfold refL; rw [if_neg hne, if_neg h3, if_neg h0, if_neg hone, if_neg h4]]
  refine rest_any _ F a b.length c o g A hA w hn ha hbc hcm hc l hl _ h1 x0 h2 ?_ (by omega) hP
  rw [x1]
  by_cases hh : byteZ l 1 = 1
  · simp [hh]
  · have : byteZ l 1 = 0 := by omega
    simp [this]
end Go.Proofs.Ytfjgbnnjfapcmaa
namespace Go.Proofs.Ytfjgbnnjfapcmaa
open Go.RowKit
set_option maxRecDepth 100000
set_option linter.unusedVariables false

theorem numS_ok {l : List UInt8} {k : Nat} {e width : Int} (h : k + wideN width ≤ l.length) : numS l ⟨k, false, e⟩ width = (getZ l k width, ⟨k + wideN width, false, e⟩) := by
  unfold numS numR
  simp [getOk_yes h]
theorem numS_no {l : List UInt8} {k : Nat} {width : Int} (h : l.length < k + wideN width) : (numS l ⟨k, false, 0⟩ width).2.e = 12 := by
  unfold numS numR
  simp [getOk_no (l := l) (at_ := (k : Int)) (width := width) (.inr (by omega))]
theorem numS_e {l : List UInt8} {s : RS} {width : Int} (h : s.e ≠ 0) : (numS l s width).2.e = s.e := by
  unfold numS
  simp [h]
theorem mustS_e' {s : RS} {is : Bool} {z : Int} (h : s.e ≠ 0) : (mustS s is z).e = s.e := by
  unfold mustS
  simp [h]
theorem tgtS_e {l : List UInt8} {s : RS} {loc : Bool} (h : s.e ≠ 0) : (tgtS l s loc).2.e = s.e := by
  unfold tgtS
  split
  · exact numS_e h
  · exact (numS_e (by rw [numS_e h]; exact h)).trans (numS_e h)
theorem cmpS_e {l : List UInt8} {s : RS} {d : Int} (h : s.e ≠ 0) : (cmpS l s d).2.e = s.e := by
  unfold cmpS
  split
  · rfl
  · exact numS_e h
theorem lenS_e {l : List UInt8} {s : RS} (h : s.e ≠ 0) : (lenS l s).2.e = s.e := by
  unfold lenS
  exact (mustS_e' (by rw [numS_e h]; exact h)).trans (numS_e h)
theorem datS_e {l : List UInt8} {s : RS} {d : Int} (h : s.e ≠ 0) : (datS l s d).2.e = s.e := by
  unfold datS
  split
  · exact (mustS_e' (by show (lenS l s).2.e ≠ 0; rw [lenS_e h]; exact h)).trans (lenS_e h)
  · rfl
theorem restS_eLoc {l : List UInt8} {s : RS} {d : Int} (h : (locS l s).2.e ≠ 0) : (restS l s d).2.e = (locS l s).2.e := by
  unfold restS
  have h1 := tgtS_e (l := l) (loc := (locS l s).1) h
  have h2 := cmpS_e (l := l) (d := d) (s := (tgtS l (locS l s).2 (locS l s).1).2) (by rw [h1]; exact h)
  exact (datS_e (d := d) (by rw [h2, h1]; exact h)).trans (h2.trans h1)
theorem w8 : wideN 8 = 8 := rfl
theorem w2 : wideN 2 = 2 := rfl
theorem w1 : wideN 1 = 1 := rfl
theorem tgt_ok {l : List UInt8} {loc : Bool} (h : e0R loc ≤ l.length) : tgtS l ⟨2, false, 0⟩ loc = ((getZ l 2 8, genR l loc), ⟨e0R loc, false, 0⟩) := by
  rcases loc with _ | _
  · have h' : 18 ≤ l.length := h
    have a := numS_ok (l := l) (k := 2) (e := 0) (width := 8) (by rw [w8]; omega)
    have b := numS_ok (l := l) (k := 10) (e := 0) (width := 8) (by rw [w8]; omega)
    unfold tgtS
    rw [if_neg (by decide), a]
    rw [w8]
    rw [show (2 + 8 : Nat) = 10 from rfl, b]
    rfl
  · have h' : 10 ≤ l.length := h
    have a := numS_ok (l := l) (k := 2) (e := 0) (width := 8) (by rw [w8]; omega)
    unfold tgtS
    rw [if_pos rfl, a]
    rfl
theorem tgt_no {l : List UInt8} {loc : Bool} (h : l.length < e0R loc) : (tgtS l ⟨2, false, 0⟩ loc).2.e = 12 := by
  rcases loc with _ | _
  · have h' : l.length < 18 := h
    unfold tgtS
    rw [if_neg (by decide)]
    by_cases h10 : l.length < 10
    · have a := numS_no (l := l) (k := 2) (width := 8) (by rw [w8]; omega)
      exact (numS_e (by rw [a]; decide)).trans a
    · have a := numS_ok (l := l) (k := 2) (e := 0) (width := 8) (by rw [w8]; omega)
      rw [a]
      exact numS_no (l := l) (k := 2 + wideN 8) (width := 8) (by rw [w8]; omega)
  · have h' : l.length < 10 := h
    unfold tgtS
    rw [if_pos rfl]
    exact numS_no (l := l) (k := 2) (width := 8) (by rw [w8]; omega)
theorem rest_law (l : List UInt8) (d : Int) (loc : Bool) (hd : d = 1 ∨ d = 2 ∨ d = 3) (hl : locS l ⟨1, false, 0⟩ = (loc, ⟨2, false, 0⟩)) :
    (restS l ⟨1, false, 0⟩ d).2.e = (refRest l d loc).2.2 ∧ ((refRest l d loc).2.2 = 0 → (restS l ⟨1, false, 0⟩ d).1 = (refRest l d loc).1 ∧ ((restS l ⟨1, false, 0⟩ d).2.k : Int) = (refRest l d loc).2.1) := by
  unfold restS
  rw [hl]
  have hz := getZ2_bd l (e0R loc + 8 : Nat)
  by_cases hT : l.length < e0R loc
  · have h1 := tgt_no hT
    have h2 := cmpS_e (l := l) (d := d) (s := (tgtS l ⟨2, false, 0⟩ loc).2) (by rw [h1]; decide)
    have h3 := datS_e (l := l) (d := d) (s := (cmpS l (tgtS l ⟨2, false, 0⟩ loc).2 d).2) (by rw [h2, h1]; decide)
    have hr : (refRest l d loc).2.2 = 12 := by
      unfold refRest
      have : getOk l (e0R loc + 8 : Nat) 2 = false := getOk_no (.inr (by rw [w2]; omega))
      rcases hd with rfl | rfl | rfl
      · rw [if_neg (by decide), if_pos rfl, if_pos (by omega)]
      · rw [if_pos rfl, if_neg (by rw [this]; simp), if_pos (by omega)]
      · rw [if_neg (by decide), if_neg (by decide), if_pos (by omega)]
    rw [hr]
    exact ⟨h3.trans (h2.trans h1), fun h => absurd h (by decide)⟩
  rw [tgt_ok (l := l) (loc := loc) (by omega)]
  generalize hE : e0R loc = E at *
  rcases hd with rfl | hd
  · have c1 : cmpS l ⟨E, false, 0⟩ 1 = (0, ⟨E, false, 0⟩) := by unfold cmpS; rw [if_pos rfl]
    have d1 : datS l ⟨E, false, 0⟩ 1 = ([], ⟨E, false, 0⟩) := by unfold datS; rw [if_neg (by decide)]
    have hr : refRest l 1 loc = ((⟨1, loc, getZ l 2 8, genR l loc, 0, []⟩ : Cmd), ((E : Nat) : Int), (0 : Int)) := by unfold refRest; rw [hE, if_neg (by decide), if_pos rfl, if_neg (by omega)]
    rw [c1, d1, hr]
    exact ⟨rfl, fun _ => ⟨rfl, rfl⟩⟩
  have hd1 : ¬ d = 1 := by omega
  have c3 : cmpS l ⟨E, false, 0⟩ d = numS l ⟨E, false, 0⟩ 8 := by unfold cmpS; rw [if_neg hd1]
  rw [c3]
  by_cases hC : l.length < E + 8
  · have h2 := numS_no (l := l) (k := E) (width := 8) (by rw [w8]; omega)
    have h3 := datS_e (l := l) (d := d) (s := (numS l ⟨E, false, 0⟩ 8).2) (by rw [h2]; decide)
    have hr : (refRest l d loc).2.2 = 12 := by
      unfold refRest
      have : getOk l (E + 8 : Nat) 2 = false := getOk_no (.inr (by rw [w2]; omega))
      rcases hd with rfl | rfl
      · rw [hE, if_pos rfl, if_neg (by rw [this]; simp), if_pos (by omega)]
      · rw [hE, if_neg (by decide), if_neg (by decide), if_pos (by omega)]
    rw [hr]
    exact ⟨h3.trans h2, fun h => absurd h (by decide)⟩
  have n8 := numS_ok (l := l) (k := E) (e := 0) (width := 8) (by rw [w8]; omega)
  rw [w8] at n8
  rw [n8]
  rcases hd with rfl | rfl
  · have hd2 : datS l ⟨E + 8, false, 0⟩ 2 = ((bytesR l (lenS l ⟨E + 8, false, 0⟩).2.k (lenS l ⟨E + 8, false, 0⟩).2.bad (lenS l ⟨E + 8, false, 0⟩).1).1, mustS ⟨(bytesR l (lenS l ⟨E + 8, false, 0⟩).2.k (lenS l ⟨E + 8, false, 0⟩).2.bad (lenS l ⟨E + 8, false, 0⟩).1).2.1, (bytesR l (lenS l ⟨E + 8, false, 0⟩).2.k (lenS l ⟨E + 8, false, 0⟩).2.bad (lenS l ⟨E + 8, false, 0⟩).1).2.2, (lenS l ⟨E + 8, false, 0⟩).2.e⟩ (!(bytesR l (lenS l ⟨E + 8, false, 0⟩).2.k (lenS l ⟨E + 8, false, 0⟩).2.bad (lenS l ⟨E + 8, false, 0⟩).1).2.2) 12) := by unfold datS; rw [if_pos rfl]
    rw [hd2]
    by_cases hL : l.length < E + 8 + 2
    · have a := numS_no (l := l) (k := E + 8) (width := 2) (by rw [w2]; omega)
      have b : (lenS l ⟨E + 8, false, 0⟩).2.e = 12 := by unfold lenS; exact (mustS_e' (by rw [a]; decide)).trans a
      have hr : (refRest l 2 loc).2.2 = 12 := by
        unfold refRest
        have : getOk l (E + 8 : Nat) 2 = false := getOk_no (.inr (by rw [w2]; omega))
        rw [hE, if_pos rfl, if_neg (by rw [this]; simp), if_pos (by omega)]
      rw [hr]
      exact ⟨(mustS_e' (by rw [b]; decide)).trans b, fun h => absurd h (by decide)⟩
    have a := numS_ok (l := l) (k := E + 8) (e := 0) (width := 2) (by rw [w2]; omega)
    have ok : getOk l (E + 8 : Nat) 2 = true := getOk_yes (by rw [w2]; omega)
    rw [w2] at a
    by_cases hbig : 64 < getZ l (E + 8 : Nat) 2
    · have b : (lenS l ⟨E + 8, false, 0⟩).2.e = 13 := by unfold lenS; rw [a]; unfold mustS; rw [if_pos ⟨decide_eq_false (by omega), rfl⟩]
      have hr : (refRest l 2 loc).2.2 = 13 := by unfold refRest; rw [hE, if_pos rfl, if_pos ⟨ok, hbig⟩]
      rw [hr]
      exact ⟨(mustS_e' (by rw [b]; decide)).trans b, fun h => absurd h (by decide)⟩
    have b : lenS l ⟨E + 8, false, 0⟩ = (getZ l (E + 8 : Nat) 2, ⟨E + 8 + 2, false, 0⟩) := by unfold lenS; rw [a]; unfold mustS; rw [if_neg (by intro h; have := h.1; rw [decide_eq_true (by omega)] at this; cases this)]
    rw [b]
    by_cases hS : (l.length : Int) < (E + 10 : Nat) + getZ l (E + 8 : Nat) 2
    · have hr : (refRest l 2 loc).2.2 = 12 := by unfold refRest; rw [hE, if_pos rfl, if_neg (fun h => hbig h.2), if_pos hS]
      have hb : bytesR l (E + 8 + 2) false (getZ l (E + 8 : Nat) 2) = ([], E + 8 + 2, true) := by unfold bytesR; rw [if_neg (by intro h; rcases h with h | h; cases h; omega), if_pos (by omega)]
      rw [hr, hb]
      exact ⟨by unfold mustS; rfl, fun h => absurd h (by decide)⟩
    · have hr : refRest l 2 loc = ((⟨2, loc, getZ l 2 8, genR l loc, getZ l E 8, (l.drop (E + 10)).take (getZ l (E + 8 : Nat) 2).toNat⟩ : Cmd), ((E + 10 : Nat) : Int) + getZ l (E + 8 : Nat) 2, (0 : Int)) := by unfold refRest; rw [hE, if_pos rfl, if_neg (fun h => hbig h.2), if_neg hS]
      have hb : bytesR l (E + 8 + 2) false (getZ l (E + 8 : Nat) 2) = ((l.drop (E + 8 + 2)).take (getZ l (E + 8 : Nat) 2).toNat, E + 8 + 2 + (getZ l (E + 8 : Nat) 2).toNat, false) := by unfold bytesR; rw [if_neg (by intro h; rcases h with h | h; cases h; omega), if_neg (by omega)]
      rw [hr, hb]
      refine ⟨by unfold mustS; rfl, fun _ => ⟨rfl, ?_⟩⟩
      have := Int.toNat_of_nonneg hz.1
      show (((E + 8 + 2 + (getZ l (E + 8 : Nat) 2).toNat : Nat)) : Int) = ((E + 10 : Nat) : Int) + getZ l (E + 8 : Nat) 2
      omega
  · have d1 : datS l ⟨E + 8, false, 0⟩ 3 = ([], ⟨E + 8, false, 0⟩) := by unfold datS; rw [if_neg (by decide)]
    have hr : refRest l 3 loc = ((⟨3, loc, getZ l 2 8, genR l loc, getZ l E 8, []⟩ : Cmd), ((E + 8 : Nat) : Int), (0 : Int)) := by unfold refRest; rw [hE, if_neg (by decide), if_neg (by decide), if_neg (by omega)]
    rw [d1, hr]
    exact ⟨rfl, fun _ => ⟨rfl, rfl⟩⟩
end Go.Proofs.Ytfjgbnnjfapcmaa
namespace Go.Proofs.Ytfjgbnnjfapcmaa
open Go.RowKit
set_option maxRecDepth 100000
set_option linter.unusedVariables false

theorem getZ1 {l : List UInt8} {k : Nat} (h : k < l.length) : getZ l k 1 = byteZ l k := by
  unfold getZ
  rw [if_pos (getOk_yes (by rw [w1]; omega)), w1, Int.toNat_natCast]
  have hp : pieceOf l k 1 = [l.getD k 0] := by
    unfold pieceOf
    rw [List.drop_eq_getElem_cons h, List.take_succ_cons, List.take_zero, List.getD_eq_getElem?_getD, List.getElem?_eq_getElem h]
    rfl
  rw [hp]
  have := (l.getD k 0).toNat_lt
  unfold byteZ
  generalize l.getD k 0 = u at *
  simp only [getN]
  have h2 : u.toNat < 256 := this
  unfold wrap64
  omega
theorem byteZ_bd (l : List UInt8) (k : Nat) : 0 ≤ byteZ l k ∧ byteZ l k ≤ 255 := by
  unfold byteZ
  have h2 : (l.getD k 0).toNat < 256 := (l.getD k 0).toNat_lt
  omega
theorem cmd_law (l : List UInt8) : (cmdS l rs0).2.e = (refL l).2.2 ∧ ((refL l).2.2 = 0 → (cmdS l rs0).1 = (refL l).1 ∧ ((cmdS l rs0).2.k : Int) = (refL l).2.1) := by
  have b0 := byteZ_bd l 0
  have b1 := byteZ_bd l 1
  unfold refL
  by_cases h0 : l.length = 0
  · rw [if_pos h0]
    have a := numS_no (l := l) (k := 0) (width := 1) (by rw [w1]; omega)
    have b : (doS l rs0).2.e = 12 := by unfold doS; exact (mustS_e' (by rw [show rs0 = ⟨0, false, 0⟩ from rfl, a]; decide)).trans a
    unfold cmdS
    rw [if_pos (.inl (by rw [b]; decide))]
    exact ⟨b, fun h => absurd h (by decide)⟩
  rw [if_neg h0]
  have a := numS_ok (l := l) (k := 0) (e := 0) (width := 1) (by rw [w1]; omega)
  rw [w1, getZ1 (by omega)] at a
  by_cases h3 : 3 < byteZ l 0
  · rw [if_pos h3]
    have b : (doS l rs0).2.e = 11 := by unfold doS; rw [show rs0 = ⟨0, false, 0⟩ from rfl, a]; unfold mustS knownC; rw [if_pos ⟨decide_eq_false (by omega), rfl⟩]
    unfold cmdS
    rw [if_pos (.inl (by rw [b]; decide))]
    exact ⟨b, fun h => absurd h (by decide)⟩
  rw [if_neg h3]
  have b : doS l rs0 = (byteZ l 0, ⟨1, false, 0⟩) := by unfold doS; rw [show rs0 = ⟨0, false, 0⟩ from rfl, a]; unfold mustS knownC; rw [if_neg (by intro h; have := h.1; rw [decide_eq_true (by omega)] at this; cases this)]
  unfold cmdS
  rw [b]
  by_cases hz : byteZ l 0 = 0
  · rw [if_pos hz, if_pos (.inr hz)]
    exact ⟨rfl, fun _ => ⟨by rw [hz]; rfl, rfl⟩⟩
  rw [if_neg hz, if_neg (by intro h; rcases h with h | h; exact h rfl; exact hz h)]
  by_cases h1 : l.length = 1
  · rw [if_pos h1]
    have c := numS_no (l := l) (k := 1) (width := 1) (by rw [w1]; omega)
    have d : (locS l ⟨1, false, 0⟩).2.e = 12 := by unfold locS; exact (mustS_e' (by rw [c]; decide)).trans c
    exact ⟨(restS_eLoc (by rw [d]; decide)).trans d, fun h => absurd h (by decide)⟩
  rw [if_neg h1]
  have c := numS_ok (l := l) (k := 1) (e := 0) (width := 1) (by rw [w1]; omega)
  rw [w1, getZ1 (by omega)] at c
  by_cases h4 : 1 < byteZ l 1
  · rw [if_pos h4]
    have d : (locS l ⟨1, false, 0⟩).2.e = 11 := by unfold locS; rw [c]; unfold mustS; rw [if_pos ⟨decide_eq_false (by omega), rfl⟩]
    exact ⟨(restS_eLoc (by rw [d]; decide)).trans d, fun h => absurd h (by decide)⟩
  rw [if_neg h4]
  have d : locS l ⟨1, false, 0⟩ = (decide (byteZ l 1 = 1), ⟨2, false, 0⟩) := by unfold locS; rw [c]; unfold mustS; rw [if_neg (by intro h; have := h.1; rw [decide_eq_true (by omega)] at this; cases this)]
  exact rest_law l (byteZ l 0) _ (by omega) d
theorem getP_refP (b : List UInt8) (at_ : Int) : getP b at_ = refP b at_ := by
  unfold getP refP
  by_cases hat : at_ < 0 ∨ (b.length : Int) < at_
  · rw [if_pos hat, if_pos hat]
  rw [if_neg hat, if_neg hat]
  obtain ⟨h1, h2⟩ := cmd_law (b.drop at_.toNat)
  rw [h1]
  by_cases he : (refL (b.drop at_.toNat)).2.2 = 0
  · obtain ⟨h3, h4⟩ := h2 he
    rw [if_neg (fun h => h he), if_neg (fun h => h he), h3, h4, List.length_drop]
    have : (b.length : Int) - (((b.length - at_.toNat : Nat) : Int) - (refL (b.drop at_.toNat)).2.1) = at_ + (refL (b.drop at_.toNat)).2.1 := by omega
    rw [this]
  · rw [if_pos he, if_pos he]
end Go.Proofs.Ytfjgbnnjfapcmaa
namespace Go.Proofs.Ytfjgbnnjfapcmaa
open Go.RowKit
set_option maxRecDepth 100000
set_option linter.unusedVariables false

theorem word_wrap {n : Nat} (h : n < 18446744073709551616) : word (wrap64 n) = n := by unfold word wrap64; omega
theorem p256_8 : (256 : Nat) ^ 8 = 18446744073709551616 := by decide
theorem getN_piece_lt (l : List UInt8) {k m : Nat} (hm : m ≤ 8) (h : k + m ≤ l.length) : getN (pieceOf l k m) < 18446744073709551616 := by
  have h1 := getN_lt (pieceOf l k m)
  rw [piece_len l k m h] at h1
  have h2 : 256 ^ m ≤ 256 ^ 8 := Nat.pow_le_pow_right (by omega) hm
  rw [p256_8] at h2
  omega
theorem wire {l : List UInt8} {k m : Nat} {width : Int} (hw : wideN width = m) (h : k + m ≤ l.length) : leB (word (getZ l k width)) m = pieceOf l k m := by
  unfold getZ
  rw [if_pos (getOk_yes (by rw [hw]; omega)), Int.toNat_natCast, hw]
  have h8 : m ≤ 8 := by have := wideN_in width; omega
  rw [word_wrap (getN_piece_lt l h8 h)]
  have := leB_getN (pieceOf l k m)
  rwa [piece_len l k m h] at this
theorem getZ2_in {l : List UInt8} {k : Nat} (h : k + 2 ≤ l.length) : 0 ≤ getZ l k 2 ∧ getZ l k 2 ≤ 65535 := by
  unfold getZ
  rw [if_pos (getOk_yes (by rw [w2]; omega)), Int.toNat_natCast, w2]
  have h1 := getN_lt (pieceOf l k 2)
  rw [piece_len l k 2 h] at h1
  have h2 : (256 : Nat) ^ 2 = 65536 := by decide
  rw [h2] at h1
  unfold wrap64
  omega
theorem piece_join (l : List UInt8) (a m n : Nat) : pieceOf l a (m + n) = pieceOf l a m ++ pieceOf l (a + m) n := by
  unfold pieceOf
  rw [List.take_add, List.drop_drop]
theorem getZ_of {l : List UInt8} {k : Nat} {n : Int} (h : k + 8 ≤ l.length) (hp : pieceOf l k 8 = leB (word n) 8) (lo : -9223372036854775808 ≤ n) (hi : n ≤ 9223372036854775807) : getZ l k 8 = n := by
  unfold getZ
  rw [if_pos (getOk_yes (by rw [w8]; omega)), Int.toNat_natCast, w8, hp, getN_leB, p256_8]
  unfold wrap64 word
  omega
theorem getZ2_of {l : List UInt8} {k n : Nat} (h : k + 2 ≤ l.length) (hp : pieceOf l k 2 = leB (word (n : Nat)) 2) (hi : n ≤ 65535) : getZ l k 2 = n := by
  unfold getZ
  rw [if_pos (getOk_yes (by rw [w2]; omega)), Int.toNat_natCast, w2, hp, getN_leB, show (256 : Nat) ^ 2 = 65536 from by decide]
  unfold wrap64 word
  omega
theorem byte_wire {l : List UInt8} {k : Nat} (h : k < l.length) : leB (word (byteZ l k)) 1 = pieceOf l k 1 := by
  rw [← getZ1 h]
  exact wire w1 (by omega)

def headC (d : Int) (loc : Bool) (idx gen : Int) : List UInt8 := leB (word d) 1 ++ (if loc then [1] ++ leB (word idx) 8 else [0] ++ (leB (word idx) 8 ++ leB (word gen) 8))
theorem headC_len (d : Int) (loc : Bool) (idx gen : Int) : (headC d loc idx gen).length = e0R loc := by
  unfold headC e0R
  cases loc <;> simp [leB_len]
theorem bytesC_1 (x : Cmd) (h : x.do_ = 1) : bytesC x = headC 1 x.loc x.idx x.gen := by
  unfold bytesC headC
  rw [h]
  simp [knownC]
theorem bytesC_3 (x : Cmd) (h : x.do_ = 3) : bytesC x = headC 3 x.loc x.idx x.gen ++ leB (word x.comp) 8 := by
  unfold bytesC headC
  rw [h]
  simp [knownC]
theorem bytesC_2 (x : Cmd) (h : x.do_ = 2) : bytesC x = headC 2 x.loc x.idx x.gen ++ (leB (word x.comp) 8 ++ (leB (word (x.l.length : Nat)) 2 ++ x.l)) := by
  unfold bytesC headC
  rw [h]
  simp [knownC]
theorem head_wire {l : List UInt8} {d : Int} {loc : Bool} (h0 : pieceOf l 0 1 = leB (word d) 1) (h1 : pieceOf l 1 1 = if loc then [1] else [0]) (h : e0R loc ≤ l.length) :
    headC d loc (getZ l 2 8) (genR l loc) = pieceOf l 0 (e0R loc) := by
  unfold headC
  cases loc
  · have hl : 18 ≤ l.length := h
    have e : pieceOf l 0 18 = pieceOf l 0 1 ++ (pieceOf l 1 1 ++ (pieceOf l 2 8 ++ pieceOf l 10 8)) := by
      rw [show (18 : Nat) = 1 + 17 from rfl, piece_join, show (17 : Nat) = 1 + 16 from rfl, piece_join, show (16 : Nat) = 8 + 8 from rfl, piece_join]
    show _ = pieceOf l 0 18
    rw [e, h0, h1, ← wire (width := 8) w8 (k := 2) (by omega), ← wire (width := 8) w8 (k := 10) (by omega)]
    rfl
  · have hl : 10 ≤ l.length := h
    have e : pieceOf l 0 10 = pieceOf l 0 1 ++ (pieceOf l 1 1 ++ pieceOf l 2 8) := by
      rw [show (10 : Nat) = 1 + 9 from rfl, piece_join, show (9 : Nat) = 1 + 8 from rfl, piece_join]
    show _ = pieceOf l 0 10
    rw [e, h0, h1, ← wire (width := 8) w8 (k := 2) (by omega)]
    rfl
theorem e0R_cast (loc : Bool) (n : Nat) : ((e0R loc : Nat) : Int) + (n : Nat) = ((e0R loc + n : Nat) : Int) := by omega
theorem bytes_rest {l : List UInt8} {d : Int} {loc : Bool} (hd : d = 1 ∨ d = 2 ∨ d = 3) (h0 : pieceOf l 0 1 = leB (word d) 1) (h1 : pieceOf l 1 1 = if loc then [1] else [0])
    (h : (refRest l d loc).2.2 = 0) : ∃ k : Nat, (refRest l d loc).2.1 = k ∧ k ≤ l.length ∧ bytesC (refRest l d loc).1 = pieceOf l 0 k ∧ (refRest l d loc).1.l.length ≤ 64 := by
  rcases hd with rfl | rfl | rfl
  · have e : refRest l 1 loc = if (l.length : Int) < e0R loc then (zeroC, 0, 12) else (⟨1, loc, getZ l 2 8, genR l loc, 0, []⟩, ((e0R loc : Nat) : Int), 0) := rfl
    rw [e] at h ⊢
    split at h
    · cases h
    · rename_i hc
      rw [if_neg hc]
      exact ⟨e0R loc, rfl, by omega, by rw [bytesC_1 _ rfl]; exact head_wire (loc := loc) h0 h1 (by omega), Nat.zero_le _⟩
  · have e : refRest l 2 loc = if getOk l (e0R loc + 8 : Nat) 2 = true ∧ 64 < getZ l (e0R loc + 8 : Nat) 2 then (zeroC, 0, 13)
      else if (l.length : Int) < (e0R loc + 10 : Nat) + getZ l (e0R loc + 8 : Nat) 2 then (zeroC, 0, 12)
      else (⟨2, loc, getZ l 2 8, genR l loc, getZ l (e0R loc) 8, (l.drop (e0R loc + 10)).take (getZ l (e0R loc + 8 : Nat) 2).toNat⟩, (e0R loc + 10 : Nat) + getZ l (e0R loc + 8 : Nat) 2, 0) := rfl
    rw [e] at h ⊢
    split at h
    · cases h
    rename_i hc
    split at h
    · cases h
    rename_i hc2
    rw [if_neg hc, if_neg hc2]
    have hlen : e0R loc + 10 ≤ l.length := by
      by_cases hx : e0R loc + 8 + 2 ≤ l.length
      · omega
      · exfalso
        have : getZ l (e0R loc + 8 : Nat) 2 = 0 := by
          unfold getZ
          rw [if_neg]
          rw [getOk_no (.inr (by rw [w2]; omega))]
          decide
        rw [this] at hc2
        omega
    obtain ⟨z0, z1⟩ := getZ2_in (l := l) (k := e0R loc + 8) (by omega)
    obtain ⟨n, hn⟩ := Int.eq_ofNat_of_zero_le z0
    rw [hn] at hc2 ⊢
    have hc3 : e0R loc + 10 + n ≤ l.length := by omega
    have hpl : ((l.drop (e0R loc + 10)).take n).length = n := piece_len l _ _ hc3
    refine ⟨e0R loc + 10 + n, (by show ((e0R loc + 10 : Nat) : Int) + (n : Nat) = _; omega), hc3, ?_, ?_⟩
    case refine_2 =>
      show ((l.drop (e0R loc + 10)).take n).length ≤ 64
      have h64 : ¬ (64 : Int) < (n : Nat) := fun h => hc ⟨getOk_yes (by rw [w2]; omega), by rw [hn]; exact h⟩
      omega
    rw [bytesC_2 _ rfl]
    show headC 2 loc _ _ ++ (_ ++ (leB (word ((((l.drop (e0R loc + 10)).take n).length : Nat))) 2 ++ (l.drop (e0R loc + 10)).take n)) = _
    rw [hpl, head_wire h0 h1 (by omega), wire (width := 8) w8 (by omega), show leB (word (n : Nat)) 2 = pieceOf l (e0R loc + 8) 2 from by rw [← hn]; exact wire w2 (by omega), Nat.add_assoc, piece_join, Nat.zero_add, show 10 + n = 8 + (2 + n) from by omega, piece_join, piece_join]
    rfl
  · have e : refRest l 3 loc = if (l.length : Int) < (e0R loc + 8 : Nat) then (zeroC, 0, 12) else (⟨3, loc, getZ l 2 8, genR l loc, getZ l (e0R loc) 8, []⟩, ((e0R loc + 8 : Nat) : Int), 0) := rfl
    rw [e] at h ⊢
    split at h
    · cases h
    · rename_i hc
      rw [if_neg hc]
      refine ⟨e0R loc + 8, rfl, by omega, ?_, Nat.zero_le _⟩
      rw [bytesC_3 _ rfl]
      show headC 3 loc _ _ ++ leB (word (getZ l (e0R loc : Nat) 8)) 8 = _
      rw [head_wire h0 h1 (by omega), wire (width := 8) w8 (by omega), piece_join, Nat.zero_add]
theorem bytes_refL {l : List UInt8} (h : (refL l).2.2 = 0) : ∃ k : Nat, (refL l).2.1 = k ∧ k ≤ l.length ∧ bytesC (refL l).1 = pieceOf l 0 k ∧ (refL l).1.l.length ≤ 64 := by
  have b0 := byteZ_bd l 0
  have b1 := byteZ_bd l 1
  unfold refL at h ⊢
  by_cases h0 : l.length = 0
  · rw [if_pos h0] at h; cases h
  rw [if_neg h0] at h ⊢
  by_cases h3 : 3 < byteZ l 0
  · rw [if_pos h3] at h; cases h
  rw [if_neg h3] at h ⊢
  by_cases hz : byteZ l 0 = 0
  · rw [if_pos hz]
    exact ⟨1, rfl, by omega, by rw [← byte_wire (by omega), hz]; rfl, Nat.zero_le _⟩
  rw [if_neg hz] at h ⊢
  by_cases h1 : l.length = 1
  · rw [if_pos h1] at h; cases h
  rw [if_neg h1] at h ⊢
  by_cases h4 : 1 < byteZ l 1
  · rw [if_pos h4] at h; cases h
  rw [if_neg h4] at h ⊢
  refine bytes_rest (by omega) (byte_wire (by omega)).symm ?_ h
  rw [← byte_wire (by omega)]
  by_cases hb : byteZ l 1 = 1
  · rw [decide_eq_true hb, hb]; rfl
  · rw [decide_eq_false hb, show byteZ l 1 = 0 by omega]; rfl
/-- What was got, put again. -/
theorem bytes_refP {b : List UInt8} {at_ : Int} (h : (refP b at_).2.2 = 0) : 0 ≤ at_ ∧ at_ ≤ (refP b at_).2.1 ∧ (refP b at_).2.1 ≤ b.length ∧ bytesC (refP b at_).1 = (b.drop at_.toNat).take ((refP b at_).2.1 - at_).toNat ∧ (refP b at_).1.l.length ≤ 64 := by
  unfold refP at h ⊢
  split at h
  · cases h
  rename_i hat
  rw [if_neg hat]
  split at h
  · rename_i h2; exact absurd h h2
  rename_i h2
  rw [if_neg h2]
  obtain ⟨k, e1, e2, e3, e4⟩ := bytes_refL (Classical.not_not.1 h2)
  rw [List.length_drop] at e2
  refine ⟨by omega, by show at_ ≤ at_ + _; omega, by show at_ + _ ≤ _; omega, ?_, e4⟩
  show bytesC (refL (b.drop at_.toNat)).1 = (b.drop at_.toNat).take (at_ + (refL (b.drop at_.toNat)).2.1 - at_).toNat
  rw [e3, e1, show (at_ + (k : Int) - at_).toNat = k by omega]
  rfl

def in64 (z : Int) : Prop := -9223372036854775808 ≤ z ∧ z ≤ 9223372036854775807
def rngC (x : Cmd) : Prop := in64 x.do_ ∧ in64 x.idx ∧ in64 x.gen ∧ in64 x.comp
theorem headC_cons {d : Int} (loc : Bool) (idx gen : Int) (hd : d = 1 ∨ d = 2 ∨ d = 3) : headC d loc idx gen = UInt8.ofNat d.toNat :: (if loc then 1 else 0) :: (leB (word idx) 8 ++ (if loc then [] else leB (word gen) 8)) := by
  rcases hd with rfl | rfl | rfl <;> (cases loc <;> first | rfl | (show _ = _ :: _ :: (leB (word idx) 8 ++ []); rw [List.append_nil]; rfl))
section
variable {d : Int} {loc : Bool} {idx gen : Int} {t : List UInt8}
theorem head_b0 (hd : d = 1 ∨ d = 2 ∨ d = 3) : byteZ (headC d loc idx gen ++ t) 0 = d := by
  rw [headC_cons _ _ _ hd]
  rcases hd with rfl | rfl | rfl <;> rfl
theorem head_b1 (hd : d = 1 ∨ d = 2 ∨ d = 3) : byteZ (headC d loc idx gen ++ t) 1 = if loc then 1 else 0 := by
  rw [headC_cons _ _ _ hd]
  cases loc <;> rfl
theorem head_len : (headC d loc idx gen ++ t).length = e0R loc + t.length := by rw [List.length_append, headC_len]
theorem head_idx (hd : d = 1 ∨ d = 2 ∨ d = 3) (h : in64 idx) : getZ (headC d loc idx gen ++ t) 2 8 = idx := by
  have hl : (headC d loc idx gen ++ t).length = e0R loc + t.length := head_len
  have h0 : 10 ≤ e0R loc := by cases loc <;> decide
  refine getZ_of (k := 2) (by omega) ?_ h.1 h.2
  rw [headC_cons _ _ _ hd]
  show ((leB (word idx) 8 ++ (if loc then [] else leB (word gen) 8)) ++ t).take 8 = _
  rw [List.append_assoc]
  exact List.take_left' (leB_len _ _)
theorem head_gen (hd : d = 1 ∨ d = 2 ∨ d = 3) (h : in64 gen) : genR (headC d loc idx gen ++ t) loc = if loc then 0 else gen := by
  cases loc
  · have hl : (headC d false idx gen ++ t).length = e0R false + t.length := head_len
    have h0 : e0R false = 18 := rfl
    have e : headC d false idx gen ++ t = ([UInt8.ofNat d.toNat, 0] ++ leB (word idx) 8) ++ (leB (word gen) 8 ++ t) := by
      rw [headC_cons _ _ _ hd]
      simp
    have hp : pieceOf (headC d false idx gen ++ t) 10 8 = leB (word gen) 8 := by
      rw [e, piece_skip (k := 0) _ _ (by simp [leB_len])]
      exact List.take_left' (leB_len _ _)
    have hz := getZ_of (l := headC d false idx gen ++ t) (k := 10) (n := gen) (by omega) hp h.1 h.2
    unfold genR
    rw [if_neg (by decide), if_neg (by decide)]
    exact hz
  · rfl
theorem head_skip (k m : Nat) : pieceOf (headC d loc idx gen ++ t) (e0R loc + k) m = pieceOf t k m := piece_skip _ _ (by rw [headC_len])
end
theorem plainC_of {x : Cmd} (h : x.do_ = 1 ∨ x.do_ = 2 ∨ x.do_ = 3) : plainC x = ⟨x.do_, x.loc, x.idx, if x.loc then 0 else x.gen, if x.do_ = 1 then 0 else x.comp, if x.do_ = 2 then x.l else []⟩ := by
  unfold plainC
  rw [if_neg (by unfold knownC; rw [decide_eq_true (by omega)]; decide), if_neg (by omega)]
theorem refL_bytes {x : Cmd} (hk : knownC x.do_ = true) (hl : x.l.length ≤ 64) (hr : rngC x) : refL (bytesC x) = (plainC x, (((bytesC x).length : Nat) : Int), 0) := by
  obtain ⟨d, loc, idx, gen, comp, q⟩ := x
  obtain ⟨-, r1, r2, r3⟩ := hr
  simp only at hk hl r1 r2 r3
  have hd4 : d = 0 ∨ (d = 1 ∨ d = 2 ∨ d = 3) := by
    have : 0 ≤ d ∧ d ≤ 3 := of_decide_eq_true hk
    omega
  rcases hd4 with rfl | hd
  · have e : bytesC ⟨0, loc, idx, gen, comp, q⟩ = [0] := by
      show leB (word 0) 1 ++ [] = _
      rw [List.append_nil]; rfl
    rw [e]
    rfl
  rw [plainC_of hd]
  have T : ∃ t : List UInt8, bytesC ⟨d, loc, idx, gen, comp, q⟩ = headC d loc idx gen ++ t ∧ t = (if d = 1 then [] else leB (word comp) 8 ++ (if d = 2 then leB (word (q.length : Nat)) 2 ++ q else [])) := by
    refine ⟨_, ?_, rfl⟩
    rcases hd with rfl | rfl | rfl
    · rw [bytesC_1 _ rfl, if_pos rfl, List.append_nil]
    · rw [bytesC_2 _ rfl]; rfl
    · rw [bytesC_3 _ rfl, if_neg (by decide), if_neg (by decide), List.append_nil]
  obtain ⟨t, eT, ht⟩ := T
  rw [eT]
  have hlen : (headC d loc idx gen ++ t).length = e0R loc + t.length := head_len
  have hb0 : byteZ (headC d loc idx gen ++ t) 0 = d := head_b0 hd
  have hb1 : byteZ (headC d loc idx gen ++ t) 1 = if loc then 1 else 0 := head_b1 hd
  have hi : getZ (headC d loc idx gen ++ t) 2 8 = idx := head_idx hd r1
  have hg : genR (headC d loc idx gen ++ t) loc = if loc then 0 else gen := head_gen hd r2
  have hs := fun k m => head_skip (d := d) (loc := loc) (idx := idx) (gen := gen) (t := t) k m
  have h0 : 10 ≤ e0R loc := by cases loc <;> decide
  generalize headC d loc idx gen ++ t = L at *
  have hloc : decide (byteZ L 1 = 1) = loc := by rw [hb1]; cases loc <;> rfl
  unfold refL
  rw [if_neg (by omega), hb0, if_neg (by omega), if_neg (by omega), if_neg (by omega), if_neg (by rw [hb1]; cases loc <;> decide), hloc]
  clear hb0 hb1 hloc hk
  have hc : 8 ≤ t.length → pieceOf t 0 8 = leB (word comp) 8 → getZ L (e0R loc) 8 = comp := fun h1 h2 => getZ_of (by omega) (by rw [← h2]; exact hs 0 8) r3.1 r3.2
  rcases hd with rfl | rfl | rfl
  · rw [if_pos rfl] at ht
    subst ht
    have e : refRest L 1 loc = if (L.length : Int) < e0R loc then (zeroC, 0, 12) else (⟨1, loc, getZ L 2 8, genR L loc, 0, []⟩, ((e0R loc : Nat) : Int), 0) := rfl
    rw [e, hlen, if_neg (by simp), hi, hg]
    rfl
  · have ht2 : t = leB (word comp) 8 ++ (leB (word (q.length : Nat)) 2 ++ q) := ht
    have htl : t.length = 10 + q.length := by rw [ht2]; simp [leB_len]; omega
    have hc1 := hc (by omega) (by rw [ht2]; exact List.take_left' (leB_len _ _))
    have hn : getZ L (e0R loc + 8 : Nat) 2 = (q.length : Nat) := getZ2_of (by omega) (by
      rw [hs 8 2, ht2, piece_skip (k := 0) _ _ (by rw [leB_len])]
      exact List.take_left' (leB_len _ _)) (by omega)
    have hq : (L.drop (e0R loc + 10)).take q.length = q := by
      have := hs 10 q.length
      unfold pieceOf at this
      rw [this, ht2]
      rw [show (10 : Nat) = 8 + 2 from rfl, ← List.drop_drop, List.drop_left' (leB_len _ _), List.drop_left' (leB_len _ _), List.take_length]
    have e : refRest L 2 loc = if getOk L (e0R loc + 8 : Nat) 2 = true ∧ 64 < getZ L (e0R loc + 8 : Nat) 2 then (zeroC, 0, 13)
      else if (L.length : Int) < (e0R loc + 10 : Nat) + getZ L (e0R loc + 8 : Nat) 2 then (zeroC, 0, 12)
      else (⟨2, loc, getZ L 2 8, genR L loc, getZ L (e0R loc) 8, (L.drop (e0R loc + 10)).take (getZ L (e0R loc + 8 : Nat) 2).toNat⟩, (e0R loc + 10 : Nat) + getZ L (e0R loc + 8 : Nat) 2, 0) := rfl
    rw [e, hn, if_neg (by omega), if_neg (by omega), hi, hg, hc1, Int.toNat_natCast, hq]
    have e2 : ((e0R loc + 10 : Nat) : Int) + (q.length : Nat) = (L.length : Nat) := by omega
    rw [e2]
    rfl
  · have ht2 : t = leB (word comp) 8 := by rw [ht, if_neg (by decide), if_neg (by decide), List.append_nil]
    have htl : t.length = 8 := by rw [ht2, leB_len]
    have hc1 := hc (by omega) (by rw [ht2]; exact List.take_of_length_le (by simp [leB_len]))
    have e : refRest L 3 loc = if (L.length : Int) < (e0R loc + 8 : Nat) then (zeroC, 0, 12) else (⟨3, loc, getZ L 2 8, genR L loc, getZ L (e0R loc) 8, []⟩, ((e0R loc + 8 : Nat) : Int), 0) := rfl
    rw [e, if_neg (by omega), hi, hg, hc1]
    have e2 : ((e0R loc + 8 : Nat) : Int) = (L.length : Nat) := by omega
    rw [e2]
    rfl
theorem refP_bytes {b : List UInt8} {x : Cmd} (hk : knownC x.do_ = true) (hl : x.l.length ≤ 64) (hr : rngC x) : refP (b ++ bytesC x) (b.length : Nat) = (plainC x, (((b ++ bytesC x).length : Nat) : Int), 0) := by
  unfold refP
  rw [if_neg (by rw [List.length_append]; omega), Int.toNat_natCast, List.drop_left' rfl, refL_bytes hk hl hr, if_neg (fun h => h rfl)]
  show (plainC x, (b.length : Int) + ((bytesC x).length : Nat), (0 : Int)) = _
  rw [List.length_append]
  have : (b.length : Int) + ((bytesC x).length : Nat) = ((b.length + (bytesC x).length : Nat) : Int) := by omega
  rw [this]

end Go.Proofs.Ytfjgbnnjfapcmaa
namespace Go.Proofs.Ytfjgbnnjfapcmaa
open Go.RowKit
set_option maxRecDepth 100000
set_option linter.unusedVariables false

theorem refL_post {x : Cmd} (post : List UInt8) (hk : knownC x.do_ = true) (hl : x.l.length ≤ 64) (hr : rngC x) : refL (bytesC x ++ post) = (plainC x, (((bytesC x).length : Nat) : Int), 0) := by
  obtain ⟨d, loc, idx, gen, comp, q⟩ := x
  obtain ⟨-, r1, r2, r3⟩ := hr
  simp only at hk hl r1 r2 r3
  have hd4 : d = 0 ∨ (d = 1 ∨ d = 2 ∨ d = 3) := by
    have : 0 ≤ d ∧ d ≤ 3 := of_decide_eq_true hk
    omega
  rcases hd4 with rfl | hd
  · have e : bytesC ⟨0, loc, idx, gen, comp, q⟩ = [0] := by
      show leB (word 0) 1 ++ [] = _
      rw [List.append_nil]; rfl
    rw [e]
    show refL (0 :: post) = _
    unfold refL
    rw [if_neg (by simp), show byteZ (0 :: post) 0 = 0 from rfl, if_neg (by decide), if_pos rfl]
    rfl
  rw [plainC_of hd]
  have T : ∃ t : List UInt8, bytesC ⟨d, loc, idx, gen, comp, q⟩ = headC d loc idx gen ++ t ∧ t = (if d = 1 then [] else leB (word comp) 8 ++ (if d = 2 then leB (word (q.length : Nat)) 2 ++ q else [])) := by
    refine ⟨_, ?_, rfl⟩
    rcases hd with rfl | rfl | rfl
    · rw [bytesC_1 _ rfl, if_pos rfl, List.append_nil]
    · rw [bytesC_2 _ rfl]; rfl
    · rw [bytesC_3 _ rfl, if_neg (by decide), if_neg (by decide), List.append_nil]
  obtain ⟨t, eT, ht⟩ := T
  rw [eT, List.append_assoc]
  have hlen0 : (headC d loc idx gen ++ t).length = e0R loc + t.length := head_len
  have hlen : (headC d loc idx gen ++ (t ++ post)).length = e0R loc + (t.length + post.length) := by rw [head_len, List.length_append]
  have hb0 : byteZ (headC d loc idx gen ++ (t ++ post)) 0 = d := head_b0 hd
  have hb1 : byteZ (headC d loc idx gen ++ (t ++ post)) 1 = if loc then 1 else 0 := head_b1 hd
  have hi : getZ (headC d loc idx gen ++ (t ++ post)) 2 8 = idx := head_idx hd r1
  have hg : genR (headC d loc idx gen ++ (t ++ post)) loc = if loc then 0 else gen := head_gen hd r2
  have hs := fun k m => head_skip (d := d) (loc := loc) (idx := idx) (gen := gen) (t := t ++ post) k m
  have h0 : 10 ≤ e0R loc := by cases loc <;> decide
  rw [hlen0]
  generalize headC d loc idx gen ++ (t ++ post) = L at *
  have hloc : decide (byteZ L 1 = 1) = loc := by rw [hb1]; cases loc <;> rfl
  unfold refL
  rw [if_neg (by omega), hb0, if_neg (by omega), if_neg (by omega), if_neg (by omega), if_neg (by rw [hb1]; cases loc <;> decide), hloc]
  clear hb0 hb1 hloc hk hlen0
  have hc : 8 ≤ t.length → pieceOf (t ++ post) 0 8 = leB (word comp) 8 → getZ L (e0R loc) 8 = comp := fun h1 h2 => getZ_of (by omega) (by rw [← h2]; exact hs 0 8) r3.1 r3.2
  rcases hd with rfl | rfl | rfl
  · rw [if_pos rfl] at ht
    subst ht
    have e : refRest L 1 loc = if (L.length : Int) < e0R loc then (zeroC, 0, 12) else (⟨1, loc, getZ L 2 8, genR L loc, 0, []⟩, ((e0R loc : Nat) : Int), 0) := rfl
    rw [e, hlen, if_neg (by simp; omega), hi, hg]
    rfl
  · have ht2 : t = leB (word comp) 8 ++ (leB (word (q.length : Nat)) 2 ++ q) := ht
    have htl : t.length = 10 + q.length := by rw [ht2]; simp [leB_len]; omega
    have hc1 := hc (by omega) (by rw [ht2, List.append_assoc]; exact List.take_left' (leB_len _ _))
    have hn : getZ L (e0R loc + 8 : Nat) 2 = (q.length : Nat) := getZ2_of (by omega) (by
      rw [hs 8 2, ht2, List.append_assoc, List.append_assoc, piece_skip (k := 0) _ _ (by rw [leB_len])]
      exact List.take_left' (leB_len _ _)) (by omega)
    have hq : (L.drop (e0R loc + 10)).take q.length = q := by
      have := hs 10 q.length
      unfold pieceOf at this
      rw [this, ht2, List.append_assoc, List.append_assoc]
      rw [show (10 : Nat) = 8 + 2 from rfl, ← List.drop_drop, List.drop_left' (leB_len _ _), List.drop_left' (leB_len _ _), List.take_left' rfl]
    have e : refRest L 2 loc = if getOk L (e0R loc + 8 : Nat) 2 = true ∧ 64 < getZ L (e0R loc + 8 : Nat) 2 then (zeroC, 0, 13)
      else if (L.length : Int) < (e0R loc + 10 : Nat) + getZ L (e0R loc + 8 : Nat) 2 then (zeroC, 0, 12)
      else (⟨2, loc, getZ L 2 8, genR L loc, getZ L (e0R loc) 8, (L.drop (e0R loc + 10)).take (getZ L (e0R loc + 8 : Nat) 2).toNat⟩, (e0R loc + 10 : Nat) + getZ L (e0R loc + 8 : Nat) 2, 0) := rfl
    rw [e, hn, if_neg (by omega), if_neg (by omega), hi, hg, hc1, Int.toNat_natCast, hq]
    have e2 : ((e0R loc + 10 : Nat) : Int) + (q.length : Nat) = ((e0R loc + t.length : Nat) : Int) := by omega
    rw [e2]
    rfl
  · have ht2 : t = leB (word comp) 8 := by rw [ht, if_neg (by decide), if_neg (by decide), List.append_nil]
    have htl : t.length = 8 := by rw [ht2, leB_len]
    have hc1 := hc (by omega) (by rw [ht2]; exact List.take_left' (leB_len _ _))
    have e : refRest L 3 loc = if (L.length : Int) < (e0R loc + 8 : Nat) then (zeroC, 0, 12) else (⟨3, loc, getZ L 2 8, genR L loc, getZ L (e0R loc) 8, []⟩, ((e0R loc + 8 : Nat) : Int), 0) := rfl
    rw [e, if_neg (by omega), hi, hg, hc1, htl]
    rfl
theorem refP_post {b : List UInt8} {x : Cmd} (post : List UInt8) (hk : knownC x.do_ = true) (hl : x.l.length ≤ 64) (hr : rngC x) : refP (b ++ (bytesC x ++ post)) (b.length : Nat) = (plainC x, (((b ++ bytesC x).length : Nat) : Int), 0) := by
  unfold refP
  rw [if_neg (by rw [List.length_append]; omega), Int.toNat_natCast, List.drop_left' rfl, refL_post post hk hl hr, if_neg (fun h => h rfl)]
  show (plainC x, (b.length : Int) + ((bytesC x).length : Nat), (0 : Int)) = _
  rw [List.length_append]
  have : (b.length : Int) + ((bytesC x).length : Nat) = ((b.length + (bytesC x).length : Nat) : Int) := by omega
  rw [this]
end Go.Proofs.Ytfjgbnnjfapcmaa

/- Plain law: both read one act alike; what was read is put again. No program in sight. -/
import Derived.Test.YthkgchlndfcmpaaScrH
import Derived.Test.YthkgchlndfcmpaaScrL
namespace Go.Proofs.Ythkgchlndfcmpaa
open Go.RowKit
set_option maxRecDepth 100000
set_option linter.unusedVariables false

theorem piece_drop (b : List UInt8) (s k m : Nat) : pieceOf (b.drop s) k m = pieceOf b (s + k) m := by unfold pieceOf; rw [List.drop_drop]
theorem getOk_iff {l : List UInt8} {k : Nat} {width : Int} : getOk l k width = true ↔ k + wideN width ≤ l.length := by
  unfold getOk
  rw [Bool.and_eq_true, decide_eq_true_iff, decide_eq_true_iff]
  omega
theorem getOk_not {l : List UInt8} {k : Nat} {width : Int} (h : ¬ k + wideN width ≤ l.length) : getOk l k width = false := by
  rw [← Bool.not_eq_true, getOk_iff]; exact h
theorem getZ_drop {b : List UInt8} {s k : Nat} (width : Int) (hs : s ≤ b.length) : getZ (b.drop s) k width = getZ b ((s + k : Nat) : Int) width := by
  have e : getOk (b.drop s) k width = getOk b ((s + k : Nat) : Int) width := by
    rw [Bool.eq_iff_iff, getOk_iff, getOk_iff, List.length_drop]
    omega
  unfold getZ
  rw [e, Int.toNat_natCast, Int.toNat_natCast, piece_drop]
theorem numR_yes {b : List UInt8} {s k : Nat} {width : Int} (h : s + k + wideN width ≤ b.length) : numR (b.drop s) k false width = (getZ b ((s + k : Nat) : Int) width, k + wideN width, false) := by
  rw [numR_here (by rw [List.length_drop]; omega), getZ_drop _ (by omega)]
theorem numR_no {b : List UInt8} {s k : Nat} {width : Int} (hs : s ≤ b.length) (h : ¬ s + k + wideN width ≤ b.length) : numR (b.drop s) k false width = (0, k, true) := by
  unfold numR
  rw [if_neg (by decide), if_neg]
  rw [getOk_iff, List.length_drop]
  omega
theorem numR_bad (l : List UInt8) (k : Nat) (width : Int) : numR l k true width = (0, k, true) := by unfold numR; rw [if_pos rfl]
theorem zsQ_cons (b : List UInt8) (a n : Nat) : zsQ b (a : Nat) (n + 1) = getZ b (a : Nat) 8 :: zsQ b ((a + 8 : Nat) : Int) n := by
  unfold zsQ
  rw [List.range_succ_eq_map, List.map_cons, List.map_map]
  refine List.cons_eq_cons.2 ⟨by simp, List.map_congr_left fun i _ => ?_⟩
  show getZ b ((a : Int) + 8 * ((i + 1 : Nat) : Int)) 8 = _
  rw [show (a : Int) + 8 * ((i + 1 : Nat) : Int) = ((a + 8 : Nat) : Int) + 8 * (i : Nat) by omega]
theorem fuR_yes (b : List UInt8) (s : Nat) : ∀ (n k : Nat), s + k + 8 * n ≤ b.length → fuR (b.drop s) n k false = (zsQ b ((s + k : Nat) : Int) n, k + 8 * n, false)
  | 0, k, _ => rfl
  | n + 1, k, h => by
    rw [fuR, if_neg (by decide), numR_yes (by rw [show wideN 8 = 8 from rfl]; omega)]
    simp only [show wideN 8 = 8 from rfl]
    rw [fuR_yes b s n (k + 8) (by omega), zsQ_cons, show s + (k + 8) = s + k + 8 by omega]
    simp only
    rw [show k + 8 + 8 * n = k + 8 * (n + 1) by omega]
theorem fuR_no (b : List UInt8) (s : Nat) (hs : s ≤ b.length) : ∀ (n k : Nat), s + k ≤ b.length → ¬ s + k + 8 * n ≤ b.length → (fuR (b.drop s) n k false).2.2 = true
  | 0, k, h0, h => absurd h0 h
  | n + 1, k, h0, h => by
    rw [fuR, if_neg (by decide)]
    by_cases h1 : s + k + 8 ≤ b.length
    · rw [numR_yes (by rw [show wideN 8 = 8 from rfl]; omega)]
      simp only [show wideN 8 = 8 from rfl]
      exact fuR_no b s hs n (k + 8) (by omega) (by omega)
    · rw [numR_no hs (by rw [show wideN 8 = 8 from rfl]; omega)]
      simp only
      rw [fuR_bad]
theorem fatesOf_cons (x y : Int) (l : List Int) (n : Nat) : fatesOf (x :: y :: l) (n + 1) = ⟨x, y⟩ :: fatesOf l n := by
  unfold fatesOf
  rw [List.range_succ_eq_map, List.map_cons, List.map_map]
  refine List.cons_eq_cons.2 ⟨rfl, List.map_congr_left fun i _ => ?_⟩
  show (⟨(x :: y :: l).getD (2 * (i + 1)) 0, (x :: y :: l).getD (2 * (i + 1) + 1) 0⟩ : Fa) = _
  rw [show 2 * (i + 1) = 2 * i + 1 + 1 by omega]
  rfl
theorem faR_yes (b : List UInt8) (s : Nat) : ∀ (n k : Nat), s + k + 16 * n ≤ b.length → faR (b.drop s) n k false = (fatesOf (zsQ b ((s + k : Nat) : Int) (2 * n)) n, k + 16 * n, false)
  | 0, k, _ => rfl
  | n + 1, k, h => by
    rw [faR, if_neg (by decide), numR_yes (by rw [show wideN 8 = 8 from rfl]; omega)]
    simp only [show wideN 8 = 8 from rfl]
    rw [numR_yes (by rw [show wideN 8 = 8 from rfl]; omega)]
    simp only [show wideN 8 = 8 from rfl]
    rw [faR_yes b s n (k + 8 + 8) (by omega), show 2 * (n + 1) = 2 * n + 1 + 1 by omega, zsQ_cons, zsQ_cons, fatesOf_cons, show s + (k + 8) = s + k + 8 by omega, show s + (k + 8 + 8) = s + k + 8 + 8 by omega]
    simp only
    rw [show k + 8 + 8 + 16 * n = k + 16 * (n + 1) by omega]
theorem faR_no (b : List UInt8) (s : Nat) (hs : s ≤ b.length) : ∀ (n k : Nat), s + k ≤ b.length → ¬ s + k + 16 * n ≤ b.length → (faR (b.drop s) n k false).2.2 = true
  | 0, k, h0, h => absurd h0 h
  | n + 1, k, h0, h => by
    rw [faR, if_neg (by decide)]
    by_cases h1 : s + k + 8 ≤ b.length
    · rw [numR_yes (by rw [show wideN 8 = 8 from rfl]; omega)]
      simp only [show wideN 8 = 8 from rfl]
      by_cases h2 : s + (k + 8) + 8 ≤ b.length
      · rw [numR_yes (by rw [show wideN 8 = 8 from rfl]; omega)]
        simp only [show wideN 8 = 8 from rfl]
        exact faR_no b s hs n (k + 8 + 8) (by omega) (by omega)
      · rw [numR_no hs (by rw [show wideN 8 = 8 from rfl]; omega)]
        simp only
        rw [faR_bad]
    · rw [numR_no hs (by rw [show wideN 8 = 8 from rfl]; omega)]
      simp only
      rw [numR_bad]
      simp only
      rw [faR_bad]
theorem numsQ_yes {b : List UInt8} {a n : Nat} (h : a + 8 * n ≤ b.length) : numsQ b (a : Nat) n = (zsQ b (a : Nat) n, ((a + 8 * n : Nat) : Int), true) := by
  unfold numsQ
  rw [if_neg]
  · rw [show (a : Int) + 8 * (n : Nat) = ((a + 8 * n : Nat) : Int) by omega]
  · rw [Int.tdiv_eq_ediv_of_nonneg (by omega)]; omega
theorem numsQ_no {b : List UInt8} {a n : Nat} (h0 : a ≤ b.length) (h : ¬ a + 8 * n ≤ b.length) : numsQ b (a : Nat) n = ([], 0, false) := by
  unfold numsQ
  rw [if_pos]
  rw [Int.tdiv_eq_ediv_of_nonneg (by omega)]; omega
theorem crashR_bad {l : List UInt8} {n : Nat} (hn : (numR l 0 false 2).1 = n) (h : (faR l n (numR l 0 false 2).2.1 (numR l 0 false 2).2.2).2.2 = true) : (crashR l 0 false).2.2.2 = true := by
  unfold crashR
  simp only [hn, Int.toNat_natCast, h, numR_bad]
  rw [fuR_bad]
/-- The way of six. -/
theorem six_law (b : List UInt8) (s : Nat) (hs : s ≤ b.length) : sixQ b (s : Nat) = (if (crashR (b.drop s) 0 false).2.2.2 = true then (zeroA, 0, 12)
    else (⟨6, zeroCm, 0, 0, 0, (crashR (b.drop s) 0 false).1, (crashR (b.drop s) 0 false).2.1⟩, (b.length : Int) - (((b.drop s).length : Int) - (crashR (b.drop s) 0 false).2.2.1), 0)) := by
  have w2' : wideN 2 = 2 := rfl
  have bad : ∀ {P : Prop} [Decidable P] {x : Ac × Int × Int}, ¬ P → (if P then x else (zeroA, (0 : Int), (12 : Int))) = (zeroA, 0, 12) := fun h => if_neg h
  by_cases h1 : s + 2 ≤ b.length
  case neg =>
    have n1 : numR (b.drop s) 0 false 2 = (0, 0, true) := numR_no hs (by rw [w2']; omega)
    have cb := crashR_bad (l := b.drop s) (n := 0) (by rw [n1]; rfl) (by rw [n1]; rfl)
    refine Eq.trans ?_ (if_pos cb).symm
    unfold sixQ
    rw [getOk_not (by rw [w2']; omega)]
    exact bad (fun h => by cases h.1)
  obtain ⟨n, hn, hn2⟩ := getZ2 b ((s : Nat) : Int)
  have n1 : numR (b.drop s) 0 false 2 = ((n : Int), 2, false) := by rw [numR_yes (by rw [w2']; omega)]; simp only [Nat.add_zero, hn]; rfl
  have e2 : ((s : Nat) : Int) + 2 = ((s + 2 : Nat) : Int) := by omega
  have u1 : sixQ b (s : Nat) = (if getOk b (s : Nat) 2 = true ∧ (numsQ b ((s + 2 : Nat) : Int) (2 * n)).2.2 = true ∧ getOk b (numsQ b ((s + 2 : Nat) : Int) (2 * n)).2.1 2 = true ∧ (numsQ b ((numsQ b ((s + 2 : Nat) : Int) (2 * n)).2.1 + 2) (getZ b (numsQ b ((s + 2 : Nat) : Int) (2 * n)).2.1 2).toNat).2.2 = true
      then (⟨6, zeroCm, 0, 0, 0, fatesOf (numsQ b ((s + 2 : Nat) : Int) (2 * n)).1 n, (numsQ b ((numsQ b ((s + 2 : Nat) : Int) (2 * n)).2.1 + 2) (getZ b (numsQ b ((s + 2 : Nat) : Int) (2 * n)).2.1 2).toNat).1⟩, (numsQ b ((numsQ b ((s + 2 : Nat) : Int) (2 * n)).2.1 + 2) (getZ b (numsQ b ((s + 2 : Nat) : Int) (2 * n)).2.1 2).toNat).2.1, 0) else (zeroA, 0, 12)) := by
    unfold sixQ
    rw [hn, e2, Int.toNat_natCast]
  rw [u1]
  by_cases h2 : s + 2 + 16 * n ≤ b.length
  case neg =>
    have cb := crashR_bad (l := b.drop s) (n := n) (by rw [n1]) (by rw [n1]; exact faR_no b s hs n 2 (by omega) (by omega))
    refine Eq.trans ?_ (if_pos cb).symm
    rw [numsQ_no (by omega) (by omega)]
    exact bad (fun h => by cases h.2.1)
  have n2 := faR_yes b s n 2 (by omega)
  rw [numsQ_yes (a := s + 2) (n := 2 * n) (by omega)]
  dsimp only
  rw [show s + 2 + 8 * (2 * n) = s + (2 + 16 * n) by omega]
  by_cases h3 : s + (2 + 16 * n) + 2 ≤ b.length
  case neg =>
    have n3 : numR (b.drop s) (2 + 16 * n) false 2 = (0, 2 + 16 * n, true) := numR_no hs (by rw [w2']; omega)
    have cb : (crashR (b.drop s) 0 false).2.2.2 = true := by unfold crashR; simp only [n1, Int.toNat_natCast, n2, n3]; rw [fuR_bad]
    refine Eq.trans ?_ (if_pos cb).symm
    rw [getOk_not (k := s + (2 + 16 * n)) (by rw [w2']; omega)]
    exact bad (fun h => by cases h.2.2.1)
  obtain ⟨m, hm, hm2⟩ := getZ2 b ((s + (2 + 16 * n) : Nat) : Int)
  have n3 : numR (b.drop s) (2 + 16 * n) false 2 = ((m : Int), 2 + 16 * n + 2, false) := by rw [numR_yes (by rw [w2']; omega), hm]; rfl
  rw [hm, Int.toNat_natCast, show ((s + (2 + 16 * n) : Nat) : Int) + 2 = ((s + (2 + 16 * n + 2) : Nat) : Int) by omega]
  by_cases h4 : s + (2 + 16 * n + 2) + 8 * m ≤ b.length
  case neg =>
    have n4 := fuR_no b s hs m (2 + 16 * n + 2) (by omega) (by omega)
    have cb : (crashR (b.drop s) 0 false).2.2.2 = true := by unfold crashR; simp only [n1, Int.toNat_natCast, n2, n3]; exact n4
    refine Eq.trans ?_ (if_pos cb).symm
    rw [numsQ_no (by omega) (by omega)]
    exact bad (fun h => by cases h.2.2.2)
  have n4 := fuR_yes b s m (2 + 16 * n + 2) (by omega)
  have cr : crashR (b.drop s) 0 false = (fatesOf (zsQ b ((s + 2 : Nat) : Int) (2 * n)) n, zsQ b ((s + (2 + 16 * n + 2) : Nat) : Int) m, 2 + 16 * n + 2 + 8 * m, false) := by
    unfold crashR
    simp only [n1, Int.toNat_natCast, n2, n3, n4]
  rw [cr, numsQ_yes h4, if_pos ⟨getOk_yes (by rw [w2']; omega), rfl, getOk_yes (by rw [w2']; omega), rfl⟩, if_neg (by simp), List.length_drop]
  dsimp only
  rw [show (b.length : Int) - (((b.length - s : Nat) : Int) - ((2 + 16 * n + 2 + 8 * m : Nat) : Int)) = ((s + (2 + 16 * n + 2) + 8 * m : Nat) : Int) by omega]
theorem restA_4 (t : List UInt8) : restA t 4 = (⟨4, zeroCm, (numR t 0 false 8).1, (numR t (numR t 0 false 8).2.1 (numR t 0 false 8).2.2 8).1, 0, [], []⟩, (numR t (numR t 0 false 8).2.1 (numR t 0 false 8).2.2 8).2) := rfl
theorem restA_o {t : List UInt8} {d : Int} (h4 : d ≠ 4) (h5 : d ≠ 5) (h6 : d ≠ 6) : restA t d = (⟨d, zeroCm, 0, 0, 0, [], []⟩, 0, false) := by unfold restA; rw [if_neg h4, if_neg h5, if_neg h6]
/-- Both read one act alike. -/
theorem one_law (b : List UInt8) (a : Nat) (ha : a < b.length) : oneQ b a = oneP b a := by
  have w8' : wideN 8 = 8 := rfl
  unfold oneQ oneP
  by_cases h6 : 6 < byteA b a
  · rw [if_pos h6, if_pos h6]
  rw [if_neg h6, if_neg h6]
  by_cases h0 : byteA b a = 0
  · rw [if_pos h0, if_pos h0, getP_refP]
  rw [if_neg h0, if_neg h0]
  have hl : (b.drop (a + 1)).length = b.length - (a + 1) := List.length_drop
  generalize hs : a + 1 = s at *
  have hs1 : s ≤ b.length := by omega
  by_cases h66 : byteA b a = 6
  · rw [if_pos h66, h66, restA_6]
    exact six_law b s hs1
  rw [if_neg h66]
  by_cases h4 : byteA b a = 4
  · rw [if_pos h4, h4, restA_4]
    by_cases c1 : s + 8 * 2 ≤ b.length
    · rw [numsQ_yes c1, if_pos rfl, numR_yes (by rw [w8']; omega)]
      dsimp only [w8']
      rw [numR_yes (by rw [w8']; omega)]
      dsimp only [w8']
      rw [if_neg (by simp), hl, zsQ_cons, zsQ_cons]
      refine Prod.ext rfl (Prod.ext ?_ rfl)
      show ((s + 8 * 2 : Nat) : Int) = (b.length : Int) - (((b.length - s : Nat) : Int) - ((0 + 8 + 8 : Nat) : Int))
      omega
    · rw [numsQ_no hs1 c1, if_neg (by simp)]
      by_cases c2 : s + 0 + 8 ≤ b.length
      · rw [numR_yes (by rw [w8']; omega)]
        dsimp only [w8']
        rw [numR_no hs1 (by rw [w8']; omega)]
        rfl
      · rw [numR_no hs1 (by rw [w8']; omega)]
        dsimp only
        rw [numR_bad]
        rfl
  rw [if_neg h4]
  by_cases h5 : byteA b a = 5
  · rw [if_pos h5, h5, restA_5]
    by_cases c1 : s + 8 * 1 ≤ b.length
    · rw [numsQ_yes c1, if_pos rfl, numR_yes (by rw [w8']; omega)]
      dsimp only [w8']
      rw [if_neg (by simp), hl, zsQ_cons]
      refine Prod.ext rfl (Prod.ext ?_ rfl)
      show ((s + 8 * 1 : Nat) : Int) = (b.length : Int) - (((b.length - s : Nat) : Int) - ((0 + 8 : Nat) : Int))
      omega
    · rw [numsQ_no hs1 c1, if_neg (by simp), numR_no hs1 (by rw [w8']; omega)]
      rfl
  rw [if_neg h5, restA_o h4 h5 h66, numsQ_yes (by omega), if_pos rfl, if_neg (by simp), hl]
  refine Prod.ext rfl (Prod.ext ?_ rfl)
  show ((s + 8 * 0 : Nat) : Int) = (b.length : Int) - (((b.length - s : Nat) : Int) - ((0 : Nat) : Int))
  omega
end Go.Proofs.Ythkgchlndfcmpaa
namespace Go.Proofs.Ythkgchlndfcmpaa
open Go.RowKit
set_option maxRecDepth 100000
set_option linter.unusedVariables false

theorem refL_known {l : List UInt8} (h : (refL l).2.2 = 0) : knownC (refL l).1.do_ = true := by
  have b0 := byteZ_bd l 0
  unfold refL at h ⊢
  by_cases h0 : l.length = 0
  · rw [if_pos h0] at h; cases h
  rw [if_neg h0] at h ⊢
  by_cases h3 : 3 < byteZ l 0
  · rw [if_pos h3] at h; cases h
  rw [if_neg h3] at h ⊢
  by_cases hz : byteZ l 0 = 0
  · rw [if_pos hz]; rfl
  rw [if_neg hz] at h ⊢
  by_cases h1 : l.length = 1
  · rw [if_pos h1] at h; cases h
  rw [if_neg h1] at h ⊢
  by_cases h4 : 1 < byteZ l 1
  · rw [if_pos h4] at h; cases h
  rw [if_neg h4] at h ⊢
  generalize decide (byteZ l 1 = 1) = loc at *
  unfold refRest at h ⊢
  split at h
  · rename_i h2
    rw [if_pos h2]
    split at h
    · cases h
    rename_i h5
    rw [if_neg h5]
    split at h
    · cases h
    rename_i h6
    rw [if_neg h6]
    rfl
  · rename_i h2
    rw [if_neg h2]
    split at h
    · rename_i h5
      rw [if_pos h5]
      split at h
      · cases h
      rename_i h6
      rw [if_neg h6]
      rfl
    · rename_i h5
      rw [if_neg h5]
      split at h
      · cases h
      rename_i h6
      rw [if_neg h6]
      rfl
theorem fuse_wire (b : List UInt8) : ∀ (n a : Nat), a + 8 * n ≤ b.length → (zsQ b (a : Nat) n).flatMap fuseB = pieceOf b a (8 * n)
  | 0, a, _ => rfl
  | n + 1, a, h => by
    rw [zsQ_cons, List.flatMap_cons, fuse_wire b n (a + 8) (by omega), show 8 * (n + 1) = 8 + 8 * n by omega, piece_join]
    unfold fuseB
    rw [wire (width := 8) w8 (by omega)]
theorem fate_wire (b : List UInt8) : ∀ (n a : Nat), a + 16 * n ≤ b.length → (fatesOf (zsQ b (a : Nat) (2 * n)) n).flatMap fateB = pieceOf b a (16 * n)
  | 0, a, _ => rfl
  | n + 1, a, h => by
    rw [show 2 * (n + 1) = 2 * n + 1 + 1 by omega, zsQ_cons, zsQ_cons, fatesOf_cons, List.flatMap_cons, fate_wire b n (a + 8 + 8) (by omega), show 16 * (n + 1) = 8 + (8 + 16 * n) by omega, piece_join, piece_join]
    unfold fateB
    dsimp only
    rw [wire (width := 8) w8 (by omega), wire (width := 8) w8 (by omega), List.append_assoc]
/-- What an act that was read is good for. -/
def GoodA (x : Ac) : Prop := rightA x = true ∧ x.c.l.length ≤ 64 ∧ x.fa.length ≤ 65535 ∧ x.fu.length ≤ 65535
theorem right_o {d : Int} (r f n : Int) (h0 : 1 ≤ d) (h6 : d ≤ 6) : GoodA ⟨d, zeroCm, r, f, n, [], []⟩ := by
  refine ⟨?_, Nat.zero_le _, Nat.zero_le _, Nat.zero_le _⟩
  unfold rightA
  rw [decide_eq_true (by exact ⟨⟨by show 0 ≤ d; omega, h6⟩, Nat.zero_le _, Nat.zero_le _⟩), Bool.true_and, Bool.or_eq_true]
  exact .inl (decide_eq_true (by show d ≠ 0; omega))
theorem one_bytes {b : List UInt8} {a : Nat} (ha : a < b.length) (h : (oneQ b a).2.2 = 0) :
    GoodA (oneQ b a).1 ∧ ∃ k : Nat, (oneQ b a).2.1 = ((a + k : Nat) : Int) ∧ 0 < k ∧ a + k ≤ b.length ∧ oneB (oneQ b a).1 = pieceOf b a k := by
  have hd0 : (0 : Int) ≤ byteA b a := by unfold byteA; omega
  have hb : leB (word (byteA b a)) 1 = pieceOf b a 1 := byte_wire ha
  unfold oneQ at h ⊢
  by_cases h6 : 6 < byteA b a
  · rw [if_pos h6] at h; cases h
  rw [if_neg h6] at h ⊢
  by_cases h0 : byteA b a = 0
  · rw [if_pos h0] at h ⊢
    dsimp only at h ⊢
    obtain ⟨e0, e1, e2, e3, e4⟩ := bytes_refP h
    have kn : knownC (refP b ((a + 1 : Nat) : Int)).1.do_ = true := by
      unfold refP at h ⊢
      split at h
      · cases h
      rename_i hat
      rw [if_neg hat]
      split at h
      · rename_i h2; exact absurd h h2
      rename_i h2
      rw [if_neg h2]
      exact refL_known (Classical.not_not.1 h2)
    refine ⟨⟨?_, e4, Nat.zero_le _, Nat.zero_le _⟩, ?_⟩
    · unfold rightA
      rw [decide_eq_true (by exact ⟨⟨Int.le_refl _, by show (0 : Int) ≤ 6; decide⟩, Nat.zero_le _, Nat.zero_le _⟩), Bool.true_and, Bool.or_eq_true, Bool.and_eq_true]
      exact .inr ⟨kn, decide_eq_true e4⟩
    · generalize refP b ((a + 1 : Nat) : Int) = r at *
      obtain ⟨k, hk⟩ : ∃ k : Nat, r.2.1 = ((a + 1 + k : Nat) : Int) := ⟨(r.2.1 - ((a + 1 : Nat) : Int)).toNat, by omega⟩
      refine ⟨1 + k, by rw [hk]; congr 1; omega, by omega, by omega, ?_⟩
      rw [piece_join]
      unfold oneB
      rw [tailA_eq, if_pos rfl]
      dsimp only
      rw [e3, ← hb, h0, Int.toNat_natCast, hk, show (((a + 1 + k : Nat) : Int) - ((a + 1 : Nat) : Int)).toNat = k by omega]
      rfl
  rw [if_neg h0] at h ⊢
  by_cases h66 : byteA b a = 6
  · rw [if_pos h66] at h ⊢
    have hs1 : a + 1 ≤ b.length := ha
    rw [h66] at hb
    generalize hs : a + 1 = s at *
    obtain ⟨n, hn, hn2⟩ := getZ2 b ((s : Nat) : Int)
    obtain ⟨m, hm, hm2⟩ := getZ2 b (numsQ b ((s : Int) + 2) (2 * n)).2.1
    unfold sixQ at h ⊢
    simp only [hn, Int.toNat_natCast, hm] at h ⊢
    split at h
    case isFalse => cases h
    rename_i hc
    rw [if_pos hc]
    obtain ⟨c0, c1, c2, c3⟩ := hc
    have d0 := getOk_iff.1 c0
    rw [w2] at d0
    rw [show (s : Int) + 2 = ((s + 2 : Nat) : Int) by omega] at *
    have d1 : s + 2 + 8 * (2 * n) ≤ b.length := by
      by_cases hx : s + 2 + 8 * (2 * n) ≤ b.length
      · exact hx
      · rw [numsQ_no d0 hx] at c1; cases c1
    rw [numsQ_yes d1] at *
    dsimp only at *
    have d2 := getOk_iff.1 c2
    rw [w2] at d2
    rw [show ((s + 2 + 8 * (2 * n) : Nat) : Int) + 2 = ((s + 2 + 8 * (2 * n) + 2 : Nat) : Int) by omega] at *
    have d3 : s + 2 + 8 * (2 * n) + 2 + 8 * m ≤ b.length := by
      by_cases hx : s + 2 + 8 * (2 * n) + 2 + 8 * m ≤ b.length
      · exact hx
      · rw [numsQ_no d2 hx] at c3; cases c3
    rw [numsQ_yes d3]
    dsimp only
    have fl : (fatesOf (zsQ b ((s + 2 : Nat) : Int) (2 * n)) n).length = n := fatesOf_len _ _
    have ul : (zsQ b ((s + 2 + 8 * (2 * n) + 2 : Nat) : Int) m).length = m := zsQ_len _ _ _
    refine ⟨⟨?_, Nat.zero_le _, by rw [fl]; exact hn2, by rw [ul]; exact hm2⟩, 1 + (2 + (16 * n + (2 + 8 * m))), by congr 1; omega, by omega, by omega, ?_⟩
    · unfold rightA
      dsimp only
      rw [fl, ul, decide_eq_true (by exact ⟨⟨by decide, by decide⟩, hn2, hm2⟩)]
      rfl
    · unfold oneB
      rw [tailA_eq]
      dsimp only
      rw [if_neg (by decide), if_neg (by decide), if_neg (by decide), if_pos rfl]
      rw [fatesB_all, fusesB_all, fl, ul, hb, fate_wire b n (s + 2) (by omega), fuse_wire b m _ d3, ← hn, ← hm, wire (width := 2) w2 d0, wire (width := 2) w2 d2]
      rw [piece_join, piece_join, piece_join, piece_join, hs, show s + 2 + 8 * (2 * n) = s + 2 + 16 * n by omega]
      simp only [List.append_assoc]
  rw [if_neg h66] at h ⊢
  by_cases h4 : byteA b a = 4
  · rw [if_pos h4] at h ⊢
    have hs1 : a + 1 ≤ b.length := ha
    rw [h4] at hb
    generalize hs : a + 1 = s at *
    split at h
    case isFalse => cases h
    rename_i hc
    rw [if_pos hc]
    have d1 : s + 8 * 2 ≤ b.length := by
      by_cases hx : s + 8 * 2 ≤ b.length
      · exact hx
      · rw [numsQ_no hs1 hx] at hc; cases hc
    rw [numsQ_yes d1, zsQ_cons, zsQ_cons]
    refine ⟨right_o _ _ _ (by decide) (by decide), 1 + (8 + 8), by show ((s + 8 * 2 : Nat) : Int) = _; congr 1; omega, by omega, by omega, ?_⟩
    unfold oneB
    rw [tailA_eq]
    dsimp only
    rw [if_neg (by decide), if_pos rfl]
    show leB (word 4) 1 ++ (leB (word (getZ b (s : Nat) 8)) 8 ++ leB (word (getZ b ((s + 8 : Nat) : Int) 8)) 8) = _
    rw [hb, wire (width := 8) w8 (by omega), wire (width := 8) w8 (by omega), piece_join, piece_join, hs]
  rw [if_neg h4] at h ⊢
  by_cases h5 : byteA b a = 5
  · rw [if_pos h5] at h ⊢
    have hs1 : a + 1 ≤ b.length := ha
    rw [h5] at hb
    generalize hs : a + 1 = s at *
    split at h
    case isFalse => cases h
    rename_i hc
    rw [if_pos hc]
    have d1 : s + 8 * 1 ≤ b.length := by
      by_cases hx : s + 8 * 1 ≤ b.length
      · exact hx
      · rw [numsQ_no hs1 hx] at hc; cases hc
    rw [numsQ_yes d1, zsQ_cons]
    refine ⟨right_o _ _ _ (by decide) (by decide), 1 + 8, by show ((s + 8 * 1 : Nat) : Int) = _; congr 1; omega, by omega, by omega, ?_⟩
    unfold oneB
    rw [tailA_eq]
    dsimp only
    rw [if_neg (by decide), if_neg (by decide), if_pos rfl]
    show leB (word 5) 1 ++ leB (word (getZ b (s : Nat) 8)) 8 = _
    rw [hb, wire (width := 8) w8 (by omega), piece_join, hs]
  rw [if_neg h5] at h ⊢
  have hs1 : a + 1 ≤ b.length := ha
  generalize hs : a + 1 = s at *
  rw [numsQ_yes (by omega), if_pos rfl]
  refine ⟨right_o _ _ _ (by omega) (by omega), 1, by show ((s + 8 * 0 : Nat) : Int) = _; congr 1; omega, by omega, by omega, ?_⟩
  unfold oneB
  rw [tailA_eq, if_neg h0, if_neg h4, if_neg h5, if_neg h66]
  dsimp only
  rw [hb, List.append_nil]
theorem gets_bytes (b : List UInt8) : ∀ (f a : Nat) (acc r : List Ac), a ≤ b.length → getsP b f (a : Nat) acc = (r, 0) → ∃ l, r = acc ++ l ∧ l.flatMap gB = b.drop a ∧ ∀ x ∈ l, GoodA x
  | 0, a, acc, r, _, h => by cases h
  | f + 1, a, acc, r, ha, h => by
    rw [getsP] at h
    by_cases he : (a : Int) = b.length
    · rw [if_pos he] at h
      injection h with h _
      exact ⟨[], by rw [List.append_nil, h], by rw [List.drop_eq_nil_of_le (by omega)]; rfl, fun x hx => by simp at hx⟩
    · rw [if_neg he, Int.toNat_natCast] at h
      have ha2 : a < b.length := by omega
      rw [← one_law b a ha2] at h
      split at h
      · rename_i h2
        injection h with _ h
        exact absurd h h2
      · rename_i h2
        obtain ⟨hg, k, e1, e2, e3, e4⟩ := one_bytes ha2 (Classical.not_not.1 h2)
        rw [e1] at h
        obtain ⟨l, h3, h4, h5⟩ := gets_bytes b f (a + k) _ r e3 h
        refine ⟨(oneQ b a).1 :: l, by rw [h3, List.append_assoc]; rfl, ?_, fun x hx => ?_⟩
        · rw [List.flatMap_cons, h4, show gB (oneQ b a).1 = oneB (oneQ b a).1 from if_pos hg.1, e4]
          unfold pieceOf
          rw [← List.drop_drop, List.take_append_drop]
        · rcases List.mem_cons.1 hx with rfl | hx
          · exact hg
          · exact h5 x hx
theorem gets_err (b : List UInt8) : ∀ (f : Nat) (a : Int) (acc : List Ac), (getsP b f a acc).2 ≠ 0 → (getsP b f a acc).1 = []
  | 0, a, acc, _ => rfl
  | f + 1, a, acc, h => by
    rw [getsP] at h ⊢
    split at h
    · exact absurd rfl h
    · rename_i h2
      rw [if_neg h2]
      split at h
      · rename_i h3
        rw [if_pos h3]
      · rename_i h3
        rw [if_neg h3]
        exact gets_err b f _ _ h
/-- Of whole bytes. -/
theorem gets_all (b : List UInt8) : (∀ x ∈ (getsP b (b.length + 1) 0 []).1, GoodA x) ∧ ((getsP b (b.length + 1) 0 []).2 = 0 → putsB (getsP b (b.length + 1) 0 []).1 (getsP b (b.length + 1) 0 []).1.length = b) := by
  by_cases h : (getsP b (b.length + 1) 0 []).2 = 0
  · obtain ⟨l, h1, h2, h3⟩ := gets_bytes b (b.length + 1) 0 [] (getsP b (b.length + 1) 0 []).1 (Nat.zero_le _) (Prod.ext rfl h)
    rw [List.nil_append] at h1
    rw [h1, putsB_all, h2]
    exact ⟨h3, fun _ => rfl⟩
  · rw [gets_err b _ _ _ h]
    exact ⟨fun x hx => by simp at hx, fun h2 => absurd h2 h⟩
theorem putsB_pre (l : List Ac) (k : Nat) : (putsB l k).length ≤ (putsB l l.length).length := by
  rw [putsB_all]
  have e : l.flatMap gB = (l.take k).flatMap gB ++ (l.drop k).flatMap gB := by rw [← List.flatMap_append, List.take_append_drop]
  rw [e, List.length_append]
  show ((l.take k).flatMap gB).length ≤ _
  omega
end Go.Proofs.Ythkgchlndfcmpaa

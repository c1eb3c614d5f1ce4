/- The records of a log's sectors: plain definitions. No program in sight. -/
import Derived.Test.YtfjgbnnjfapcmaaComp1
import Derived.Test.YtfjgbnnjfapcmaaSeal4
import Derived.Test.YtfjgbnnjfapcmaaLePl
import Derived.Test.YtfjgbnnjfapcmaaFrm3
namespace Go.Proofs.Ytfjgbnnjfapcmaa
open Go.RowKit
set_option maxRecDepth 100000
set_option linter.unusedVariables false

/-- The greatest epoch. -/
def topsZ : List (List UInt8) → Int
  | [] => 0
  | s :: l => max (topZ s) (topsZ l)
/-- The greatest epoch of the first k. -/
def topTo (l : List (List UInt8)) (k : Nat) : Int := ((l.take k).map topZ).foldl max 0
theorem topTo_zero (l : List (List UInt8)) : topTo l 0 = 0 := by simp [topTo]
theorem topTo_next {l : List (List UInt8)} {k : Nat} (h : k < l.length) : topTo l (k + 1) = max (topTo l k) (topZ (l.getD k [])) := by
  unfold topTo
  rw [List.take_add_one, List.getElem?_eq_getElem h, List.map_append, List.foldl_append, List.getD_eq_getElem?_getD, List.getElem?_eq_getElem h]
  rfl
/-- The sector of a place. -/
def sctAt (c : Cf) (l : List (List UInt8)) (lsn : Int) : List UInt8 := l.getD (lsn % c.log).toNat []
def placeB (c : Cf) (l : List (List UInt8)) (lsn : Int) : Bool := rightB c && (decide ((l.length : Int) = c.log) && decide (0 ≤ lsn ∧ lsn ≤ 281474976710656))
def hasB (c : Cf) (l : List (List UInt8)) (lsn : Int) : Bool := placeB c l lsn && (okS (sctAt c l lsn) && (decide ((valOf (sctAt c l lsn)).kd = 1) && decide ((valOf (sctAt c l lsn)).no = lsn)))
def hasF (c : Cf) (l : List (List UInt8)) (lsn : Int) : SV := if hasB c l lsn = true then valOf (sctAt c l lsn) else zeroS
/-- The bodies of n places. -/
def pcs (c : Cf) (l : List (List UInt8)) (lsn : Int) (n : Nat) : List (List UInt8) := (List.range n).map fun i => (hasF c l (lsn + (i : Nat))).bd
theorem pcs_next (c : Cf) (l : List (List UInt8)) (lsn : Int) (n : Nat) : pcs c l lsn (n + 1) = pcs c l lsn n ++ [(hasF c l (lsn + (n : Nat))).bd] := by
  unfold pcs; rw [List.range_succ, List.map_append]; rfl
theorem pcs_len (c : Cf) (l : List (List UInt8)) (lsn : Int) (n : Nat) : (pcs c l lsn n).length = n := by simp [pcs]
theorem pcs_one (c : Cf) (l : List (List UInt8)) (lsn : Int) : pcs c l lsn 1 = [(hasF c l lsn).bd] := by
  rw [pcs_next]; simp [pcs]
/-- Are n places of that epoch there? -/
def allTo (c : Cf) (l : List (List UInt8)) (lsn : Int) (n : Nat) : Prop := ∀ i : Nat, i < n → hasB c l (lsn + i) = true ∧ (hasF c l (lsn + i)).ep = (hasF c l lsn).ep
instance (c : Cf) (l : List (List UInt8)) (lsn : Int) (n : Nat) : Decidable (allTo c l lsn n) := inferInstanceAs (Decidable (∀ i : Nat, i < n → _))
theorem allTo_zero (c : Cf) (l : List (List UInt8)) (lsn : Int) : allTo c l lsn 0 := fun i h => absurd h (by omega)
theorem allTo_next {c : Cf} {l : List (List UInt8)} {lsn : Int} {n : Nat} (h : allTo c l lsn n) (h1 : hasB c l (lsn + n) = true) (h2 : (hasF c l (lsn + n)).ep = (hasF c l lsn).ep) : allTo c l lsn (n + 1) := fun i hi => by
  by_cases e : i = n
  · subst e; exact ⟨h1, h2⟩
  · exact h i (by omega)
theorem allTo_one {c : Cf} {l : List (List UInt8)} {lsn : Int} (h : hasB c l lsn = true) : allTo c l lsn 1 := fun i hi => by
  obtain rfl : i = 0 := by omega
  rw [Int.natCast_zero, Int.add_zero]; exact ⟨h, rfl⟩
/-- May a record begin here, by what the first seal says? -/
def startB (c : Cf) (l : List (List UInt8)) (lsn ep sq most : Int) : Bool :=
  hasB c l lsn && (decide (ep ≤ (hasF c l lsn).ep) && (headOk (hasF c l lsn).bd && (decide (hPlace (hasF c l lsn).bd = 0) && (decide (hSeq (hasF c l lsn).bd = sq) && decide ((hCount (hasF c l lsn).bd : Int) ≤ most)))))
def cntF (c : Cf) (l : List (List UInt8)) (lsn : Int) : Nat := hCount (hasF c l lsn).bd
def recF (c : Cf) (l : List (List UInt8)) (lsn : Int) : List UInt8 := joinB (pcs c l lsn (cntF c l lsn))
def recB (c : Cf) (l : List (List UInt8)) (lsn ep sq most : Int) : Bool :=
  startB c l lsn ep sq most && (decide (allTo c l lsn (cntF c l lsn)) && (joinOk (pcs c l lsn (cntF c l lsn)) && decide ((getFr (recF c l lsn)).2 = 0)))
theorem recB_iff {c : Cf} {l : List (List UInt8)} {lsn ep sq most : Int} : recB c l lsn ep sq most = true ↔ startB c l lsn ep sq most = true ∧ allTo c l lsn (cntF c l lsn) ∧ joinOk (pcs c l lsn (cntF c l lsn)) = true ∧ (getFr (recF c l lsn)).2 = 0 := by
  unfold recB; rw [Bool.and_eq_true, Bool.and_eq_true, Bool.and_eq_true, decide_eq_true_iff, decide_eq_true_iff]
theorem startB_iff {c : Cf} {l : List (List UInt8)} {lsn ep sq most : Int} : startB c l lsn ep sq most = true ↔ hasB c l lsn = true ∧ ep ≤ (hasF c l lsn).ep ∧ headOk (hasF c l lsn).bd = true ∧ hPlace (hasF c l lsn).bd = 0 ∧ hSeq (hasF c l lsn).bd = sq ∧ (hCount (hasF c l lsn).bd : Int) ≤ most := by
  unfold startB; rw [Bool.and_eq_true, Bool.and_eq_true, Bool.and_eq_true, Bool.and_eq_true, Bool.and_eq_true, decide_eq_true_iff, decide_eq_true_iff, decide_eq_true_iff, decide_eq_true_iff]
theorem placeB_iff {c : Cf} {l : List (List UInt8)} {lsn : Int} : placeB c l lsn = true ↔ rightB c = true ∧ (l.length : Int) = c.log ∧ 0 ≤ lsn ∧ lsn ≤ 281474976710656 := by
  unfold placeB; rw [Bool.and_eq_true, Bool.and_eq_true, decide_eq_true_iff, decide_eq_true_iff]
theorem hasB_iff {c : Cf} {l : List (List UInt8)} {lsn : Int} : hasB c l lsn = true ↔ placeB c l lsn = true ∧ okS (sctAt c l lsn) = true ∧ (valOf (sctAt c l lsn)).kd = 1 ∧ (valOf (sctAt c l lsn)).no = lsn := by
  unfold hasB; rw [Bool.and_eq_true, Bool.and_eq_true, Bool.and_eq_true, decide_eq_true_iff, decide_eq_true_iff]
theorem hasF_yes {c : Cf} {l : List (List UInt8)} {lsn : Int} (h : hasB c l lsn = true) : hasF c l lsn = valOf (sctAt c l lsn) := if_pos h
theorem hasF_no {c : Cf} {l : List (List UInt8)} {lsn : Int} (h : hasB c l lsn = false) : hasF c l lsn = zeroS := if_neg (by rw [h]; exact Bool.false_ne_true)
theorem hasF_bd (c : Cf) (l : List (List UInt8)) (lsn : Int) : (hasF c l lsn).bd.length ≤ 472 := by
  unfold hasF
  split
  · show (pieceOf _ _ _).length ≤ 472
    unfold pieceOf; rw [List.length_take]; omega
  · exact Nat.zero_le _
theorem joinB_le {R : List (List UInt8)} {m : Nat} (h : ∀ r ∈ R, r.length ≤ m) : (joinB R).length ≤ m * R.length := by
  induction R with
  | nil => simp [joinB]
  | cons a R ih =>
    have h1 := h a (.head _)
    have h2 := ih (fun r hr => h r (.tail _ hr))
    rw [List.length_cons, Nat.mul_succ]
    have : joinB (a :: R) = a.drop 12 ++ joinB R := rfl
    rw [this, List.length_append, List.length_drop]; omega
theorem pcs_le {c : Cf} {l : List (List UInt8)} {lsn : Int} {n : Nat} : ∀ r ∈ pcs c l lsn n, r.length ≤ 472 := fun r hr => by
  obtain ⟨i, _, rfl⟩ := List.mem_map.1 hr
  exact hasF_bd _ _ _
theorem hCount_lt (p : List UInt8) : hCount p < 65536 :=
  Nat.lt_of_lt_of_le (getN_lt _) (Nat.le_trans (Nat.pow_le_pow_right (by decide) (List.length_take_le _ _)) (by decide))
theorem join_pcs_le (c : Cf) (l : List (List UInt8)) (lsn : Int) (n : Nat) : (joinB (pcs c l lsn n)).length ≤ 472 * n := by
  have := joinB_le (pcs_le (c := c) (l := l) (lsn := lsn) (n := n)); rwa [pcs_len] at this
/-- What is told of records: they, and what comes next. -/
structure Tl where
  recs : List (List UInt8)
  lsn : Int
  ep : Int
  sq : Int
def scanN (c : Cf) (l : List (List UInt8)) (hd : Int) : Nat → Int → Int → Int → Tl
  | 0, lsn, ep, sq => ⟨[], lsn, ep, sq⟩
  | n + 1, lsn, ep, sq => if recB c l lsn ep sq (c.log - (lsn - hd)) = true then
      ⟨recF c l lsn :: (scanN c l hd n (lsn + cntF c l lsn) (hasF c l lsn).ep (sq + 1)).recs, (scanN c l hd n (lsn + cntF c l lsn) (hasF c l lsn).ep (sq + 1)).lsn, (scanN c l hd n (lsn + cntF c l lsn) (hasF c l lsn).ep (sq + 1)).ep, (scanN c l hd n (lsn + cntF c l lsn) (hasF c l lsn).ep (sq + 1)).sq⟩
    else ⟨[], lsn, ep, sq⟩
/-- What stands behind records that were told. -/
def Tl.after (R : List (List UInt8)) (t : Tl) : Tl := ⟨R ++ t.recs, t.lsn, t.ep, t.sq⟩
theorem Tl.after_nil (t : Tl) : Tl.after [] t = t := rfl
/-- What stands from a state on: enough fuel is the rest of the log. -/
def fromF (c : Cf) (l : List (List UInt8)) (hd lsn ep sq : Int) : Tl := scanN c l hd (c.log - (lsn - hd)).toNat lsn ep sq
def scanF (c : Cf) (l : List (List UInt8)) (hd ep sq : Int) : Tl := fromF c l hd hd ep sq
theorem one_most {c : Cf} {l : List (List UInt8)} {lsn ep sq most : Int} (h : recB c l lsn ep sq most = true) : 1 ≤ cntF c l lsn ∧ cntF c l lsn ≤ 1024 ∧ (cntF c l lsn : Int) ≤ most ∧ hSeq (hasF c l lsn).bd = sq ∧ 0 ≤ sq ∧ sq ≤ 281474976710656 ∧ hasB c l lsn = true ∧ 0 ≤ lsn ∧ lsn ≤ 281474976710656 := by
  obtain ⟨h1, -, -, -⟩ := recB_iff.1 h
  obtain ⟨a1, a2, a3, a4, a5, a6⟩ := startB_iff.1 h1
  obtain ⟨b1, -, -, -⟩ := hasB_iff.1 a1
  obtain ⟨-, -, b2, b3⟩ := placeB_iff.1 b1
  have a3 := of_decide_eq_true a3
  unfold cntF
  exact ⟨a3.2.2.1, a3.2.2.2.1, a6, a5, by rw [← a5]; exact a3.2.2.2.2.2.1, by rw [← a5]; exact a3.2.2.2.2.2.2, a1, b2, b3⟩
theorem scanN_more {c : Cf} {l : List (List UInt8)} {hd : Int} : ∀ {n m : Nat} {lsn ep sq : Int}, (c.log - (lsn - hd)).toNat ≤ n → n ≤ m → scanN c l hd n lsn ep sq = scanN c l hd m lsn ep sq
  | 0, 0, _, _, _, _, _ => rfl
  | 0, m + 1, lsn, ep, sq, h, _ => by
    rw [scanN, scanN, if_neg]
    intro h2
    have := one_most h2; omega
  | n + 1, m + 1, lsn, ep, sq, h, hm => by
    rw [scanN, scanN]
    by_cases h2 : recB c l lsn ep sq (c.log - (lsn - hd)) = true
    · have := one_most h2
      rw [if_pos h2, if_pos h2, scanN_more (n := n) (m := m) (by omega) (by omega)]
    · rw [if_neg h2, if_neg h2]
theorem from_stop {c : Cf} {l : List (List UInt8)} {hd lsn ep sq : Int} (h : recB c l lsn ep sq (c.log - (lsn - hd)) = false) : fromF c l hd lsn ep sq = ⟨[], lsn, ep, sq⟩ := by
  unfold fromF
  cases (c.log - (lsn - hd)).toNat with
  | zero => rfl
  | succ n => rw [scanN, if_neg (by rw [h]; exact Bool.false_ne_true)]
theorem from_go {c : Cf} {l : List (List UInt8)} {hd lsn ep sq : Int} (h : recB c l lsn ep sq (c.log - (lsn - hd)) = true) : fromF c l hd lsn ep sq = Tl.after [recF c l lsn] (fromF c l hd (lsn + cntF c l lsn) (hasF c l lsn).ep (sq + 1)) := by
  have h1 := one_most h
  unfold fromF
  obtain ⟨n, hn⟩ : ∃ n, (c.log - (lsn - hd)).toNat = n + 1 := ⟨(c.log - (lsn - hd)).toNat - 1, by omega⟩
  rw [hn, scanN, if_pos h, scanN_more (n := (c.log - ((lsn + cntF c l lsn) - hd)).toNat) (m := n) (Nat.le_refl _) (by omega)]
  rfl
/-- A record behind others that were told. -/
theorem after_go {c : Cf} {l : List (List UInt8)} {hd lsn ep sq : Int} {R : List (List UInt8)} (h : recB c l lsn ep sq (c.log - (lsn - hd)) = true) : Tl.after R (fromF c l hd lsn ep sq) = Tl.after (R ++ [recF c l lsn]) (fromF c l hd (lsn + cntF c l lsn) (hasF c l lsn).ep (sq + 1)) := by
  rw [from_go h]; unfold Tl.after; rw [List.append_assoc]
end Go.Proofs.Ytfjgbnnjfapcmaa
namespace Go.Proofs.Ytfjgbnnjfapcmaa
open Go.RowKit
set_option maxRecDepth 100000
set_option linter.unusedVariables false

/-- The sectors of a record. -/
def sealedF (ep lsn sq : Int) (b : List UInt8) : List (List UInt8) := (List.range (splitL sq b).length).map fun i => sealB ⟨ep, lsn + (i : Nat), 1, (splitL sq b).getD i []⟩
theorem sealedF_len (ep lsn sq : Int) (b : List UInt8) : (sealedF ep lsn sq b).length = (splitL sq b).length := by simp [sealedF]
theorem sealedF_at {ep lsn sq : Int} {b : List UInt8} {i : Nat} (h : i < (splitL sq b).length) : (sealedF ep lsn sq b).getD i [] = sealB ⟨ep, lsn + (i : Nat), 1, (splitL sq b).getD i []⟩ := by
  rw [List.getD_eq_getElem?_getD, sealedF, List.getElem?_map, List.getElem?_range h]; rfl
/-- The sectors of records, one behind the other. -/
def secsF (ep : Int) : Int → Int → List (List UInt8) → List (List UInt8)
  | _, _, [] => []
  | lsn, sq, b :: R => sealedF ep lsn sq b ++ secsF ep (lsn + (splitL sq b).length) (sq + 1) R
theorem secsF_snoc (ep : Int) : ∀ (R : List (List UInt8)) (lsn sq : Int) (b : List UInt8), secsF ep lsn sq (R ++ [b]) = secsF ep lsn sq R ++ sealedF ep (lsn + (secsF ep lsn sq R).length) (sq + R.length) b
  | [], lsn, sq, b => by simp [secsF]
  | a :: R, lsn, sq, b => by
    rw [List.cons_append, secsF, secsF_snoc ep R, secsF, List.append_assoc, List.length_append, sealedF_len, List.length_cons]
    congr 3 <;> omega
/-- How much of the i-th comes through. -/
def tearAt (T : List Int) (i : Nat) : Int := if i < T.length then T.getD i 0 else 64
def plc (c : Cf) (lsn : Int) : Nat := (lsn % c.log).toNat
/-- Sectors laid over others, from a place on. -/
def laidTo (c : Cf) (l : List (List UInt8)) (lsn : Int) (S : List (List UInt8)) (T : List Int) : Nat → List (List UInt8)
  | 0 => l
  | n + 1 => (laidTo c l lsn S T n).set (plc c (lsn + (n : Nat))) (tearB ((laidTo c l lsn S T n).getD (plc c (lsn + (n : Nat))) []) (S.getD n []) (tearAt T n))
def laidF (c : Cf) (l : List (List UInt8)) (lsn : Int) (S : List (List UInt8)) (T : List Int) : List (List UInt8) := laidTo c l lsn S T S.length
theorem laidTo_len (c : Cf) (l : List (List UInt8)) (lsn : Int) (S : List (List UInt8)) (T : List Int) : ∀ n, (laidTo c l lsn S T n).length = l.length
  | 0 => rfl
  | n + 1 => by rw [laidTo, List.length_set, laidTo_len c l lsn S T n]
/-- Did all of a record come through? -/
def cameAll (c : Cf) (g : List (List UInt8)) (ep lsn sq : Int) (b : List UInt8) : Prop := ∀ k : Nat, k < (sealedF ep lsn sq b).length → sctAt c g (lsn + (k : Nat)) = (sealedF ep lsn sq b).getD k []
instance (c : Cf) (g : List (List UInt8)) (ep lsn sq : Int) (b : List UInt8) : Decidable (cameAll c g ep lsn sq b) := inferInstanceAs (Decidable (∀ k : Nat, k < _ → _))
def cameN (c : Cf) (g : List (List UInt8)) (ep : Int) : Int → Int → List (List UInt8) → Nat
  | _, _, [] => 0
  | lsn, sq, b :: R => if cameAll c g ep lsn sq b then cameN c g ep (lsn + (splitL sq b).length) (sq + 1) R + 1 else 0
theorem cameN_le (c : Cf) (g : List (List UInt8)) (ep : Int) : ∀ (R : List (List UInt8)) (lsn sq : Int), cameN c g ep lsn sq R ≤ R.length
  | [], _, _ => Nat.le_refl _
  | b :: R, lsn, sq => by
    rw [cameN]; split
    · have := cameN_le c g ep R (lsn + (splitL sq b).length) (sq + 1); rw [List.length_cons]; omega
    · omega

/-- Two places of one sector. -/
theorem mod_inj {g a b : Int} (hg : 0 < g) (h : a % g = b % g) (h1 : a - b < g) (h2 : b - a < g) : a = b := by
  have h3 : (a - b) % g = 0 := Int.emod_eq_emod_iff_emod_sub_eq_zero.1 h
  obtain ⟨q, hq⟩ := Int.dvd_of_emod_eq_zero h3
  have : q = 0 := by
    rcases Int.lt_trichotomy q 0 with hq2 | hq2 | hq2
    · have : g * q ≤ g * (-1) := Int.mul_le_mul_of_nonneg_left (by omega) (by omega)
      omega
    · exact hq2
    · have : g * 1 ≤ g * q := Int.mul_le_mul_of_nonneg_left (by omega) (by omega)
      omega
  rw [this, Int.mul_zero] at hq
  omega
theorem plc_lt {c : Cf} {lsn : Int} {n : Nat} (hn : (n : Int) = c.log) (h0 : 0 < c.log) : plc c lsn < n := by
  have h1 := Int.emod_nonneg lsn (show c.log ≠ 0 by omega)
  have h2 := Int.emod_lt_of_pos lsn h0
  unfold plc; omega
theorem plc_inj {c : Cf} {a b : Int} (h0 : 0 < c.log) (h : plc c a = plc c b) (h1 : a - b < c.log) (h2 : b - a < c.log) : a = b := by
  have e1 := Int.emod_nonneg a (show c.log ≠ 0 by omega)
  have e2 := Int.emod_nonneg b (show c.log ≠ 0 by omega)
  exact mod_inj h0 (by unfold plc at h; omega) h1 h2
theorem sctAt_plc (c : Cf) (l : List (List UInt8)) (p : Int) : sctAt c l p = l.getD (plc c p) [] := rfl
section
variable {c : Cf} {l S : List (List UInt8)} {lsn : Int} {T : List Int}
/-- What lies elsewhere is as it was. -/
theorem laid_else {p : Int} : ∀ {n : Nat}, (∀ j : Nat, j < n → plc c (lsn + (j : Nat)) ≠ plc c p) → sctAt c (laidTo c l lsn S T n) p = sctAt c l p
  | 0, _ => rfl
  | n + 1, h => by
    rw [laidTo, sctAt_plc, List.getD_eq_getElem?_getD, List.getElem?_set, if_neg (h n (by omega)), ← List.getD_eq_getElem?_getD]
    exact laid_else (n := n) (fun j hj => h j (by omega))
theorem laid_here (h0 : 0 < c.log) (hl : (l.length : Int) = c.log) {j : Nat} : ∀ {n : Nat}, (n : Int) ≤ c.log → j < n → sctAt c (laidTo c l lsn S T n) (lsn + (j : Nat)) = tearB (sctAt c l (lsn + (j : Nat))) (S.getD j []) (tearAt T j)
  | n + 1, hn, hj => by
    have hlt : plc c (lsn + (n : Nat)) < (laidTo c l lsn S T n).length := by rw [laidTo_len]; exact plc_lt hl h0
    by_cases e : j = n
    · subst e
      rw [laidTo, sctAt_plc, List.getD_eq_getElem?_getD, List.getElem?_set, if_pos rfl, if_pos hlt]
      show tearB _ _ _ = _
      rw [← sctAt_plc, laid_else (p := lsn + (j : Nat)) (fun i hi h => by have := plc_inj h0 h (by omega) (by omega); omega)]
    · rw [laidTo, sctAt_plc, List.getD_eq_getElem?_getD, List.getElem?_set, if_neg (fun h => by have := plc_inj h0 h (by omega) (by omega); omega), ← List.getD_eq_getElem?_getD]
      exact laid_here h0 hl (n := n) (by omega) (by omega)
end
/-- A record rests on its own sectors alone. -/
theorem has_congr {c : Cf} {l g : List (List UInt8)} {p : Int} (hl : g.length = l.length) (h : sctAt c g p = sctAt c l p) : hasB c g p = hasB c l p ∧ hasF c g p = hasF c l p := by
  have h1 : hasB c g p = hasB c l p := by unfold hasB placeB; rw [hl, h]
  exact ⟨h1, by unfold hasF; rw [h1, h]⟩
theorem pcs_congr {c : Cf} {l g : List (List UInt8)} {p : Int} {n : Nat} (hl : g.length = l.length) (h : ∀ i : Nat, i < n → sctAt c g (p + (i : Nat)) = sctAt c l (p + (i : Nat))) : pcs c g p n = pcs c l p n := by
  unfold pcs
  apply List.map_congr_left
  intro i hi
  rw [(has_congr hl (h i (List.mem_range.1 hi))).2]
theorem rec_congr {c : Cf} {l g : List (List UInt8)} {p ep sq most : Int} (hl : g.length = l.length) (h : ∀ i : Nat, i < cntF c l p → sctAt c g (p + (i : Nat)) = sctAt c l (p + (i : Nat))) (hr : recB c l p ep sq most = true) :
    recB c g p ep sq most = true ∧ cntF c g p = cntF c l p ∧ recF c g p = recF c l p ∧ hasF c g p = hasF c l p := by
  have h1 := (one_most hr).1
  have h0 := h 0 (by omega)
  rw [Int.natCast_zero, Int.add_zero] at h0
  obtain ⟨a1, a2⟩ := has_congr hl h0
  have a3 : cntF c g p = cntF c l p := by unfold cntF; rw [a2]
  have a4 : pcs c g p (cntF c l p) = pcs c l p (cntF c l p) := pcs_congr hl h
  have a5 : recF c g p = recF c l p := by unfold recF; rw [a3, a4]
  refine ⟨?_, a3, a5, a2⟩
  rw [recB_iff] at hr ⊢
  obtain ⟨b1, b2, b3, b4⟩ := hr
  refine ⟨?_, fun i hi => ?_, by rw [a3, a4]; exact b3, by rw [a5]; exact b4⟩
  · rw [startB_iff] at b1 ⊢
    rw [a1, a2]; exact b1
  · rw [a3] at hi
    obtain ⟨c1, c2⟩ := has_congr hl (h i hi)
    rw [c1, c2, a2]; exact b2 i hi
theorem from_mono {c : Cf} {l : List (List UInt8)} {hd : Int} : ∀ (n : Nat) {lsn ep sq : Int}, (c.log - (lsn - hd)).toNat ≤ n →
    lsn ≤ (fromF c l hd lsn ep sq).lsn ∧ ((fromF c l hd lsn ep sq).lsn ≤ hd + c.log ∨ (fromF c l hd lsn ep sq).lsn = lsn) ∧ (fromF c l hd lsn ep sq).sq = sq + (fromF c l hd lsn ep sq).recs.length ∧
      recB c l (fromF c l hd lsn ep sq).lsn (fromF c l hd lsn ep sq).ep (fromF c l hd lsn ep sq).sq (c.log - ((fromF c l hd lsn ep sq).lsn - hd)) = false ∧ ((fromF c l hd lsn ep sq).recs.length : Int) ≤ (fromF c l hd lsn ep sq).lsn - lsn
  | n, lsn, ep, sq, hn => by
    by_cases h : recB c l lsn ep sq (c.log - (lsn - hd)) = true
    · have h1 := one_most h
      obtain ⟨m, rfl⟩ : ∃ m, n = m + 1 := ⟨n - 1, by omega⟩
      have ih := from_mono (c := c) (l := l) (hd := hd) m (lsn := lsn + cntF c l lsn) (ep := (hasF c l lsn).ep) (sq := sq + 1) (by omega)
      rw [from_go h]
      obtain ⟨i1, i2, i3, i4, i5⟩ := ih
      refine ⟨?_, ?_, ?_, i4, ?_⟩
      · show lsn ≤ (fromF c l hd _ _ _).lsn; omega
      · show (fromF c l hd _ _ _).lsn ≤ _ ∨ (fromF c l hd _ _ _).lsn = lsn; omega
      · show (fromF c l hd _ _ _).sq = sq + (([recF c l lsn] ++ (fromF c l hd (lsn + cntF c l lsn) (hasF c l lsn).ep (sq + 1)).recs).length : Nat)
        rw [i3, List.length_append, List.length_singleton]; omega
      · show (([recF c l lsn] ++ (fromF c l hd (lsn + cntF c l lsn) (hasF c l lsn).ep (sq + 1)).recs).length : Int) ≤ _
        rw [List.length_append, List.length_singleton]
        show _ ≤ (fromF c l hd _ _ _).lsn - lsn
        omega
    · have h2 : recB c l lsn ep sq (c.log - (lsn - hd)) = false := by simpa using h
      rw [from_stop h2]
      exact ⟨Int.le_refl _, .inr rfl, by simp, h2, by simp⟩
/-- What is told first is told of any log that has the same there. -/
theorem from_ahead {c : Cf} {l g : List (List UInt8)} {hd : Int} (hl : g.length = l.length) : ∀ (n : Nat) {lsn ep sq : Int}, (c.log - (lsn - hd)).toNat ≤ n →
    (∀ p, lsn ≤ p → p < (fromF c l hd lsn ep sq).lsn → sctAt c g p = sctAt c l p) →
    fromF c g hd lsn ep sq = Tl.after (fromF c l hd lsn ep sq).recs (fromF c g hd (fromF c l hd lsn ep sq).lsn (fromF c l hd lsn ep sq).ep (fromF c l hd lsn ep sq).sq)
  | n, lsn, ep, sq, hn, h => by
    by_cases hr : recB c l lsn ep sq (c.log - (lsn - hd)) = true
    · have h1 := one_most hr
      obtain ⟨m, rfl⟩ : ∃ m, n = m + 1 := ⟨n - 1, by omega⟩
      have hm := from_mono (c := c) (l := l) (hd := hd) m (lsn := lsn + cntF c l lsn) (ep := (hasF c l lsn).ep) (sq := sq + 1) (by omega)
      have e := from_go hr
      have e2 : (fromF c l hd lsn ep sq).lsn = (fromF c l hd (lsn + cntF c l lsn) (hasF c l lsn).ep (sq + 1)).lsn := by rw [e]; rfl
      obtain ⟨g1, g2, g3, g4⟩ := rec_congr (g := g) hl (fun i hi => h _ (by omega) (by rw [e2]; omega)) hr
      have ih := from_ahead (c := c) (l := l) (g := g) (hd := hd) hl m (lsn := lsn + cntF c l lsn) (ep := (hasF c l lsn).ep) (sq := sq + 1) (by omega) (fun p hp hp2 => h p (by omega) (by rw [e2]; exact hp2))
      rw [from_go g1, g2, g3, g4, ih, e]
      unfold Tl.after
      rw [List.append_assoc]
    · have h2 : recB c l lsn ep sq (c.log - (lsn - hd)) = false := by simpa using hr
      rw [from_stop h2]; rfl
/-- A seal that is one: its epoch is none above the greatest. -/
theorem ok_top {s : List UInt8} (h : okS s = true) : (valOf s).ep ≤ topZ s := by
  obtain ⟨h1, h2⟩ := okS_iff.1 h
  have h3 := (epochs_sealB (valOf s)).1
  have h4 : valOf s = nearS (valOf s) := by
    have := valOf_sealB (valOf s); rw [h2] at this; exact this
  have h5 : (valOf s).ep = (nearN (valOf s).ep 281474976710656 : Nat) := congrArg SV.ep h4
  rw [h2] at h3
  unfold topZ
  rw [h3, ← h5]; omega
theorem epoch_le (s : List UInt8) : epochZ s 0 ≤ topZ s ∧ epochZ s 504 ≤ topZ s ∧ 0 ≤ topZ s := by unfold topZ; omega
/-- What stays of a sector: all of it, nothing of it, or no seal. -/
theorem tear_cases {W : List UInt8} {x : SV} {k : Int} {m : Nat} (hW : W.length = 512) (hm : (nearN x.ep 281474976710656 : Int) = m) (ht : topZ W < m) : tearB W (sealB x) k = sealB x ∨ tearB W (sealB x) k = W ∨ okS (tearB W (sealB x) k) = false := by
  by_cases h : k < -63 ∨ 63 < k
  · exact .inl (tear_whole hW (sealB_len x) h)
  by_cases h0 : k = 0
  · subst h0; exact .inr (.inl rfl)
  · have := epoch_le W
    exact .inr (.inr (torn_not hW (by rw [top_sealB]; omega) (by rw [top_sealB]; omega) h0 (by omega) (by omega)))
theorem hdr_piece {sq n i : Nat} {b : List UInt8} (hs : sq ≤ 281474976710656) (hn : need b.length = n) (h2 : n ≤ 1024) (hi : i < n) :
    (pieces sq b n).getD i [] = hdrB i n sq ++ chunk b i ∧ (hdrB i n sq ++ chunk b i).length ≤ 472 := by
  rw [List.getD_eq_getElem?_getD, pieces_at hi]
  exact ⟨rfl, by rw [List.length_append, hdrB_len, chunk_len]; omega⟩
/-- A sector of a record, as it was laid. -/
theorem has_laid {c : Cf} {g : List (List UInt8)} {m : Nat} {p : Int} {bd : List UInt8} (hp : placeB c g p = true) (hm : m ≤ 281474976710656) (hb : bd.length ≤ 472) (h : sctAt c g p = sealB ⟨m, p, 1, bd⟩) : hasB c g p = true ∧ hasF c g p = ⟨m, p, 1, bd⟩ := by
  obtain ⟨-, -, p0, p1⟩ := placeB_iff.1 hp
  obtain ⟨q, rfl⟩ : ∃ q : Nat, p = q := ⟨p.toNat, by omega⟩
  have hv : valOf (sctAt c g q) = ⟨m, q, 1, bd⟩ := by
    rw [h, show sealB ⟨(m : Int), (q : Int), 1, bd⟩ = seal0 m q 1 bd from sealB_id hm (by omega) (by decide) hb]
    exact valOf_seal0 hm (by omega) (by decide) hb
  have hb2 : hasB c g q = true := hasB_iff.2 ⟨hp, by rw [h]; exact okS_sealB _, by rw [hv], by rw [hv]⟩
  exact ⟨hb2, by rw [hasF_yes hb2, hv]⟩
/-- A record all of whose sectors lie there is told. -/
theorem told {c : Cf} {g : List (List UInt8)} {m sq n : Nat} {lsn ep most : Int} {b : List UInt8} (hm : m ≤ 281474976710656) (hs48 : sq ≤ 281474976710656) (hn : need b.length = n) (hn1 : n ≤ 1024) (hg : (getFr b).2 = 0)
    (hpl : ∀ i : Nat, i < n → placeB c g (lsn + (i : Nat)) = true) (hc : ∀ i : Nat, i < n → sctAt c g (lsn + (i : Nat)) = sealB ⟨m, lsn + (i : Nat), 1, hdrB i n sq ++ chunk b i⟩) (he : ep ≤ m) (hmost : (n : Int) ≤ most) :
    recB c g lsn ep sq most = true ∧ cntF c g lsn = n ∧ recF c g lsn = b ∧ (hasF c g lsn).ep = m := by
  obtain ⟨n1, n2, n3⟩ := need_bd hn
  have bdl : ∀ i, i < n → (hdrB i n sq ++ chunk b i).length ≤ 472 := fun i hi => (hdr_piece hs48 hn hn1 hi).2
  have hfld : ∀ i, i < n → hPlace (hdrB i n sq ++ chunk b i) = i ∧ hCount (hdrB i n sq ++ chunk b i) = n ∧ hSeq (hdrB i n sq ++ chunk b i) = sq := fun i hi => hdr_fields _ (by omega) (by omega) hs48
  have hhead : headOk (hdrB 0 n sq ++ chunk b 0) = true := (okAt_iff.1 ((pieces_ok hs48 hn hn1).2 0 _ (pieces_at (by omega)))).1
  have hall : ∀ i : Nat, i < n → hasB c g (lsn + (i : Nat)) = true ∧ hasF c g (lsn + (i : Nat)) = ⟨m, lsn + (i : Nat), 1, hdrB i n sq ++ chunk b i⟩ := fun i hi => has_laid (hpl i hi) hm (bdl i hi) (hc i hi)
  have a0 := hall 0 (by omega)
  rw [Int.natCast_zero, Int.add_zero] at a0
  have hcnt : cntF c g lsn = n := by unfold cntF; rw [a0.2]; exact (hfld 0 (by omega)).2.1
  have hp : pcs c g lsn n = pieces sq b n := by
    unfold pcs pieces
    apply List.map_congr_left
    intro i hi
    rw [(hall i (List.mem_range.1 hi)).2]
  have hrec : recF c g lsn = b := by unfold recF; rw [hcnt, hp]; exact joinB_pieces _ _ _ n2
  have hep : (hasF c g lsn).ep = m := by rw [a0.2]
  refine ⟨recB_iff.2 ⟨startB_iff.2 ⟨a0.1, by rw [hep]; exact he, by rw [a0.2]; exact hhead, by rw [a0.2]; exact (hfld 0 (by omega)).1, by rw [a0.2]; exact (hfld 0 (by omega)).2.2, ?_⟩, fun i hi => ?_, ?_, by rw [hrec]; exact hg⟩, hcnt, hrec, hep⟩
  · have : hCount (hasF c g lsn).bd = n := hcnt
    rw [this]; exact hmost
  · rw [hcnt] at hi
    exact ⟨(hall i hi).1, by rw [(hall i hi).2, hep]⟩
  · rw [hcnt, hp]; exact joinOk_pieces hs48 hn hn1
section
variable {c : Cf} {l g : List (List UInt8)} {hd : Int} {m : Nat} {κ : Int → Int}
/-- The log as it was, and as it is. -/
structure Grn (c : Cf) (l g : List (List UInt8)) (hd : Int) (m : Nat) : Prop where
  right : rightB c = true
  len : (l.length : Int) = c.log
  len2 : g.length = l.length
  full : ∀ s ∈ l, s.length = 512
  tops : ∀ s ∈ l, topZ s < m
  small : m ≤ 281474976710656
  hd0 : 0 ≤ hd
  hd1 : hd + c.log ≤ 281474976710656
theorem Grn.log (h : Grn c l g hd m) : 2 ≤ c.log := ((of_decide_eq_true h.right).1.1).1
theorem Grn.mem (h : Grn c l g hd m) (p : Int) : sctAt c l p ∈ l := by
  have := plc_lt (lsn := p) h.len (by have := h.log; omega)
  rw [sctAt_plc, List.getD_eq_getElem?_getD, List.getElem?_eq_getElem this]
  exact List.getElem_mem _
theorem Grn.place (h : Grn c l g hd m) {p : Int} (h0 : hd ≤ p) (h1 : p ≤ hd + c.log) : placeB c g p = true :=
  placeB_iff.2 ⟨h.right, by rw [h.len2]; exact h.len, by have := h.hd0; omega, by have := h.hd1; omega⟩
/-- An old seal has an old epoch. -/
theorem Grn.old (h : Grn c l g hd m) {p : Int} (hs : sctAt c g p = sctAt c l p) (hb : hasB c g p = true) : (hasF c g p).ep < m := by
  obtain ⟨-, h2, -, -⟩ := hasB_iff.1 hb
  rw [hasF_yes hb, hs]
  rw [hs] at h2
  have := ok_top h2
  have := h.tops _ (h.mem p)
  omega
/-- A place that was written: the new sector, the old one, or none. -/
theorem Grn.at_ (h : Grn c l g hd m) {p : Int} {bd : List UInt8} (h0 : hd ≤ p) (h1 : p ≤ hd + c.log) (hbd : bd.length ≤ 472) (hs : sctAt c g p = tearB (sctAt c l p) (sealB ⟨m, p, 1, bd⟩) (κ p)) :
    (sctAt c g p = sealB ⟨m, p, 1, bd⟩ ∧ hasB c g p = true ∧ hasF c g p = ⟨m, p, 1, bd⟩) ∨ sctAt c g p = sctAt c l p ∨ hasB c g p = false := by
  have hm : (nearN (m : Int) 281474976710656 : Int) = m := by rw [nearN_id h.small]
  rcases tear_cases (x := ⟨m, p, 1, bd⟩) (k := κ p) (h.full _ (h.mem p)) hm (h.tops _ (h.mem p)) with e | e | e
  · rw [e] at hs
    exact .inl ⟨hs, has_laid (h.place h0 h1) h.small hbd hs⟩
  · rw [e] at hs
    exact .inr (.inl hs)
  · rw [← hs] at e
    exact .inr (.inr (by unfold hasB; rw [e]; simp))
/-- What a record's sectors are, one by one. -/
theorem sealed_one {sq n i : Nat} {b : List UInt8} {p : Int} (hs : sq ≤ 281474976710656) (hn : need b.length = n) (h2 : n ≤ 1024) (hi : i < n) :
    (sealedF m p sq b).getD i [] = sealB ⟨m, p + (i : Nat), 1, hdrB i n sq ++ chunk b i⟩ := by
  have e : splitL (sq : Int) b = pieces sq b n := splitL_of hs hn h2
  rw [sealedF_at (by rw [e, pieces_len]; exact hi), e, (hdr_piece hs hn h2 hi).1]
/-- Each of the sectors is a seal of its place. -/
theorem secs_form : ∀ (R : List (List UInt8)) (lsn : Int) (sq : Nat) (b : List UInt8), (∀ x ∈ b :: R, need x.length ≤ 1024) → sq + R.length + 1 ≤ 281474976710656 → ∀ {i : Nat}, i < (secsF m lsn sq (b :: R)).length →
    ∃ (q : Unit) (bd : List UInt8), (secsF m lsn sq (b :: R)).getD i [] = sealB ⟨m, lsn + (i : Nat), 1, bd⟩ ∧ bd.length ≤ 472
  | R, lsn, sq, b, hR, hsq, i, hi => by
    obtain ⟨n, hn⟩ : ∃ n, need b.length = n := ⟨_, rfl⟩
    have hn1 : n ≤ 1024 := by rw [← hn]; exact hR b (List.mem_cons_self ..)
    have hs48 : sq ≤ 281474976710656 := by omega
    have hlen : (splitL (sq : Int) b).length = n := by rw [splitL_of hs48 hn hn1, pieces_len]
    have hslen : (sealedF m lsn sq b).length = n := by rw [sealedF_len, hlen]
    have esec : secsF m lsn sq (b :: R) = sealedF m lsn sq b ++ secsF m (lsn + (n : Nat)) (sq + 1 : Nat) R := by rw [secsF, hlen]; rfl
    rw [esec] at hi ⊢
    rw [List.length_append, hslen] at hi
    rcases Nat.lt_or_ge i n with h1 | h1
    · exact ⟨(), _, by rw [List.getD_eq_getElem?_getD, List.getElem?_append_left (by omega), ← List.getD_eq_getElem?_getD, sealed_one hs48 hn hn1 h1], (hdr_piece hs48 hn hn1 h1).2⟩
    · rw [List.getD_eq_getElem?_getD, List.getElem?_append_right (by omega), hslen, ← List.getD_eq_getElem?_getD]
      match R, hR, hsq, hi with
      | [], _, _, hi => exact absurd hi (by simp [secsF]; omega)
      | a :: R, hR, hsq, hi =>
        rw [List.length_cons] at hsq
        obtain ⟨q, bd, e1, e2⟩ := secs_form R (lsn + (n : Nat)) (sq + 1) a (fun x hx => hR x (List.mem_cons_of_mem _ hx)) (by omega) (i := i - n) (by omega)
        exact ⟨q, bd, by rw [e1, show lsn + (n : Nat) + ((i - n : Nat) : Int) = lsn + (i : Nat) by omega], e2⟩
theorem behind (h : Grn c l g hd m) : ∀ (R : List (List UInt8)) (lsn ep : Int) (sq : Nat),
    (∀ b ∈ R, need b.length ≤ 1024 ∧ (getFr b).2 = 0) → sq + R.length ≤ 281474976710656 → hd ≤ lsn → lsn + (secsF m lsn sq R).length ≤ hd + c.log →
    (∀ j : Nat, j < (secsF m lsn sq R).length → sctAt c g (lsn + (j : Nat)) = tearB (sctAt c l (lsn + (j : Nat))) ((secsF m lsn sq R).getD j []) (κ (lsn + (j : Nat)))) →
    (∀ p, lsn + (secsF m lsn sq R).length ≤ p → p < hd + c.log → sctAt c g p = sctAt c l p) →
    ep ≤ m → (ep = m ∨ recB c l lsn ep sq (c.log - (lsn - hd)) = false) →
    (fromF c g hd lsn ep sq).recs = R.take (cameN c g m lsn sq R) ∧ (fromF c g hd lsn ep sq).sq = sq + cameN c g m lsn sq R ∧ (cameN c g m lsn sq R = 0 ∨ (fromF c g hd lsn ep sq).ep = m)
  | [], lsn, ep, sq, hR, hsq, h0, h1, hj, hb, he, hs => by
    have hno : recB c g lsn ep sq (c.log - (lsn - hd)) = false := by
      rw [Bool.eq_false_iff]
      intro hr
      have ho := one_most hr
      have hbe : ∀ i : Nat, i < cntF c g lsn → sctAt c l (lsn + (i : Nat)) = sctAt c g (lsn + (i : Nat)) := fun i hi => (hb _ (by simp [secsF]; omega) (by omega)).symm
      rcases hs with rfl | hs
      · have e0 := hbe 0 (by omega)
        rw [Int.natCast_zero, Int.add_zero] at e0
        have := h.old e0.symm ho.2.2.2.2.2.2.1
        have := (startB_iff.1 (recB_iff.1 hr).1).2.1
        omega
      · rw [(rec_congr h.len2.symm hbe hr).1] at hs
        cases hs
    rw [from_stop hno]
    exact ⟨rfl, by simp [cameN], .inl rfl⟩
  | b :: R, lsn, ep, sq, hR, hsq, h0, h1, hj, hb, he, hs => by
    obtain ⟨hn1, hg⟩ := hR b (List.mem_cons_self ..)
    obtain ⟨n, hn⟩ : ∃ n, need b.length = n := ⟨_, rfl⟩
    rw [hn] at hn1
    rw [List.length_cons] at hsq
    have hs48 : sq ≤ 281474976710656 := by omega
    have hsp : splitL (sq : Int) b = pieces sq b n := splitL_of hs48 hn hn1
    have hlen : (splitL (sq : Int) b).length = n := by rw [hsp, pieces_len]
    have hslen : (sealedF m lsn sq b).length = n := by rw [sealedF_len, hlen]
    obtain ⟨n1, n2, n3⟩ := need_bd hn
    have esec : secsF m lsn sq (b :: R) = sealedF m lsn sq b ++ secsF m (lsn + (n : Nat)) (sq + 1 : Nat) R := by rw [secsF, hlen]; rfl
    have elen : (secsF m lsn sq (b :: R)).length = n + (secsF m (lsn + (n : Nat)) (sq + 1 : Nat) R).length := by rw [esec, List.length_append, hslen]
    have first : ∀ i : Nat, i < n → sctAt c g (lsn + (i : Nat)) = tearB (sctAt c l (lsn + (i : Nat))) (sealB ⟨m, lsn + (i : Nat), 1, hdrB i n sq ++ chunk b i⟩) (κ (lsn + (i : Nat))) := fun i hi => by
      rw [hj i (by omega), esec, List.getD_eq_getElem?_getD, List.getElem?_append_left (by omega), ← List.getD_eq_getElem?_getD, sealed_one hs48 hn hn1 hi]
    have bdl : ∀ i, i < n → (hdrB i n sq ++ chunk b i).length ≤ 472 := fun i hi => (hdr_piece hs48 hn hn1 hi).2
    have hfld : ∀ i, i < n → hPlace (hdrB i n sq ++ chunk b i) = i ∧ hCount (hdrB i n sq ++ chunk b i) = n ∧ hSeq (hdrB i n sq ++ chunk b i) = sq := fun i hi => hdr_fields _ (by omega) (by omega) hs48
    rw [elen] at h1 hb
    by_cases hc : cameAll c g m lsn sq b
    · -- all came through: it is told
      obtain ⟨hr, hcnt, hrec, hep⟩ := told (c := c) (g := g) (lsn := lsn) (ep := ep) (most := c.log - (lsn - hd)) h.small hs48 hn hn1 hg (fun i hi => h.place (by omega) (by omega))
        (fun i hi => by have e := hc i (by rw [hslen]; exact hi); rw [sealed_one hs48 hn hn1 hi] at e; exact e) he (by omega)
      have hcn : cameN c g m lsn sq (b :: R) = cameN c g m (lsn + (n : Nat)) (sq + 1 : Nat) R + 1 := by rw [cameN, if_pos hc, hlen]; rfl
      have ih := behind h R (lsn + (n : Nat)) m (sq + 1) (fun x hx => hR x (List.mem_cons_of_mem _ hx)) (by omega) (by omega) (by omega)
        (fun j hj2 => by
          have e := hj (n + j) (by omega)
          rw [show lsn + ((n + j : Nat) : Int) = lsn + (n : Nat) + (j : Nat) by omega] at e
          rw [e, esec, List.getD_eq_getElem?_getD, List.getElem?_append_right (by omega), hslen, show n + j - n = j by omega, ← List.getD_eq_getElem?_getD])
        (fun p hp1 hp2 => hb p (by omega) hp2) (Int.le_refl _) (.inl rfl)
      obtain ⟨i1, i2, i3⟩ := ih
      rw [from_go hr, hcnt, hrec, hep]
      rw [show ((sq : Nat) : Int) + 1 = ((sq + 1 : Nat) : Int) by omega, hcn]
      refine ⟨?_, ?_, .inr ?_⟩
      · show [b] ++ (fromF c g hd _ _ _).recs = _
        rw [i1]; rfl
      · show (fromF c g hd _ _ _).sq = _
        rw [i2]; omega
      · show (fromF c g hd _ _ _).ep = m
        rcases i3 with i3 | i3
        · have hstop : (fromF c g hd (lsn + (n : Nat)) m (sq + 1 : Nat)).recs = [] := by rw [i1, i3]; rfl
          by_cases hr2 : recB c g (lsn + (n : Nat)) m (sq + 1 : Nat) (c.log - ((lsn + (n : Nat)) - hd)) = true
          · rw [from_go hr2] at hstop
            exact absurd hstop (by unfold Tl.after; simp)
          · rw [from_stop (by simpa using hr2)]
        · exact i3
    · -- not all of it came through: nothing more is told
      have hno : recB c g lsn ep sq (c.log - (lsn - hd)) = false := by
        rw [Bool.eq_false_iff]
        intro hr
        have ho := one_most hr
        have hrr := recB_iff.1 hr
        have f0 := first 0 (by omega)
        rw [Int.natCast_zero, Int.add_zero] at f0
        rcases h.at_ (p := lsn) (by omega) (by omega) (bdl 0 (by omega)) f0 with ⟨-, -, e2⟩ | e1 | e1
        · -- the first one is new: so are all
          have hcnt : cntF c g lsn = n := by unfold cntF; rw [e2]; exact (hfld 0 (by omega)).2.1
          apply hc
          intro i hi
          rw [hslen] at hi
          rw [sealed_one hs48 hn hn1 hi]
          obtain ⟨b1, b2⟩ := hrr.2.1 i (by omega)
          rw [e2] at b2
          rcases h.at_ (p := lsn + (i : Nat)) (by omega) (by omega) (bdl i hi) (first i hi) with ⟨x1, -, -⟩ | x1 | x1
          · exact x1
          · have := h.old x1 b1
            have b2 : (hasF c g (lsn + (i : Nat))).ep = m := b2
            omega
          · rw [x1] at b1; cases b1
        · -- it is an old one
          have hold := h.old e1 ho.2.2.2.2.2.2.1
          have hepl := (startB_iff.1 hrr.1).2.1
          rcases hs with rfl | hs
          · omega
          have hbe : ∀ i : Nat, i < cntF c g lsn → sctAt c l (lsn + (i : Nat)) = sctAt c g (lsn + (i : Nat)) := fun i hi => by
            obtain ⟨b1, b2⟩ := hrr.2.1 i hi
            rcases Nat.lt_or_ge i (secsF m lsn sq (b :: R)).length with hlt | hge
            · have hjj := hj i hlt
              obtain ⟨q, bd, hq, hbd⟩ := secs_form R lsn sq b (fun x hx => (hR x hx).1) (by omega) hlt
              rw [hq] at hjj
              rcases h.at_ (p := lsn + (i : Nat)) (by omega) (by omega) hbd hjj with ⟨-, -, x2⟩ | x1 | x1
              · rw [x2] at b2
                have b2 : (m : Int) = (hasF c g lsn).ep := b2
                omega
              · exact x1.symm
              · rw [x1] at b1; cases b1
            · exact (hb _ (by omega) (by omega)).symm
          rw [(rec_congr h.len2.symm hbe hr).1] at hs
          cases hs
        · have := ho.2.2.2.2.2.2.1
          rw [e1] at this; cases this
      have hcn : cameN c g m lsn sq (b :: R) = 0 := by rw [cameN, if_neg hc]
      rw [from_stop hno, hcn]
      exact ⟨rfl, by simp, .inl rfl⟩
end
end Go.Proofs.Ytfjgbnnjfapcmaa
namespace Go.Proofs.Ytfjgbnnjfapcmaa
open Go.RowKit
set_option maxRecDepth 100000
set_option linter.unusedVariables false

def liveC : Cf := ⟨2, 4, 1, 1, []⟩
def liveR : List UInt8 := frameB []
def liveL : List (List UInt8) := sealedF 3 4 9 liveR ++ [List.replicate 512 0]
theorem liveR_len : liveR.length = 5 := by
  unfold liveR frameB fronB cmdsB
  simp [leB_len]
theorem liveR_get : (getFr liveR).2 = 0 := by
  unfold liveR
  rw [get_put [] (by rfl) (fun x hx => by simp at hx)]
theorem live_sealed : sealedF 3 4 9 liveR = [sealB ⟨3, 4, 1, hdrB 0 1 9 ++ chunk liveR 0⟩] := by
  have hn : need liveR.length = 1 := by rw [liveR_len]; rfl
  have e : splitL (9 : Int) liveR = pieces 9 liveR 1 := splitL_of (seq := 9) (by decide) hn (by decide)
  unfold sealedF
  rw [e]
  rfl
theorem live_right : rightB liveC = true := by
  unfold rightB liveC sizesOk
  refine decide_eq_true ⟨⟨by decide, by decide, by decide, by decide, by decide⟩, fun i hi => ?_⟩
  simp at hi
theorem live_scan : scanF liveC liveL 4 2 9 = ⟨[liveR], 5, 3, 10⟩ := by
  have hn : need liveR.length = 1 := by rw [liveR_len]; rfl
  have hL : liveL = [sealB ⟨3, 4, 1, hdrB 0 1 9 ++ chunk liveR 0⟩, List.replicate 512 0] := by unfold liveL; rw [live_sealed]; rfl
  have hp : ∀ p : Int, 0 ≤ p → p ≤ 281474976710656 → placeB liveC liveL p = true := fun p h0 h1 => placeB_iff.2 ⟨live_right, by rw [hL]; rfl, h0, h1⟩
  have s4 : sctAt liveC liveL 4 = sealB ⟨3, 4, 1, hdrB 0 1 9 ++ chunk liveR 0⟩ := by rw [hL]; rfl
  have s5 : sctAt liveC liveL 5 = List.replicate 512 0 := by rw [hL]; rfl
  obtain ⟨hr, hcnt, hrec, hep⟩ := told (c := liveC) (g := liveL) (m := 3) (sq := 9) (n := 1) (lsn := 4) (ep := 2) (most := liveC.log - (4 - 4)) (b := liveR) (by decide) (by decide) hn (by decide) liveR_get
    (fun i hi => hp _ (by omega) (by omega)) (fun i hi => by
      obtain rfl : i = 0 := by omega
      exact s4) (by decide) (by decide)
  have hno : hasB liveC liveL 5 = false := by
    rw [Bool.eq_false_iff]
    intro h
    have h2 := (hasB_iff.1 h).2.2.1
    rw [s5] at h2
    have : (valOf (List.replicate 512 0)).kd = ((kindN (List.replicate 512 0) : Nat) : Int) := rfl
    rw [this] at h2
    have h3 : kindN (List.replicate 512 0) = 0 := by unfold kindN pieceOf; rw [List.drop_replicate, List.take_replicate]; rfl
    rw [h3] at h2; cases h2
  have hr2 : recB liveC liveL 5 3 10 (liveC.log - (5 - 4)) = false := by
    rw [Bool.eq_false_iff]
    intro h
    have := (one_most h).2.2.2.2.2.2.1
    rw [hno] at this; cases this
  have hr : recB liveC liveL 4 2 9 (liveC.log - (4 - 4)) = true := hr
  unfold scanF
  rw [from_go hr, hcnt, hrec, hep]
  show Tl.after [liveR] (fromF liveC liveL 4 5 3 10) = _
  rw [from_stop hr2]
  rfl
/-- The records are laid where the log ends, by a greater epoch: what is told then. -/
theorem grows {c : Cf} {l : List (List UInt8)} {hd ep sq : Int} {m : Nat} {R : List (List UInt8)} {T : List Int} (hr : rightB c = true) (hl : (l.length : Int) = c.log) (hf : ∀ s ∈ l, s.length = 512) (ht : ∀ s ∈ l, topZ s < m) (hm : m ≤ 281474976710656)
    (h0 : 0 ≤ hd) (h1 : hd + c.log ≤ 281474976710656) (hs0 : 0 ≤ sq) (hs1 : sq + 1024 + R.length ≤ 281474976710656) (hR : ∀ b ∈ R, need b.length ≤ 1024 ∧ (getFr b).2 = 0) (he : (scanF c l hd ep sq).ep ≤ m)
    (hroom : ((secsF m (scanF c l hd ep sq).lsn (scanF c l hd ep sq).sq R).length : Int) ≤ hd + c.log - (scanF c l hd ep sq).lsn) :
    let t := scanF c l hd ep sq
    let g := laidF c l t.lsn (secsF m t.lsn t.sq R) T
    let k := cameN c g m t.lsn t.sq R
    (scanF c g hd ep sq).recs = t.recs ++ R.take k ∧ (scanF c g hd ep sq).sq = t.sq + k ∧ (k = 0 ∨ (scanF c g hd ep sq).ep = m) := by
  intro t g k
  obtain ⟨m1, m2, m3, m4, m5⟩ := from_mono (c := c) (l := l) (hd := hd) (c.log - (hd - hd)).toNat (lsn := hd) (ep := ep) (sq := sq) (Nat.le_refl _)
  have hlog : 2 ≤ c.log ∧ c.log ≤ 1024 := ((of_decide_eq_true hr).1).1
  have e1 : hd ≤ t.lsn := m1
  have e2 : t.lsn ≤ hd + c.log := by rcases m2 with h | h; · exact h
                                     · have : t.lsn = hd := h; omega
  have e3 : t.sq = sq + (t.recs.length : Nat) := m3
  have e5 : (t.recs.length : Int) ≤ t.lsn - hd := m5
  have hS : (secsF m t.lsn t.sq R).length ≤ c.log := by have : ((secsF m t.lsn t.sq R).length : Int) ≤ hd + c.log - t.lsn := hroom; omega
  have hroom : ((secsF m t.lsn t.sq R).length : Int) ≤ hd + c.log - t.lsn := hroom
  have hg : Grn c l g hd m := ⟨hr, hl, laidTo_len _ _ _ _ _ _, hf, ht, hm, h0, h1⟩
  obtain ⟨q, hq⟩ : ∃ q : Nat, t.sq = q := ⟨t.sq.toNat, by omega⟩
  have ahead : fromF c g hd hd ep sq = Tl.after t.recs (fromF c g hd t.lsn t.ep t.sq) := from_ahead (c := c) (l := l) (g := g) (hd := hd) hg.len2 (c.log - (hd - hd)).toNat (Nat.le_refl _) (fun p hp1 hp2 => by
    have hp2 : p < t.lsn := hp2
    exact laid_else (fun j hj e => by
      have := plc_inj (c := c) (by omega) e (by omega) (by omega)
      omega))
  have bh := behind (κ := fun p => tearAt T (p - t.lsn).toNat) hg R t.lsn t.ep q hR (by omega) e1 (by rw [← hq]; omega)
    (fun j hj => by
      rw [← hq] at hj ⊢
      have := laid_here (c := c) (l := l) (S := secsF m t.lsn t.sq R) (lsn := t.lsn) (T := T) (by omega) hl (j := j) (n := (secsF m t.lsn t.sq R).length) hS hj
      show sctAt c g _ = tearB _ _ (tearAt T (t.lsn + (j : Nat) - t.lsn).toNat)
      rw [show (t.lsn + (j : Nat) - t.lsn).toNat = j by omega]
      exact this)
    (fun p hp1 hp2 => by
      rw [← hq] at hp1
      exact laid_else (fun j hj e => by
        have := plc_inj (c := c) (by omega) e (by omega) (by omega)
        omega))
    he (.inr (by rw [← hq]; exact m4))
  rw [← hq] at bh
  obtain ⟨b1, b2, b3⟩ := bh
  have es : scanF c g hd ep sq = Tl.after t.recs (fromF c g hd t.lsn t.ep t.sq) := ahead
  rw [es]
  refine ⟨?_, ?_, ?_⟩
  · show t.recs ++ (fromF c g hd t.lsn t.ep t.sq).recs = _
    rw [b1]
  · show (fromF c g hd t.lsn t.ep t.sq).sq = _
    exact b2
  · exact b3
end Go.Proofs.Ytfjgbnnjfapcmaa

/- Plain: what was put is got again. -/
import Derived.Test.YtpedkcmcbejdiaaImgB
namespace Go.Proofs.Ytpedkcmcbejdiaa
open Go.RowKit
set_option maxRecDepth 100000
set_option linter.unusedVariables false
set_option linter.unusedSimpArgs false

def wholeB (b : List UInt8) : List UInt8 := b.take (512 * (b.length / 512))
theorem wholeB_len (b : List UInt8) : (wholeB b).length = 512 * (b.length / 512) := by unfold wholeB; rw [List.length_take]; omega
theorem flat_secs (b : List UInt8) : (secs b).flatten = wholeB b := by
  have := secs_take (b := b) (b.length / 512) (Nat.le_refl _)
  rwa [List.take_of_length_le (by rw [secs_len]; exact Nat.le_refl _)] at this
theorem secs_whole (b : List UInt8) : secs (wholeB b) = secs b := by
  unfold secs
  rw [wholeB_len, show 512 * (b.length / 512) / 512 = b.length / 512 by omega]
  apply List.map_congr_left
  intro i hi
  have := List.mem_range.1 hi
  unfold wholeB
  rw [List.drop_take, List.take_take]
  congr 1
  omega
theorem secs_flat {R : List (List UInt8)} (h5 : ∀ r ∈ R, r.length = 512) : secs R.flatten = R := by
  have hl := flat_512 h5
  apply List.ext_getElem
  · rw [secs_len, hl]; omega
  · intro i h1 h2
    have hi : i < R.flatten.length / 512 := by rw [hl]; omega
    have e1 := secs_at hi
    rw [List.getElem?_eq_getElem h1] at e1
    rw [Option.some.inj e1]
    have e2 : R.flatten.drop (i * 512) = (R.drop i).flatten := by
      clear e1 hi h1 hl
      induction i generalizing R with
      | zero => simp
      | succ i ih =>
        cases R with
        | nil => simp
        | cons r R =>
          rw [List.drop_succ_cons, ← ih (fun r hr => h5 r (List.mem_cons_of_mem _ hr)) (by simpa using h2), List.flatten_cons, show (i + 1) * 512 = r.length + i * 512 by rw [h5 r (List.mem_cons_self ..)]; omega, List.drop_append]
          simp
    rw [e2, flat_drop h2, List.getD_eq_getElem?_getD, List.getElem?_eq_getElem h2]
    exact List.take_left' (h5 _ (List.getElem_mem h2))
theorem piece_mid (pre m post : List UInt8) (p n : Nat) (hp : pre.length = p) (hm : m.length = n) : pieceOf (pre ++ m ++ post) p n = m := by
  subst hp hm
  unfold pieceOf
  rw [List.append_assoc, List.drop_left' rfl, List.take_left' rfl]
theorem getN_le2 {k : Nat} (h : k < 65536) : getN (leB k 2) = k := by rw [getN_leB]; exact Nat.mod_eq_of_lt (by simpa using h)
theorem flat_emp {R : List (List UInt8)} : ∀ k, k ≤ R.length → (∀ i, i < k → emp (R.getD i []) = true) → (R.take k).flatten = zer (512 * k)
  | 0, _, _ => by simp [zer]
  | k + 1, hk, h => by
    have e := of_decide_eq_true (h k (by omega))
    rw [flat_next (by omega), flat_emp k (by omega) (fun i hi => h i (by omega)), e]
    unfold zer
    rw [List.replicate_append_replicate, Nat.mul_succ]
theorem readF_enc : ∀ (n : Nat) (R : List (List UInt8)), R.length = n → (∀ r ∈ R, r.length = 512) → R.length ≤ 4096 → ∀ (pre acc : List UInt8) (f : Nat), R.length ≤ f → readF f (pre ++ enc R) pre.length R.length acc = (0, acc ++ R.flatten) := by
  intro n
  induction n using Nat.strongRecOn with
  | _ n ih =>
    intro R hn h5 hR pre acc f hf
    rcases Nat.eq_zero_or_pos R.length with h0 | h0
    · have : R = [] := List.eq_nil_of_length_eq_zero h0
      subst this
      cases f with
      | zero => simp [readF]
      | succ f => unfold readF; rw [if_pos (show ([] : List (List UInt8)).length = 0 from rfl)]; simp
    · obtain ⟨f, rfl⟩ : ∃ g, f = g + 1 := ⟨f - 1, by omega⟩
      have hr := runL_is h0
      generalize hk : runL R = k at hr
      obtain ⟨h1, h2, h3, h4⟩ := id hr
      have hlen := runB_len h5 k h2
      have hfl : ((R.take k).flatten).length = 512 * k := by rw [flat_512 (fun r hr => h5 r (List.mem_of_mem_take hr)), List.length_take]; rw [show min k R.length = k by omega]
      have IH := fun pre acc => ih (R.drop k).length (by rw [List.length_drop]; omega) (R.drop k) rfl (fun r hr => h5 r (List.mem_of_mem_drop hr)) (by rw [List.length_drop]; omega) pre acc f (by rw [List.length_drop]; omega)
      rw [List.length_drop] at IH
      have hsp : R.flatten = (R.take k).flatten ++ (R.drop k).flatten := by rw [← List.flatten_append, List.take_append_drop]
      rw [enc_step hr, hsp]
      have HB := hlen
      unfold runB at hlen HB ⊢
      unfold readF
      rw [if_neg (by omega)]
      by_cases he : emp (R.getD 0 []) = true
      · rw [if_pos he] at hlen ⊢
        rw [if_pos he] at hlen
        have hb : (pre ++ (0 :: leB k 2 ++ enc (R.drop k))) = (pre ++ [0]) ++ leB k 2 ++ enc (R.drop k) := by simp
        have hb0 : ((pre ++ (0 :: leB k 2 ++ enc (R.drop k))).getD pre.length 0).toNat = 0 := by simp [List.getD_eq_getElem?_getD]
        have hbl : pre.length + 3 ≤ (pre ++ (0 :: leB k 2 ++ enc (R.drop k))).length := by rw [hb]; simp only [List.length_append, leB_len, List.length_singleton]; omega
        have hg : getN (pieceOf (pre ++ (0 :: leB k 2 ++ enc (R.drop k))) (pre.length + 1) 2) = k := by
          rw [hb, piece_mid _ _ _ _ _ (by simp) (leB_len _ _), getN_le2 (by omega)]
        rw [if_neg (by omega), hb0, hg, if_neg (by omega), if_pos rfl]
        have := IH (pre ++ (0 :: leB k 2)) (acc ++ zer (512 * k))
        rw [List.append_assoc, show (pre ++ (0 :: leB k 2)).length = pre.length + 3 by simp [leB_len]] at this
        rw [this, flat_emp k h2 (fun i hi => by rw [h3 i hi, he]), List.append_assoc]
      · rw [if_neg he] at hlen ⊢
        rw [if_neg he] at hlen
        have hb : (pre ++ (1 :: leB k 2 ++ (R.take k).flatten ++ enc (R.drop k))) = (pre ++ [1]) ++ leB k 2 ++ ((R.take k).flatten ++ enc (R.drop k)) := by simp
        have hb' : (pre ++ (1 :: leB k 2 ++ (R.take k).flatten ++ enc (R.drop k))) = (pre ++ 1 :: leB k 2) ++ (R.take k).flatten ++ enc (R.drop k) := by simp
        have hb0 : ((pre ++ (1 :: leB k 2 ++ (R.take k).flatten ++ enc (R.drop k))).getD pre.length 0).toNat = 1 := by simp [List.getD_eq_getElem?_getD]
        have hbl : pre.length + 3 + 512 * k ≤ (pre ++ (1 :: leB k 2 ++ (R.take k).flatten ++ enc (R.drop k))).length := by rw [hb']; simp only [List.length_append, List.length_cons, leB_len, hfl]; omega
        have hg : getN (pieceOf (pre ++ (1 :: leB k 2 ++ (R.take k).flatten ++ enc (R.drop k))) (pre.length + 1) 2) = k := by
          rw [hb, piece_mid _ _ _ _ _ (by simp) (leB_len _ _), getN_le2 (by omega)]
        have hp : pieceOf (pre ++ (1 :: leB k 2 ++ (R.take k).flatten ++ enc (R.drop k))) (pre.length + 3) (512 * k) = (R.take k).flatten := by
          rw [hb', piece_mid _ _ _ _ _ (by simp [leB_len]) hfl]
        rw [if_neg (by omega), hb0, hg, if_neg (by omega), if_neg (by decide), if_neg (by omega), hp]
        have := IH (pre ++ (1 :: leB k 2 ++ (R.take k).flatten)) (acc ++ (R.take k).flatten)
        rw [List.append_assoc, show (pre ++ (1 :: leB k 2 ++ (R.take k).flatten)).length = pre.length + 3 + 512 * k by rw [List.length_append, hlen]; omega] at this
        rw [this, List.append_assoc]
theorem getI_putB {R : List (List UInt8)} (h5 : ∀ r ∈ R, r.length = 512) (hR : R.length ≤ 4096) : getI (putB R) = (0, R.flatten) := by
  have hg : pieceOf (putB R) 0 2 = leB R.length 2 := by unfold putB; exact piece_mid [] (leB R.length 2) (enc R) 0 2 rfl (leB_len _ _)
  have hr : readF R.length (putB R) 2 R.length [] = (0, R.flatten) := by
    have := readF_enc _ R rfl h5 hR (leB R.length 2) [] R.length (Nat.le_refl _)
    rwa [leB_len] at this
  unfold getI
  rw [if_neg (by unfold putB; rw [List.length_append, leB_len]; omega), hg, getN_le2 (by omega), if_neg (by omega), hr, if_neg (by simp), secs_flat h5, if_pos rfl]
theorem readF_mod {b : List UInt8} : ∀ (f p left : Nat) (acc : List UInt8), acc.length % 512 = 0 → (readF f b p left acc).2.length % 512 = 0
  | 0, _, _, _, h => by unfold readF; exact h
  | f + 1, p, left, acc, h => by
    unfold readF
    split
    · exact h
    · split
      · rfl
      · split
        · rfl
        · split
          · exact readF_mod f _ _ _ (by rw [List.length_append, zer_len]; omega)
          · split
            · rfl
            · rename_i h4
              exact readF_mod f _ _ _ (by rw [List.length_append, piece_len _ _ _ (by omega)]; omega)
theorem wholeB_of {x : List UInt8} (h : x.length % 512 = 0) : wholeB x = x := by
  unfold wholeB; exact List.take_of_length_le (by omega)
theorem getI_ok {b : List UInt8} (h : (getI b).1 = 0) : putB (secs (getI b).2) = b ∧ wholeB (getI b).2 = (getI b).2 ∧ (getI b).2.length ≤ 2097152 := by
  unfold getI at h ⊢
  split
  · rename_i h1; rw [if_pos h1] at h; cases h
  · rename_i h1
    rw [if_neg h1] at h
    split
    · rename_i h2; rw [if_pos h2] at h; cases h
    · rename_i h2
      rw [if_neg h2] at h
      split
      · rename_i h3; rw [if_pos h3] at h; exact absurd h h3
      · rename_i h3
        rw [if_neg h3] at h
        split
        · rename_i h4
          exact ⟨h4, wholeB_of (readF_mod _ _ _ _ (by simp)), readF_len (M := 2097152) _ _ _ _ (by simp; omega)⟩
        · rename_i h4; rw [if_neg h4] at h; cases h
theorem getI_err {b : List UInt8} (h : (getI b).1 ≠ 0) : (getI b).2 = [] := by
  unfold getI at h ⊢
  split
  · rfl
  · rename_i h1
    rw [if_neg h1] at h
    split
    · rfl
    · rename_i h2
      rw [if_neg h2] at h
      split
      · rfl
      · rename_i h3
        rw [if_neg h3] at h
        split
        · rename_i h4; rw [if_pos h4] at h; exact absurd rfl h
        · rfl
theorem live_put : putB (List.replicate 3 (zer 512)) = [3, 0, 0, 3, 0] := by
  have hr : RunIs (List.replicate 3 (zer 512)) 3 := ⟨by decide, by simp, fun i hi => by
    match i, hi with
    | 0, _ => rfl
    | 1, _ => rfl
    | 2, _ => rfl, fun h => by simp at h⟩
  have he : emp ((List.replicate 3 (zer 512)).getD 0 []) = true := by show decide (zer 512 = zer 512) = true; exact decide_eq_true rfl
  unfold putB
  rw [enc_step hr, enc_nil (by simp)]
  unfold runB
  rw [if_pos he, List.length_replicate]
  rfl
end Go.Proofs.Ytpedkcmcbejdiaa

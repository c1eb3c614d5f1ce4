/- Plain: a patch makes one disk of the other. -/
import Derived.Test.YtpedkcmcbejdiaaImgM
namespace Go.Proofs.Ytpedkcmcbejdiaa
open Go.RowKit
set_option maxRecDepth 100000
set_option linter.unusedVariables false
set_option linter.unusedSimpArgs false

theorem flat_dropN {R : List (List UInt8)} (h5 : ∀ r ∈ R, r.length = 512) (i : Nat) : R.flatten.drop (512 * i) = (R.drop i).flatten := by
  induction i generalizing R with
  | zero => simp
  | succ i ih =>
    cases R with
    | nil => simp
    | cons r R =>
      rw [List.drop_succ_cons, ← ih (fun r hr => h5 r (List.mem_cons_of_mem _ hr)), List.flatten_cons, show 512 * (i + 1) = r.length + 512 * i by rw [h5 r (List.mem_cons_self ..)]; omega, List.drop_append]
      simp
theorem flat_takeN {R : List (List UInt8)} (h5 : ∀ r ∈ R, r.length = 512) {i : Nat} (hi : i ≤ R.length) : R.flatten.take (512 * i) = (R.take i).flatten := by
  have hsp : R.flatten = (R.take i).flatten ++ (R.drop i).flatten := by rw [← List.flatten_append, List.take_append_drop]
  rw [hsp]
  exact List.take_left' (by rw [flat_512 (fun r hr => h5 r (List.mem_of_mem_take hr)), List.length_take]; rw [show min i R.length = i by omega])
theorem setAt_flat {X : List (List UInt8)} (h5 : ∀ r ∈ X, r.length = 512) {k : Nat} (hk : k < X.length) (r : List UInt8) : setAt X.flatten k r = (X.set k r).flatten := by
  unfold setAt
  rw [flat_takeN h5 (by omega), show 512 * k + 512 = 512 * (k + 1) by omega, flat_dropN h5, List.set_eq_take_append_cons_drop, if_pos hk, List.flatten_append, List.flatten_cons, List.append_assoc]
/-- One disk's sectors, as many as the other has. -/
def fitS (A : List (List UInt8)) (n : Nat) : List (List UInt8) := A.take n ++ List.replicate (n - A.length) (zer 512)
theorem fitS_len (A : List (List UInt8)) (n : Nat) : (fitS A n).length = n := by
  unfold fitS; rw [List.length_append, List.length_take, List.length_replicate]; omega
theorem fitS_512 {A : List (List UInt8)} (h5 : ∀ r ∈ A, r.length = 512) (n : Nat) : ∀ r ∈ fitS A n, r.length = 512 := fun r hr => by
  rcases List.mem_append.1 hr with h | h
  · exact h5 r (List.mem_of_mem_take h)
  · rw [(List.mem_replicate.1 h).2, zer_len]
theorem flat_rep (k : Nat) : (List.replicate k (zer 512)).flatten = zer (512 * k) := by
  induction k with
  | zero => rfl
  | succ k ih => rw [List.replicate_succ, List.flatten_cons, ih]; unfold zer; rw [List.replicate_append_replicate]; congr 1; omega
theorem fitS_flat {A : List (List UInt8)} (h5 : ∀ r ∈ A, r.length = 512) (n : Nat) : (fitS A n).flatten = cutB A.flatten (512 * n) := by
  unfold fitS cutB
  rw [List.flatten_append, flat_rep, flat_512 h5]
  by_cases h : n ≤ A.length
  · rw [flat_takeN h5 h, show n - A.length = 0 by omega, show 512 * n - 512 * A.length = 0 by omega]; rfl
  · rw [List.take_of_length_le (by omega : A.length ≤ n), List.take_of_length_le (by rw [flat_512 h5]; omega), show 512 * n - 512 * A.length = 512 * (n - A.length) by omega]; rfl
theorem dif_no {A B : List (List UInt8)} {k : Nat} (hB : k < B.length) (h : dif A B k = false) : k < A.length ∧ A.getD k [] = B.getD k [] := by
  unfold dif at h
  rw [Bool.or_eq_false_iff, Bool.or_eq_false_iff] at h
  obtain ⟨h1, h2, h3⟩ := h
  refine ⟨by have := of_decide_eq_false h1; omega, ?_⟩
  have := of_decide_eq_false h3
  exact Classical.not_not.1 this
def restI (A B : List (List UInt8)) (k : Nat) : List Nat := (List.range' k (B.length - k)).filter (dif A B)
theorem restI_next {A B : List (List UInt8)} {k : Nat} (hk : k < B.length) : restI A B k = (if dif A B k = true then [k] else []) ++ restI A B (k + 1) := by
  unfold restI
  rw [show B.length - k = (B.length - (k + 1)) + 1 by omega, List.range'_succ, List.filter_cons]
  split <;> simp
theorem take_eq {X B : List (List UInt8)} {k : Nat} (hX : k < X.length) (hB : k < B.length) (h : X.take k = B.take k) (hk : X.getD k [] = B.getD k []) : X.take (k + 1) = B.take (k + 1) := by
  rw [take_snoc ([] : List UInt8) hX, take_snoc ([] : List UInt8) hB, h, hk]
theorem appL_ents {A B : List (List UInt8)} (h5 : ∀ r ∈ B, r.length = 512) (hA5 : ∀ r ∈ A, r.length = 512) (hB : B.length ≤ 4096) : ∀ (d k : Nat), B.length - k = d → k ≤ B.length → ∀ (pre : List UInt8) (X : List (List UInt8)) (z : Int) (f : Nat), X.length = B.length → (∀ r ∈ X, r.length = 512) → X.take k = B.take k → X.drop k = (fitS A B.length).drop k → z < k → (entsF B (restI A B k)).length ≤ f →
    appL f (pre ++ entsF B (restI A B k)) pre.length B.length z X.flatten = (0, B.flatten)
  | 0, k, hd, hk, pre, X, z, f, hX, hX5, ht, hdr, hz, hf => by
    obtain rfl : k = B.length := by omega
    have e : X = B := by
      rw [List.take_of_length_le (by omega), List.take_of_length_le (Nat.le_refl _)] at ht
      exact ht
    subst e
    have : entsF X (restI A X X.length) = [] := by unfold restI; rw [Nat.sub_self]; rfl
    rw [this, List.append_nil]
    cases f with
    | zero => rfl
    | succ f => unfold appL; rw [if_pos (Nat.le_refl _)]
  | d + 1, k, hd, hk, pre, X, z, f, hX, hX5, ht, hdr, hz, hf => by
    have hkB : k < B.length := by omega
    have ih := appL_ents h5 hA5 hB d (k + 1) (by omega) (by omega)
    rw [restI_next hkB] at hf ⊢
    cases hdk : dif A B k with
    | false =>
      rw [hdk] at hf
      simp only [Bool.false_eq_true, if_false, List.nil_append] at hf ⊢
      obtain ⟨h1, h2⟩ := dif_no hkB hdk
      have hxk : X.getD k [] = B.getD k [] := by
        have e := congrArg (fun l => l.getD 0 []) hdr
        simp only [getD_drop, Nat.add_zero] at e
        rw [e, ← h2]
        unfold fitS
        rw [List.getD_eq_getElem?_getD, List.getElem?_append_left (by rw [List.length_take]; omega), List.getElem?_take, if_pos hkB, List.getD_eq_getElem?_getD]
      refine ih pre X z f hX hX5 (take_eq (by omega) hkB ht hxk) ?_ (by omega) hf
      have := congrArg (List.drop 1) hdr
      rwa [List.drop_drop, List.drop_drop] at this
    | true =>
      rw [hdk] at hf
      simp only [if_true] at hf ⊢
      have hent : entB B k = leB k 2 ++ B.getD k [] := by unfold entB; rw [if_pos hkB]
      have he : entsF B ([k] ++ restI A B (k + 1)) = leB k 2 ++ B.getD k [] ++ entsF B (restI A B (k + 1)) := by
        unfold entsF; rw [List.flatMap_append, List.flatMap_singleton, hent]
      rw [he] at hf ⊢
      have hb5 := getD_512' h5 hkB
      have hlen : (leB k 2 ++ B.getD k [] ++ entsF B (restI A B (k + 1))).length = 514 + (entsF B (restI A B (k + 1))).length := by rw [List.length_append, List.length_append, leB_len, hb5]
      rw [hlen] at hf
      obtain ⟨f, rfl⟩ : ∃ g, f = g + 1 := ⟨f - 1, by omega⟩
      have hpl : (pre ++ (leB k 2 ++ B.getD k [] ++ entsF B (restI A B (k + 1)))).length = pre.length + 514 + (entsF B (restI A B (k + 1))).length := by rw [List.length_append, hlen]; omega
      have hg : pieceOf (pre ++ (leB k 2 ++ B.getD k [] ++ entsF B (restI A B (k + 1)))) pre.length 2 = leB k 2 := by
        have := piece_mid pre (leB k 2) (B.getD k [] ++ entsF B (restI A B (k + 1))) pre.length 2 rfl (leB_len _ _)
        simpa [List.append_assoc] using this
      have hs : pieceOf (pre ++ (leB k 2 ++ B.getD k [] ++ entsF B (restI A B (k + 1)))) (pre.length + 2) 512 = B.getD k [] := by
        have := piece_mid (pre ++ leB k 2) (B.getD k []) (entsF B (restI A B (k + 1))) (pre.length + 2) 512 (by rw [List.length_append, leB_len]) hb5
        simpa [List.append_assoc] using this
      unfold appL
      rw [if_neg (by rw [hpl]; omega), if_neg (by rw [hpl]; omega), hg, getN_le2 (by omega), if_neg (by omega), hs, setAt_flat hX5 (by omega)]
      have := ih (pre ++ (leB k 2 ++ B.getD k [])) (X.set k (B.getD k [])) k f (by rw [List.length_set]; exact hX) (fun r hr => by
        rcases List.mem_or_eq_of_mem_set hr with h | h
        · exact hX5 r h
        · rw [h]; exact hb5) (take_eq (by rw [List.length_set]; omega) hkB (by rw [List.take_set_of_le (Nat.le_refl _)]; exact ht) (by rw [List.getD_eq_getElem?_getD, List.getElem?_set_self (by omega)]; rfl)) (by
        rw [List.drop_set_of_lt (by omega)]
        have := congrArg (List.drop 1) hdr
        rwa [List.drop_drop, List.drop_drop] at this) (by omega) (by omega)
      rw [show (pre ++ (leB k 2 ++ B.getD k [])).length = pre.length + 514 by rw [List.length_append, List.length_append, leB_len, hb5]] at this
      rw [← this]
      congr 1
      simp [List.append_assoc]
theorem entsF_out {B : List (List UInt8)} {l : List Nat} (h : ∀ i ∈ l, B.length ≤ i) : entsF B l = [] := by
  unfold entsF
  apply List.flatMap_eq_nil_iff.2
  intro i hi
  unfold entB
  rw [if_neg (by have := h i hi; omega)]
theorem ents_unl (A B : List (List UInt8)) : entsF B (unl A B) = entsF B (restI A B 0) := by
  have h : List.range (max A.length B.length) = List.range' 0 B.length ++ List.range' B.length (max A.length B.length - B.length) := by
    rw [List.range_eq_range']
    have := List.range'_append_1 (s := 0) (m := B.length) (n := max A.length B.length - B.length)
    rw [Nat.zero_add, show B.length + (max A.length B.length - B.length) = max A.length B.length by omega] at this
    exact this.symm
  unfold unl unlT restI
  rw [h, List.filter_append]
  unfold entsF
  rw [List.flatMap_append]
  have := entsF_out (B := B) (l := (List.range' B.length (max A.length B.length - B.length)).filter (dif A B)) (fun i hi => by
    have := (List.mem_range'_1.1 (List.mem_filter.1 hi).1).1
    exact this)
  unfold entsF at this
  rw [this, List.append_nil, Nat.sub_zero]
theorem appI_patch {A B : List (List UInt8)} (hA5 : ∀ r ∈ A, r.length = 512) (h5 : ∀ r ∈ B, r.length = 512) (hB : B.length ≤ 4096) : appI A.flatten (patchB A B) = (0, B.flatten) := by
  have hg : pieceOf (patchB A B) 0 2 = leB B.length 2 := by unfold patchB; exact piece_mid [] (leB B.length 2) _ 0 2 rfl (leB_len _ _)
  unfold appI
  rw [if_neg (by unfold patchB; rw [List.length_append, leB_len]; omega), hg, getN_le2 (by omega), if_neg (by omega), ← fitS_flat hA5]
  have := appL_ents (A := A) h5 hA5 hB B.length 0 (by omega) (by omega) (leB B.length 2) (fitS A B.length) (-1) (patchB A B).length (fitS_len _ _) (fitS_512 hA5 _) (by simp) rfl (by omega) (by unfold patchB; rw [ents_unl, List.length_append]; omega)
  rw [leB_len] at this
  unfold patchB at this ⊢
  rw [ents_unl] at this ⊢
  exact this
end Go.Proofs.Ytpedkcmcbejdiaa

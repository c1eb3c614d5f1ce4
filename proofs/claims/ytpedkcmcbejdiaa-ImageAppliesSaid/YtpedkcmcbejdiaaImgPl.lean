/- Plain: the bytes of a disk, run by run. -/
import Derived.Test.YtpedkcmcbejdiaaImg6
namespace Go.Proofs.Ytpedkcmcbejdiaa
open Go.RowKit
set_option maxRecDepth 100000
set_option linter.unusedVariables false
set_option linter.unusedSimpArgs false

/-- The first run's length. -/
def runL (R : List (List UInt8)) : Nat := (R.takeWhile fun r => emp r == emp (R.getD 0 [])).length
/-- The first k sectors as one run. -/
def runB (R : List (List UInt8)) (k : Nat) : List UInt8 := if emp (R.getD 0 []) = true then 0 :: leB k 2 else 1 :: leB k 2 ++ (R.take k).flatten
def encF : Nat → List (List UInt8) → List UInt8
  | 0, _ => []
  | f + 1, R => if R.length = 0 then [] else runB R (runL R) ++ encF f (R.drop (runL R))
def enc (R : List (List UInt8)) : List UInt8 := encF R.length R
/-- A disk's bytes. -/
def putB (R : List (List UInt8)) : List UInt8 := leB R.length 2 ++ enc R
theorem takeWhile_of {α : Type} (p : α → Bool) (d : α) : ∀ (l : List α) (k : Nat), k ≤ l.length → (∀ i, i < k → p (l.getD i d) = true) → (k < l.length → p (l.getD k d) = false) → (l.takeWhile p).length = k
  | [], k, h, _, _ => by simp at h; simp [h]
  | x :: l, 0, _, _, h => by
    have := h (by simp)
    simp at this
    simp [this]
  | x :: l, k + 1, h1, h2, h3 => by
    have h0 := h2 0 (by omega)
    simp at h0
    rw [List.takeWhile_cons, if_pos h0, List.length_cons, takeWhile_of p d l k (by simpa using h1) (fun i hi => by simpa using h2 (i + 1) (by omega)) (fun hk => by simpa using h3 (by simpa using hk))]
theorem runL_of {R : List (List UInt8)} {k : Nat} (h : RunIs R k) : runL R = k := by
  obtain ⟨h1, h2, h3, h4⟩ := h
  refine takeWhile_of _ [] R k h2 (fun i hi => ?_) (fun hk => ?_)
  · simpa using h3 i hi
  · simpa using h4 hk
theorem runL_is {R : List (List UInt8)} (h : 0 < R.length) : RunIs R (runL R) := by
  have key : ∀ (p : List UInt8 → Bool) (l : List (List UInt8)), (∀ i, i < (l.takeWhile p).length → p (l.getD i []) = true) ∧ ((l.takeWhile p).length < l.length → p (l.getD (l.takeWhile p).length []) = false) := by
    intro p l
    induction l with
    | nil => simp
    | cons x l ih =>
      by_cases hx : p x = true
      · rw [List.takeWhile_cons, if_pos hx]
        refine ⟨fun i hi => ?_, fun hk => ?_⟩
        · cases i with
          | zero => simpa using hx
          | succ i => simpa using ih.1 i (by simpa using hi)
        · simpa using ih.2 (by simpa using hk)
      · rw [List.takeWhile_cons, if_neg hx]
        simpa using hx
  have := key (fun r => emp r == emp (R.getD 0 [])) R
  refine ⟨?_, (List.takeWhile_prefix _).length_le, fun i hi => by simpa using this.1 i hi, fun hk => by simpa [runL] using this.2 hk⟩
  cases R with
  | nil => simp at h
  | cons r R => unfold runL; rw [List.takeWhile_cons, if_pos (by simp)]; simp
theorem encF_any : ∀ (f g : Nat) (R : List (List UInt8)), R.length ≤ f → R.length ≤ g → encF f R = encF g R
  | 0, 0, _, _, _ => rfl
  | 0, g + 1, R, h, _ => by have h0 : R.length = 0 := by omega
                            simp [encF, h0]
  | f + 1, 0, R, _, h => by have h0 : R.length = 0 := by omega
                            simp [encF, h0]
  | f + 1, g + 1, R, hf, hg => by
    unfold encF
    by_cases h0 : R.length = 0
    · rw [if_pos h0, if_pos h0]
    · have := (runL_is (R := R) (by omega)).1
      rw [if_neg h0, if_neg h0, encF_any f g (R.drop (runL R)) (by rw [List.length_drop]; omega) (by rw [List.length_drop]; omega)]
theorem enc_nil {R : List (List UInt8)} (h : R.length = 0) : enc R = [] := by unfold enc; rw [h]; rfl
theorem enc_step {R : List (List UInt8)} {k : Nat} (h : RunIs R k) : enc R = runB R k ++ enc (R.drop k) := by
  have e := runL_of h
  have hk := h.1
  have hl : 0 < R.length := by have := h.2.1; omega
  obtain ⟨m, hm⟩ : ∃ m, R.length = m + 1 := ⟨R.length - 1, by omega⟩
  show encF R.length R = runB R k ++ encF (R.drop k).length (R.drop k)
  rw [hm, encF, if_neg (by omega), e, encF_any m _ (R.drop k) (by rw [List.length_drop]; omega) (Nat.le_refl _)]
theorem runB_len {R : List (List UInt8)} (h5 : ∀ r ∈ R, r.length = 512) (k : Nat) (hk : k ≤ R.length) : (runB R k).length = if emp (R.getD 0 []) = true then 3 else 3 + 512 * k := by
  unfold runB
  split
  · simp [leB_len]
  · rw [List.cons_append, List.length_cons, List.length_append, leB_len, flat_512 (fun r hr => h5 r (List.mem_of_mem_take hr)), List.length_take]
    rw [show min k R.length = k by omega]; omega
theorem enc_len : ∀ (n : Nat) {R : List (List UInt8)}, R.length = n → (∀ r ∈ R, r.length = 512) → (enc R).length ≤ 515 * R.length := by
  intro n
  induction n using Nat.strongRecOn with
  | _ n ih =>
    intro R hn h5
    rcases Nat.eq_zero_or_pos R.length with h0 | h0
    · rw [enc_nil h0]; simp
    · have hr := runL_is h0
      obtain ⟨h1, h2, -, -⟩ := id hr
      have := ih (R.drop (runL R)).length (by rw [List.length_drop]; omega) rfl (fun r hr => h5 r (List.mem_of_mem_drop hr))
      rw [enc_step hr, List.length_append, runB_len h5 _ h2]
      rw [List.length_drop] at this
      split <;> omega
end Go.Proofs.Ytpedkcmcbejdiaa

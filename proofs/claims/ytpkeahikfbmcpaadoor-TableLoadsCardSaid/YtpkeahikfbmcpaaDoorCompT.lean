/- Plain law: a layout that was got, put again. No program in sight. -/
import Derived.Test.YtpkeahikfbmcpaaDoorComp7
import Derived.Test.YtpkeahikfbmcpaaDoorComp9
namespace Go.Proofs.YtpkeahikfbmcpaaDoor
open Go.RowKit
set_option maxRecDepth 100000
set_option linter.unusedVariables false

theorem getN_injF : ∀ {a b : List UInt8}, a.length = b.length → getN a = getN b → a = b
  | [], [], _, _ => rfl
  | c :: a, d :: b, hl, h => by
    rw [getN, getN] at h
    have h1 := c.toNat_lt
    have h2 := d.toNat_lt
    have hcd : c = d := UInt8.toNat_inj.1 (by omega)
    have : getN a = getN b := by omega
    rw [hcd, getN_injF (by simpa using hl) this]
  | [], _ :: _, hl, _ => by simp at hl
  | _ :: _, [], hl, _ => by simp at hl
theorem leB_getNF (l : List UInt8) : leB (getN l) l.length = l := by
  apply getN_injF (leB_len _ _)
  rw [getN_leB, Nat.mod_eq_of_lt (getN_lt l)]
theorem wireF {l : List UInt8} {k m : Nat} {width : Int} (hw : wideN width = m) (h : k + m ≤ l.length) : leB (word (getZ l k width)) m = pieceOf l k m := by
  unfold getZ
  rw [if_pos (getOk_yes (by rw [hw]; omega)), Int.toNat_natCast, hw]
  have h8 : m ≤ 8 := by have := wideN_in width; omega
  have h1 := getN_lt (pieceOf l k m)
  rw [piece_len l k m h] at h1
  have h2 : 256 ^ m ≤ 256 ^ 8 := Nat.pow_le_pow_right (by omega) h8
  rw [show (256 : Nat) ^ 8 = 18446744073709551616 from by decide] at h2
  have h3 : word (wrap64 (getN (pieceOf l k m))) = getN (pieceOf l k m) := by unfold word wrap64; omega
  rw [h3]
  have := leB_getNF (pieceOf l k m)
  rwa [piece_len l k m h] at this
theorem pjoin (l : List UInt8) (a m n : Nat) : pieceOf l a (m + n) = pieceOf l a m ++ pieceOf l (a + m) n := by
  unfold pieceOf
  rw [List.take_add, List.drop_drop]
theorem byte_wireF {l : List UInt8} {k : Nat} (h : k < l.length) : leB (word (bytC l k)) 1 = pieceOf l k 1 := by
  rw [← getZ_b1 h]
  exact wireF wT1 (by omega)
theorem compB_at {b : List UInt8} {a : Nat} (h : okC b a) : compB (cpAt b a) = pieceOf b a (3 + lenAt b a) := by
  unfold okC at h
  have hl := lenAt_le h.1
  have hp : sb (cpAt b a).nm = pieceOf b (a + 2) (lenAt b a) := rfl
  have hpl : (pieceOf b (a + 2) (lenAt b a)).length = lenAt b a := piece_len _ _ _ (by omega)
  unfold compB
  rw [hp, textB_fit _ (by rw [hpl]; exact hl), hpl]
  have e1 : leB (word ((lenAt b a : Nat) : Int)) 2 = pieceOf b a 2 := by rw [← lenAt_eq h.1]; exact wireF wT2 h.1
  have e2 : leB (word (cpAt b a).sz) 1 = pieceOf b (a + 2 + lenAt b a) 1 := byte_wireF (by omega)
  rw [e1, e2, show 3 + lenAt b a = 2 + (lenAt b a + 1) by omega, pjoin, pjoin, List.append_assoc]
theorem compsB_at {b : List UInt8} : ∀ {k a : Nat} {l : List Cp}, compAt b k = some (a, l) → 17 ≤ a ∧ compsB l l.length = pieceOf b 17 (a - 17)
  | 0, a, l, e => by
    cases e
    exact ⟨Nat.le_refl _, rfl⟩
  | k + 1, a, l, e => by
    cases hr : compAt b k with
    | none => simp only [compAt, hr, nextC] at e; cases e
    | some r =>
      obtain ⟨a0, l0⟩ := r
      simp only [compAt, hr, nextC] at e
      split at e
      · rename_i ho
        injection e with e
        injection e with e1 e2
        subst e1 e2
        obtain ⟨h1, h2⟩ := compsB_at hr
        refine ⟨by omega, ?_⟩
        have e3 : compsB (l0 ++ [cpAt b a0]) (l0 ++ [cpAt b a0]).length = compsB l0 l0.length ++ compB (cpAt b a0) := by
          unfold compsB
          rw [List.take_length, List.take_length, List.flatMap_append, List.flatMap_cons, List.flatMap_nil, List.append_nil]
        have e4 := pjoin b 17 (a0 - 17) (3 + lenAt b a0)
        rw [show 17 + (a0 - 17) = a0 by omega] at e4
        rw [e3, h2, compB_at ho, show a0 + 3 + lenAt b a0 - 17 = (a0 - 17) + (3 + lenAt b a0) by omega, e4]
      · cases e
theorem compAt_small2 {b : List UInt8} : ∀ {k a : Nat} {l : List Cp}, compAt b k = some (a, l) → ∀ x ∈ l, x.nm.size ≤ 65535
  | 0, a, l, e => by
    cases e
    intro x hx
    cases hx
  | k + 1, a, l, e => by
    cases hr : compAt b k with
    | none => simp only [compAt, hr, nextC] at e; cases e
    | some r =>
      obtain ⟨a0, l0⟩ := r
      simp only [compAt, hr, nextC] at e
      split at e
      · rename_i ho
        injection e with e
        injection e with e1 e2
        subst e1 e2
        intro x hx
        rcases List.mem_append.1 hx with hx | hx
        · exact compAt_small2 hr x hx
        · obtain rfl := List.mem_singleton.1 hx
          unfold okC at ho
          have h1 := lenAt_le ho.1
          show (pieceOf b (a0 + 2) (lenAt b a0)).toArray.size ≤ 65535
          rw [List.size_toArray, piece_len _ _ _ (by omega)]
          exact h1
      · cases e
theorem getF_bytes {b : List UInt8} (h : (getF b).2 = 0) : confB (getF b).1 = b ∧ (getF b).1.l.length ≤ 255 ∧ ∀ x ∈ (getF b).1.l, x.nm.size ≤ 65535 := by
  unfold getF at h ⊢
  split at h
  · cases h
  rename_i h17
  rw [if_neg h17]
  have hb := bytC_bd b 16
  cases hc : compAt b (bytC b 16).toNat with
  | none => rw [hc] at h; cases h
  | some r =>
    obtain ⟨a, l⟩ := r
    rw [hc] at h
    simp only at h ⊢
    split at h
    · cases h
    rename_i ha
    rw [if_neg ha]
    split at h
    · cases h
    rename_i hr
    rw [if_neg hr]
    obtain ⟨hl, -⟩ := compAt_ok (by omega) hc
    obtain ⟨h1, h2⟩ := compsB_at hc
    have ha2 : a = b.length := Classical.not_not.1 ha
    refine ⟨?_, by show l.length ≤ 255; omega, ?_⟩
    · show (numsB (hdrF b l) 4 ++ leB (word (l.length : Nat)) 1) ++ compsB l l.length = b
      have en : numsB (hdrF b l) 4 = pieceOf b 0 16 := by
        show leB (word (getZ b (0 : Nat) 4)) 4 ++ (leB (word (getZ b (4 : Nat) 4)) 4 ++ (leB (word (getZ b (8 : Nat) 4)) 4 ++ (leB (word (getZ b (12 : Nat) 4)) 4 ++ []))) = _
        rw [wireF wT4 (by omega), wireF wT4 (by omega), wireF wT4 (by omega), wireF wT4 (by omega), List.append_nil, show (16 : Nat) = 4 + (4 + (4 + 4)) from rfl, pjoin, pjoin, pjoin]
      have e1 : leB (word ((l.length : Nat) : Int)) 1 = pieceOf b 16 1 := by
        rw [hl, show (((bytC b 16).toNat : Nat) : Int) = bytC b 16 by omega]
        exact byte_wireF (by omega)
      rw [en, e1, h2, ← pjoin b 0 16 1, show (16 : Nat) + 1 = 17 from rfl]
      have e3 := pjoin b 0 17 (a - 17)
      rw [Nat.zero_add] at e3
      rw [← e3]
      unfold pieceOf
      rw [List.drop_zero, List.take_of_length_le (by omega)]
    · intro x hx
      have hx2 : x ∈ l := hx
      exact compAt_small2 hc x hx2
end Go.Proofs.YtpkeahikfbmcpaaDoor

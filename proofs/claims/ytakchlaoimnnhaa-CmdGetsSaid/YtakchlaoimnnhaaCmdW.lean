/- Plain law: commands as bytes, there and back. No program in sight. -/
import Derived.Test.YtakchlaoimnnhaaCmdM
import Derived.Test.YtakchlaoimnnhaaSealPl
import Derived.Test.YtakchlaoimnnhaaPartPl
namespace Go.Proofs.Ytakchlaoimnnhaa
open Go.RowKit
set_option maxRecDepth 100000
set_option linter.unusedVariables false

theorem word_wrap {n : Nat} (h : n < 18446744073709551616) : word (wrap64 n) = n := by unfold word wrap64; omega
theorem p256_8 : (256 : Nat) ^ 8 = 18446744073709551616 := by decide
theorem getN_piece_lt (l : List UInt8) {k m : Nat} (hm : m ≤ 8) (h : k + m ≤ l.length) : getN (pieceOf l k m) < 18446744073709551616 := by
  have h1 := getN_lt (pieceOf l k m)
  rw [piece_len l k m h] at h1
  have h2 : 256 ^ m ≤ 256 ^ 8 := Nat.pow_le_pow_right (by omega) hm
  rw [p256_8] at h2
  omega
theorem wire {l : List UInt8} {k m : Nat} {width : Int} (hw : wideN width = m) (h : k + m ≤ l.length) : leB (word (getZ l k width)) m = pieceOf l k m := by
  unfold getZ
  rw [if_pos (getOk_yes (by rw [hw]; omega)), Int.toNat_natCast, hw]
  have h8 : m ≤ 8 := by have := wideN_in width; omega
  rw [word_wrap (getN_piece_lt l h8 h)]
  have := leB_getN (pieceOf l k m)
  rwa [piece_len l k m h] at this
theorem getZ2_in {l : List UInt8} {k : Nat} (h : k + 2 ≤ l.length) : 0 ≤ getZ l k 2 ∧ getZ l k 2 ≤ 65535 := by
  unfold getZ
  rw [if_pos (getOk_yes (by rw [w2]; omega)), Int.toNat_natCast, w2]
  have h1 := getN_lt (pieceOf l k 2)
  rw [piece_len l k 2 h] at h1
  have h2 : (256 : Nat) ^ 2 = 65536 := by decide
  rw [h2] at h1
  unfold wrap64
  omega
theorem piece_join (l : List UInt8) (a m n : Nat) : pieceOf l a (m + n) = pieceOf l a m ++ pieceOf l (a + m) n := by
  unfold pieceOf
  rw [List.take_add, List.drop_drop]
theorem getZ_of {l : List UInt8} {k : Nat} {n : Int} (h : k + 8 ≤ l.length) (hp : pieceOf l k 8 = leB (word n) 8) (lo : -9223372036854775808 ≤ n) (hi : n ≤ 9223372036854775807) : getZ l k 8 = n := by
  unfold getZ
  rw [if_pos (getOk_yes (by rw [w8]; omega)), Int.toNat_natCast, w8, hp, getN_leB, p256_8]
  unfold wrap64 word
  omega
theorem getZ2_of {l : List UInt8} {k n : Nat} (h : k + 2 ≤ l.length) (hp : pieceOf l k 2 = leB (word (n : Nat)) 2) (hi : n ≤ 65535) : getZ l k 2 = n := by
  unfold getZ
  rw [if_pos (getOk_yes (by rw [w2]; omega)), Int.toNat_natCast, w2, hp, getN_leB, show (256 : Nat) ^ 2 = 65536 from by decide]
  unfold wrap64 word
  omega
theorem byte_wire {l : List UInt8} {k : Nat} (h : k < l.length) : leB (word (byteZ l k)) 1 = pieceOf l k 1 := by
  rw [← getZ1 h]
  exact wire w1 (by omega)

def headC (d : Int) (loc : Bool) (idx gen : Int) : List UInt8 := leB (word d) 1 ++ (if loc then [1] ++ leB (word idx) 8 else [0] ++ (leB (word idx) 8 ++ leB (word gen) 8))
theorem headC_len (d : Int) (loc : Bool) (idx gen : Int) : (headC d loc idx gen).length = e0R loc := by
  unfold headC e0R
  cases loc <;> simp [leB_len]
theorem bytesC_1 (x : Cmd) (h : x.do_ = 1) : bytesC x = headC 1 x.loc x.idx x.gen := by
  unfold bytesC headC
  rw [h]
  simp [knownC]
theorem bytesC_3 (x : Cmd) (h : x.do_ = 3) : bytesC x = headC 3 x.loc x.idx x.gen ++ leB (word x.comp) 8 := by
  unfold bytesC headC
  rw [h]
  simp [knownC]
theorem bytesC_2 (x : Cmd) (h : x.do_ = 2) : bytesC x = headC 2 x.loc x.idx x.gen ++ (leB (word x.comp) 8 ++ (leB (word (x.l.length : Nat)) 2 ++ x.l)) := by
  unfold bytesC headC
  rw [h]
  simp [knownC]
theorem head_wire {l : List UInt8} {d : Int} {loc : Bool} (h0 : pieceOf l 0 1 = leB (word d) 1) (h1 : pieceOf l 1 1 = if loc then [1] else [0]) (h : e0R loc ≤ l.length) :
    headC d loc (getZ l 2 8) (genR l loc) = pieceOf l 0 (e0R loc) := by
  unfold headC
  cases loc
  · have hl : 18 ≤ l.length := h
    have e : pieceOf l 0 18 = pieceOf l 0 1 ++ (pieceOf l 1 1 ++ (pieceOf l 2 8 ++ pieceOf l 10 8)) := by
      rw [show (18 : Nat) = 1 + 17 from rfl, piece_join, show (17 : Nat) = 1 + 16 from rfl, piece_join, show (16 : Nat) = 8 + 8 from rfl, piece_join]
    show _ = pieceOf l 0 18
    rw [e, h0, h1, ← wire (width := 8) w8 (k := 2) (by omega), ← wire (width := 8) w8 (k := 10) (by omega)]
    rfl
  · have hl : 10 ≤ l.length := h
    have e : pieceOf l 0 10 = pieceOf l 0 1 ++ (pieceOf l 1 1 ++ pieceOf l 2 8) := by
      rw [show (10 : Nat) = 1 + 9 from rfl, piece_join, show (9 : Nat) = 1 + 8 from rfl, piece_join]
    show _ = pieceOf l 0 10
    rw [e, h0, h1, ← wire (width := 8) w8 (k := 2) (by omega)]
    rfl
theorem e0R_cast (loc : Bool) (n : Nat) : ((e0R loc : Nat) : Int) + (n : Nat) = ((e0R loc + n : Nat) : Int) := by omega
theorem bytes_rest {l : List UInt8} {d : Int} {loc : Bool} (hd : d = 1 ∨ d = 2 ∨ d = 3) (h0 : pieceOf l 0 1 = leB (word d) 1) (h1 : pieceOf l 1 1 = if loc then [1] else [0])
    (h : (refRest l d loc).2.2 = 0) : ∃ k : Nat, (refRest l d loc).2.1 = k ∧ k ≤ l.length ∧ bytesC (refRest l d loc).1 = pieceOf l 0 k ∧ (refRest l d loc).1.l.length ≤ 64 := by
  rcases hd with rfl | rfl | rfl
  · have e : refRest l 1 loc = if (l.length : Int) < e0R loc then (zeroC, 0, 12) else (⟨1, loc, getZ l 2 8, genR l loc, 0, []⟩, ((e0R loc : Nat) : Int), 0) := rfl
    rw [e] at h ⊢
    split at h
    · cases h
    · rename_i hc
      rw [if_neg hc]
      exact ⟨e0R loc, rfl, by omega, by rw [bytesC_1 _ rfl]; exact head_wire (loc := loc) h0 h1 (by omega), Nat.zero_le _⟩
  · have e : refRest l 2 loc = if getOk l (e0R loc + 8 : Nat) 2 = true ∧ 64 < getZ l (e0R loc + 8 : Nat) 2 then (zeroC, 0, 13)
      else if (l.length : Int) < (e0R loc + 10 : Nat) + getZ l (e0R loc + 8 : Nat) 2 then (zeroC, 0, 12)
      else (⟨2, loc, getZ l 2 8, genR l loc, getZ l (e0R loc) 8, (l.drop (e0R loc + 10)).take (getZ l (e0R loc + 8 : Nat) 2).toNat⟩, (e0R loc + 10 : Nat) + getZ l (e0R loc + 8 : Nat) 2, 0) := rfl
    rw [e] at h ⊢
    split at h
    · cases h
    rename_i hc
    split at h
    · cases h
    rename_i hc2
    rw [if_neg hc, if_neg hc2]
    have hlen : e0R loc + 10 ≤ l.length := by
      by_cases hx : e0R loc + 8 + 2 ≤ l.length
      · omega
      · exfalso
        have : getZ l (e0R loc + 8 : Nat) 2 = 0 := by
          unfold getZ
          rw [if_neg]
          rw [getOk_no (.inr (by rw [w2]; omega))]
          decide
        rw [this] at hc2
        omega
    obtain ⟨z0, z1⟩ := getZ2_in (l := l) (k := e0R loc + 8) (by omega)
    obtain ⟨n, hn⟩ := Int.eq_ofNat_of_zero_le z0
    rw [hn] at hc2 ⊢
    have hc3 : e0R loc + 10 + n ≤ l.length := by omega
    have hpl : ((l.drop (e0R loc + 10)).take n).length = n := piece_len l _ _ hc3
    refine ⟨e0R loc + 10 + n, (by show ((e0R loc + 10 : Nat) : Int) + (n : Nat) = _; omega), hc3, ?_, ?_⟩
    case refine_2 =>
      show ((l.drop (e0R loc + 10)).take n).length ≤ 64
      have h64 : ¬ (64 : Int) < (n : Nat) := fun h => hc ⟨getOk_yes (by rw [w2]; omega), by rw [hn]; exact h⟩
      omega
    rw [bytesC_2 _ rfl]
    show headC 2 loc _ _ ++ (_ ++ (leB (word ((((l.drop (e0R loc + 10)).take n).length : Nat))) 2 ++ (l.drop (e0R loc + 10)).take n)) = _
    rw [hpl, head_wire h0 h1 (by omega), wire (width := 8) w8 (by omega), show leB (word (n : Nat)) 2 = pieceOf l (e0R loc + 8) 2 from by rw [← hn]; exact wire w2 (by omega), Nat.add_assoc, piece_join, Nat.zero_add, show 10 + n = 8 + (2 + n) from by omega, piece_join, piece_join]
    rfl
  · have e : refRest l 3 loc = if (l.length : Int) < (e0R loc + 8 : Nat) then (zeroC, 0, 12) else (⟨3, loc, getZ l 2 8, genR l loc, getZ l (e0R loc) 8, []⟩, ((e0R loc + 8 : Nat) : Int), 0) := rfl
    rw [e] at h ⊢
    split at h
    · cases h
    · rename_i hc
      rw [if_neg hc]
      refine ⟨e0R loc + 8, rfl, by omega, ?_, Nat.zero_le _⟩
      rw [bytesC_3 _ rfl]
      show headC 3 loc _ _ ++ leB (word (getZ l (e0R loc : Nat) 8)) 8 = _
      rw [head_wire h0 h1 (by omega), wire (width := 8) w8 (by omega), piece_join, Nat.zero_add]
theorem bytes_refL {l : List UInt8} (h : (refL l).2.2 = 0) : ∃ k : Nat, (refL l).2.1 = k ∧ k ≤ l.length ∧ bytesC (refL l).1 = pieceOf l 0 k ∧ (refL l).1.l.length ≤ 64 := by
  have b0 := byteZ_bd l 0
  have b1 := byteZ_bd l 1
  unfold refL at h ⊢
  by_cases h0 : l.length = 0
  · rw [if_pos h0] at h; cases h
  rw [if_neg h0] at h ⊢
  by_cases h3 : 3 < byteZ l 0
  · rw [if_pos h3] at h; cases h
  rw [if_neg h3] at h ⊢
  by_cases hz : byteZ l 0 = 0
  · rw [if_pos hz]
    exact ⟨1, rfl, by omega, by rw [← byte_wire (by omega), hz]; rfl, Nat.zero_le _⟩
  rw [if_neg hz] at h ⊢
  by_cases h1 : l.length = 1
  · rw [if_pos h1] at h; cases h
  rw [if_neg h1] at h ⊢
  by_cases h4 : 1 < byteZ l 1
  · rw [if_pos h4] at h; cases h
  rw [if_neg h4] at h ⊢
  refine bytes_rest (by omega) (byte_wire (by omega)).symm ?_ h
  rw [← byte_wire (by omega)]
  by_cases hb : byteZ l 1 = 1
  · rw [decide_eq_true hb, hb]; rfl
  · rw [decide_eq_false hb, show byteZ l 1 = 0 by omega]; rfl
/-- What was got, put again. -/
theorem bytes_refP {b : List UInt8} {at_ : Int} (h : (refP b at_).2.2 = 0) : 0 ≤ at_ ∧ at_ ≤ (refP b at_).2.1 ∧ (refP b at_).2.1 ≤ b.length ∧ bytesC (refP b at_).1 = (b.drop at_.toNat).take ((refP b at_).2.1 - at_).toNat ∧ (refP b at_).1.l.length ≤ 64 := by
  unfold refP at h ⊢
  split at h
  · cases h
  rename_i hat
  rw [if_neg hat]
  split at h
  · rename_i h2; exact absurd h h2
  rename_i h2
  rw [if_neg h2]
  obtain ⟨k, e1, e2, e3, e4⟩ := bytes_refL (Classical.not_not.1 h2)
  rw [List.length_drop] at e2
  refine ⟨by omega, by show at_ ≤ at_ + _; omega, by show at_ + _ ≤ _; omega, ?_, e4⟩
  show bytesC (refL (b.drop at_.toNat)).1 = (b.drop at_.toNat).take (at_ + (refL (b.drop at_.toNat)).2.1 - at_).toNat
  rw [e3, e1, show (at_ + (k : Int) - at_).toNat = k by omega]
  rfl
end Go.Proofs.Ytakchlaoimnnhaa

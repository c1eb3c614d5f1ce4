/- Plain law: commands as bytes, there and back. No program in sight. -/
import Derived.Test.YthkgchlndfcmpaaCmdI
import Derived.Test.YthkgchlndfcmpaaSealPl
import Derived.Test.YthkgchlndfcmpaaPartPl
import Derived.Test.YthkgchlndfcmpaaCmdZ
namespace Go.Proofs.Ythkgchlndfcmpaa
open Go.RowKit
set_option maxRecDepth 100000
set_option linter.unusedVariables false

theorem word_wrap {n : Nat} (h : n < 18446744073709551616) : word (wrap64 n) = n := by unfold word wrap64; omega
theorem p256_8 : (256 : Nat) ^ 8 = 18446744073709551616 := by decide
theorem getN_piece_lt (l : List UInt8) {k m : Nat} (hm : m ≤ 8) (h : k + m ≤ l.length) : getN (pieceOf l k m) < 18446744073709551616 := by
  have h1 := getN_lt (pieceOf l k m)
  rw [piece_len l k m h] at h1
  have h2 : 256 ^ m ≤ 256 ^ 8 := Nat.pow_le_pow_right (by omega) hm
  rw [p256_8] at h2
  omega
theorem wire {l : List UInt8} {k m : Nat} {width : Int} (hw : wideN width = m) (h : k + m ≤ l.length) : leB (word (getZ l k width)) m = pieceOf l k m := by
  unfold getZ
  rw [if_pos (getOk_yes (by rw [hw]; omega)), Int.toNat_natCast, hw]
  have h8 : m ≤ 8 := by have := wideN_in width; omega
  rw [word_wrap (getN_piece_lt l h8 h)]
  have := leB_getN (pieceOf l k m)
  rwa [piece_len l k m h] at this
theorem getZ2_in {l : List UInt8} {k : Nat} (h : k + 2 ≤ l.length) : 0 ≤ getZ l k 2 ∧ getZ l k 2 ≤ 65535 := by
  unfold getZ
  rw [if_pos (getOk_yes (by rw [w2]; omega)), Int.toNat_natCast, w2]
  have h1 := getN_lt (pieceOf l k 2)
  rw [piece_len l k 2 h] at h1
  have h2 : (256 : Nat) ^ 2 = 65536 := by decide
  rw [h2] at h1
  unfold wrap64
  omega
theorem piece_join (l : List UInt8) (a m n : Nat) : pieceOf l a (m + n) = pieceOf l a m ++ pieceOf l (a + m) n := by
  unfold pieceOf
  rw [List.take_add, List.drop_drop]
theorem getZ_of {l : List UInt8} {k : Nat} {n : Int} (h : k + 8 ≤ l.length) (hp : pieceOf l k 8 = leB (word n) 8) (lo : -9223372036854775808 ≤ n) (hi : n ≤ 9223372036854775807) : getZ l k 8 = n := by
  unfold getZ
  rw [if_pos (getOk_yes (by rw [w8]; omega)), Int.toNat_natCast, w8, hp, getN_leB, p256_8]
  unfold wrap64 word
  omega
theorem getZ2_of {l : List UInt8} {k n : Nat} (h : k + 2 ≤ l.length) (hp : pieceOf l k 2 = leB (word (n : Nat)) 2) (hi : n ≤ 65535) : getZ l k 2 = n := by
  unfold getZ
  rw [if_pos (getOk_yes (by rw [w2]; omega)), Int.toNat_natCast, w2, hp, getN_leB, show (256 : Nat) ^ 2 = 65536 from by decide]
  unfold wrap64 word
  omega
theorem byte_wire {l : List UInt8} {k : Nat} (h : k < l.length) : leB (word (byteZ l k)) 1 = pieceOf l k 1 := by
  rw [← getZ1 h]
  exact wire w1 (by omega)

def headC (d : Int) (loc : Bool) (idx gen : Int) : List UInt8 := leB (word d) 1 ++ (if loc then [1] ++ leB (word idx) 8 else [0] ++ (leB (word idx) 8 ++ leB (word gen) 8))
theorem headC_len (d : Int) (loc : Bool) (idx gen : Int) : (headC d loc idx gen).length = e0R loc := by
  unfold headC e0R
  cases loc <;> simp [leB_len]
theorem bytesC_1 (x : Cmd) (h : x.do_ = 1) : bytesC x = headC 1 x.loc x.idx x.gen := by
  unfold bytesC headC
  rw [h]
  simp [knownC]
theorem bytesC_3 (x : Cmd) (h : x.do_ = 3) : bytesC x = headC 3 x.loc x.idx x.gen ++ leB (word x.comp) 8 := by
  unfold bytesC headC
  rw [h]
  simp [knownC]
theorem bytesC_2 (x : Cmd) (h : x.do_ = 2) : bytesC x = headC 2 x.loc x.idx x.gen ++ (leB (word x.comp) 8 ++ (leB (word (x.l.length : Nat)) 2 ++ x.l)) := by
  unfold bytesC headC
  rw [h]
  simp [knownC]
theorem head_wire {l : List UInt8} {d : Int} {loc : Bool} (h0 : pieceOf l 0 1 = leB (word d) 1) (h1 : pieceOf l 1 1 = if loc then [1] else [0]) (h : e0R loc ≤ l.length) :
    headC d loc (getZ l 2 8) (genR l loc) = pieceOf l 0 (e0R loc) := by
  unfold headC
  cases loc
  · have hl : 18 ≤ l.length := h
    have e : pieceOf l 0 18 = pieceOf l 0 1 ++ (pieceOf l 1 1 ++ (pieceOf l 2 8 ++ pieceOf l 10 8)) := by
      rw [show (18 : Nat) = 1 + 17 from rfl, piece_join, show (17 : Nat) = 1 + 16 from rfl, piece_join, show (16 : Nat) = 8 + 8 from rfl, piece_join]
    show _ = pieceOf l 0 18
    rw [e, h0, h1, ← wire (width := 8) w8 (k := 2) (by omega), ← wire (width := 8) w8 (k := 10) (by omega)]
    rfl
  · have hl : 10 ≤ l.length := h
    have e : pieceOf l 0 10 = pieceOf l 0 1 ++ (pieceOf l 1 1 ++ pieceOf l 2 8) := by
      rw [show (10 : Nat) = 1 + 9 from rfl, piece_join, show (9 : Nat) = 1 + 8 from rfl, piece_join]
    show _ = pieceOf l 0 10
    rw [e, h0, h1, ← wire (width := 8) w8 (k := 2) (by omega)]
    rfl
theorem e0R_cast (loc : Bool) (n : Nat) : ((e0R loc : Nat) : Int) + (n : Nat) = ((e0R loc + n : Nat) : Int) := by omega
theorem bytes_rest {l : List UInt8} {d : Int} {loc : Bool} (hd : d = 1 ∨ d = 2 ∨ d = 3) (h0 : pieceOf l 0 1 = leB (word d) 1) (h1 : pieceOf l 1 1 = if loc then [1] else [0])
    (h : (refRest l d loc).2.2 = 0) : ∃ k : Nat, (refRest l d loc).2.1 = k ∧ k ≤ l.length ∧ bytesC (refRest l d loc).1 = pieceOf l 0 k ∧ (refRest l d loc).1.l.length ≤ 64 := by
  rcases hd with rfl | rfl | rfl
  · have e : refRest l 1 loc = if (l.length : Int) < e0R loc then (zeroC, 0, 12) else (⟨1, loc, getZ l 2 8, genR l loc, 0, []⟩, ((e0R loc : Nat) : Int), 0) := rfl
    rw [e] at h ⊢
    split at h
    · cases h
    · rename_i hc
      rw [if_neg hc]
      exact ⟨e0R loc, rfl, by omega, by rw [bytesC_1 _ rfl]; exact head_wire (loc := loc) h0 h1 (by omega), Nat.zero_le _⟩
  · have e : refRest l 2 loc = if getOk l (e0R loc + 8 : Nat) 2 = true ∧ 64 < getZ l (e0R loc + 8 : Nat) 2 then (zeroC, 0, 13)
      else if (l.length : Int) < (e0R loc + 10 : Nat) + getZ l (e0R loc + 8 : Nat) 2 then (zeroC, 0, 12)
      else (⟨2, loc, getZ l 2 8, genR l loc, getZ l (e0R loc) 8, (l.drop (e0R loc + 10)).take (getZ l (e0R loc + 8 : Nat) 2).toNat⟩, (e0R loc + 10 : Nat) + getZ l (e0R loc + 8 : Nat) 2, 0) := rfl
    rw [e] at h ⊢
    split at h
    · cases h
    rename_i hc
    split at h
    · cases h
    rename_i hc2
    rw [if_neg hc, if_neg hc2]
    have hlen : e0R loc + 10 ≤ l.length := by
      by_cases hx : e0R loc + 8 + 2 ≤ l.length
      · omega
      · exfalso
        have : getZ l (e0R loc + 8 : Nat) 2 = 0 := by
          unfold getZ
          rw [if_neg]
          rw [getOk_no (.inr (by rw [w2]; omega))]
          decide
        rw [this] at hc2
        omega
    obtain ⟨z0, z1⟩ := getZ2_in (l := l) (k := e0R loc + 8) (by omega)
    obtain ⟨n, hn⟩ := Int.eq_ofNat_of_zero_le z0
    rw [hn] at hc2 ⊢
    have hc3 : e0R loc + 10 + n ≤ l.length := by omega
    have hpl : ((l.drop (e0R loc + 10)).take n).length = n := piece_len l _ _ hc3
    refine ⟨e0R loc + 10 + n, (by show ((e0R loc + 10 : Nat) : Int) + (n : Nat) = _; omega), hc3, ?_, ?_⟩
    case refine_2 =>
      show ((l.drop (e0R loc + 10)).take n).length ≤ 64
      have h64 : ¬ (64 : Int) < (n : Nat) := fun h => hc ⟨getOk_yes (by rw [w2]; omega), by rw [hn]; exact h⟩
      omega
    rw [bytesC_2 _ rfl]
    show headC 2 loc _ _ ++ (_ ++ (leB (word ((((l.drop (e0R loc + 10)).take n).length : Nat))) 2 ++ (l.drop (e0R loc + 10)).take n)) = _
    rw [hpl, head_wire h0 h1 (by omega), wire (width := 8) w8 (by omega), show leB (word (n : Nat)) 2 = pieceOf l (e0R loc + 8) 2 from by rw [← hn]; exact wire w2 (by omega), Nat.add_assoc, piece_join, Nat.zero_add, show 10 + n = 8 + (2 + n) from by omega, piece_join, piece_join]
    rfl
  · have e : refRest l 3 loc = if (l.length : Int) < (e0R loc + 8 : Nat) then (zeroC, 0, 12) else (⟨3, loc, getZ l 2 8, genR l loc, getZ l (e0R loc) 8, []⟩, ((e0R loc + 8 : Nat) : Int), 0) := rfl
    rw [e] at h ⊢
    split at h
    · cases h
    · rename_i hc
      rw [if_neg hc]
      refine ⟨e0R loc + 8, rfl, by omega, ?_, Nat.zero_le _⟩
      rw [bytesC_3 _ rfl]
      show headC 3 loc _ _ ++ leB (word (getZ l (e0R loc : Nat) 8)) 8 = _
      rw [head_wire h0 h1 (by omega), wire (width := 8) w8 (by omega), piece_join, Nat.zero_add]
theorem bytes_refL {l : List UInt8} (h : (refL l).2.2 = 0) : ∃ k : Nat, (refL l).2.1 = k ∧ k ≤ l.length ∧ bytesC (refL l).1 = pieceOf l 0 k ∧ (refL l).1.l.length ≤ 64 := by
  have b0 := byteZ_bd l 0
  have b1 := byteZ_bd l 1
  unfold refL at h ⊢
  by_cases h0 : l.length = 0
  · rw [if_pos h0] at h; cases h
  rw [if_neg h0] at h ⊢
  by_cases h3 : 3 < byteZ l 0
  · rw [if_pos h3] at h; cases h
  rw [if_neg h3] at h ⊢
  by_cases hz : byteZ l 0 = 0
  · rw [if_pos hz]
    exact ⟨1, rfl, by omega, by rw [← byte_wire (by omega), hz]; rfl, Nat.zero_le _⟩
  rw [if_neg hz] at h ⊢
  by_cases h1 : l.length = 1
  · rw [if_pos h1] at h; cases h
  rw [if_neg h1] at h ⊢
  by_cases h4 : 1 < byteZ l 1
  · rw [if_pos h4] at h; cases h
  rw [if_neg h4] at h ⊢
  refine bytes_rest (by omega) (byte_wire (by omega)).symm ?_ h
  rw [← byte_wire (by omega)]
  by_cases hb : byteZ l 1 = 1
  · rw [decide_eq_true hb, hb]; rfl
  · rw [decide_eq_false hb, show byteZ l 1 = 0 by omega]; rfl
/-- What was got, put again. -/
theorem bytes_refP {b : List UInt8} {at_ : Int} (h : (refP b at_).2.2 = 0) : 0 ≤ at_ ∧ at_ ≤ (refP b at_).2.1 ∧ (refP b at_).2.1 ≤ b.length ∧ bytesC (refP b at_).1 = (b.drop at_.toNat).take ((refP b at_).2.1 - at_).toNat ∧ (refP b at_).1.l.length ≤ 64 := by
  unfold refP at h ⊢
  split at h
  · cases h
  rename_i hat
  rw [if_neg hat]
  split at h
  · rename_i h2; exact absurd h h2
  rename_i h2
  rw [if_neg h2]
  obtain ⟨k, e1, e2, e3, e4⟩ := bytes_refL (Classical.not_not.1 h2)
  rw [List.length_drop] at e2
  refine ⟨by omega, by show at_ ≤ at_ + _; omega, by show at_ + _ ≤ _; omega, ?_, e4⟩
  show bytesC (refL (b.drop at_.toNat)).1 = (b.drop at_.toNat).take (at_ + (refL (b.drop at_.toNat)).2.1 - at_).toNat
  rw [e3, e1, show (at_ + (k : Int) - at_).toNat = k by omega]
  rfl

def in64 (z : Int) : Prop := -9223372036854775808 ≤ z ∧ z ≤ 9223372036854775807
def rngC (x : Cmd) : Prop := in64 x.do_ ∧ in64 x.idx ∧ in64 x.gen ∧ in64 x.comp
theorem headC_cons {d : Int} (loc : Bool) (idx gen : Int) (hd : d = 1 ∨ d = 2 ∨ d = 3) : headC d loc idx gen = UInt8.ofNat d.toNat :: (if loc then 1 else 0) :: (leB (word idx) 8 ++ (if loc then [] else leB (word gen) 8)) := by
  rcases hd with rfl | rfl | rfl <;> (cases loc <;> first | rfl | (show _ = _ :: _ :: (leB (word idx) 8 ++ []); rw [List.append_nil]; rfl))
section
variable {d : Int} {loc : Bool} {idx gen : Int} {t : List UInt8}
theorem head_b0 (hd : d = 1 ∨ d = 2 ∨ d = 3) : byteZ (headC d loc idx gen ++ t) 0 = d := by
  rw [headC_cons _ _ _ hd]
  rcases hd with rfl | rfl | rfl <;> rfl
theorem head_b1 (hd : d = 1 ∨ d = 2 ∨ d = 3) : byteZ (headC d loc idx gen ++ t) 1 = if loc then 1 else 0 := by
  rw [headC_cons _ _ _ hd]
  cases loc <;> rfl
theorem head_len : (headC d loc idx gen ++ t).length = e0R loc + t.length := by rw [List.length_append, headC_len]
theorem head_idx (hd : d = 1 ∨ d = 2 ∨ d = 3) (h : in64 idx) : getZ (headC d loc idx gen ++ t) 2 8 = idx := by
  have hl : (headC d loc idx gen ++ t).length = e0R loc + t.length := head_len
  have h0 : 10 ≤ e0R loc := by cases loc <;> decide
  refine getZ_of (k := 2) (by omega) ?_ h.1 h.2
  rw [headC_cons _ _ _ hd]
  show ((leB (word idx) 8 ++ (if loc then [] else leB (word gen) 8)) ++ t).take 8 = _
  rw [List.append_assoc]
  exact List.take_left' (leB_len _ _)
theorem head_gen (hd : d = 1 ∨ d = 2 ∨ d = 3) (h : in64 gen) : genR (headC d loc idx gen ++ t) loc = if loc then 0 else gen := by
  cases loc
  · have hl : (headC d false idx gen ++ t).length = e0R false + t.length := head_len
    have h0 : e0R false = 18 := rfl
    have e : headC d false idx gen ++ t = ([UInt8.ofNat d.toNat, 0] ++ leB (word idx) 8) ++ (leB (word gen) 8 ++ t) := by
      rw [headC_cons _ _ _ hd]
      simp
    have hp : pieceOf (headC d false idx gen ++ t) 10 8 = leB (word gen) 8 := by
      rw [e, piece_skip (k := 0) _ _ (by simp [leB_len])]
      exact List.take_left' (leB_len _ _)
    have hz := getZ_of (l := headC d false idx gen ++ t) (k := 10) (n := gen) (by omega) hp h.1 h.2
    unfold genR
    rw [if_neg (by decide), if_neg (by decide)]
    exact hz
  · rfl
theorem head_skip (k m : Nat) : pieceOf (headC d loc idx gen ++ t) (e0R loc + k) m = pieceOf t k m := piece_skip _ _ (by rw [headC_len])
end
theorem plainC_of {x : Cmd} (h : x.do_ = 1 ∨ x.do_ = 2 ∨ x.do_ = 3) : plainC x = ⟨x.do_, x.loc, x.idx, if x.loc then 0 else x.gen, if x.do_ = 1 then 0 else x.comp, if x.do_ = 2 then x.l else []⟩ := by
  unfold plainC
  rw [if_neg (by unfold knownC; rw [decide_eq_true (by omega)]; decide), if_neg (by omega)]
theorem refL_bytes {x : Cmd} (hk : knownC x.do_ = true) (hl : x.l.length ≤ 64) (hr : rngC x) : refL (bytesC x) = (plainC x, (((bytesC x).length : Nat) : Int), 0) := by
  obtain ⟨d, loc, idx, gen, comp, q⟩ := x
  obtain ⟨-, r1, r2, r3⟩ := hr
  simp only at hk hl r1 r2 r3
  have hd4 : d = 0 ∨ (d = 1 ∨ d = 2 ∨ d = 3) := by
    have : 0 ≤ d ∧ d ≤ 3 := of_decide_eq_true hk
    omega
  rcases hd4 with rfl | hd
  · have e : bytesC ⟨0, loc, idx, gen, comp, q⟩ = [0] := by
      show leB (word 0) 1 ++ [] = _
      rw [List.append_nil]; rfl
    rw [e]
    rfl
  rw [plainC_of hd]
  have T : ∃ t : List UInt8, bytesC ⟨d, loc, idx, gen, comp, q⟩ = headC d loc idx gen ++ t ∧ t = (if d = 1 then [] else leB (word comp) 8 ++ (if d = 2 then leB (word (q.length : Nat)) 2 ++ q else [])) := by
    refine ⟨_, ?_, rfl⟩
    rcases hd with rfl | rfl | rfl
    · rw [bytesC_1 _ rfl, if_pos rfl, List.append_nil]
    · rw [bytesC_2 _ rfl]; rfl
    · rw [bytesC_3 _ rfl, if_neg (by decide), if_neg (by decide), List.append_nil]
  obtain ⟨t, eT, ht⟩ := T
  rw [eT]
  have hlen : (headC d loc idx gen ++ t).length = e0R loc + t.length := head_len
  have hb0 : byteZ (headC d loc idx gen ++ t) 0 = d := head_b0 hd
  have hb1 : byteZ (headC d loc idx gen ++ t) 1 = if loc then 1 else 0 := head_b1 hd
  have hi : getZ (headC d loc idx gen ++ t) 2 8 = idx := head_idx hd r1
  have hg : genR (headC d loc idx gen ++ t) loc = if loc then 0 else gen := head_gen hd r2
  have hs := fun k m => head_skip (d := d) (loc := loc) (idx := idx) (gen := gen) (t := t) k m
  have h0 : 10 ≤ e0R loc := by cases loc <;> decide
  generalize headC d loc idx gen ++ t = L at *
  have hloc : decide (byteZ L 1 = 1) = loc := by rw [hb1]; cases loc <;> rfl
  unfold refL
  rw [if_neg (by omega), hb0, if_neg (by omega), if_neg (by omega), if_neg (by omega), if_neg (by rw [hb1]; cases loc <;> decide), hloc]
  clear hb0 hb1 hloc hk
  have hc : 8 ≤ t.length → pieceOf t 0 8 = leB (word comp) 8 → getZ L (e0R loc) 8 = comp := fun h1 h2 => getZ_of (by omega) (by rw [← h2]; exact hs 0 8) r3.1 r3.2
  rcases hd with rfl | rfl | rfl
  · rw [if_pos rfl] at ht
    subst ht
    have e : refRest L 1 loc = if (L.length : Int) < e0R loc then (zeroC, 0, 12) else (⟨1, loc, getZ L 2 8, genR L loc, 0, []⟩, ((e0R loc : Nat) : Int), 0) := rfl
    rw [e, hlen, if_neg (by simp), hi, hg]
    rfl
  · have ht2 : t = leB (word comp) 8 ++ (leB (word (q.length : Nat)) 2 ++ q) := ht
    have htl : t.length = 10 + q.length := by rw [ht2]; simp [leB_len]; omega
    have hc1 := hc (by omega) (by rw [ht2]; exact List.take_left' (leB_len _ _))
    have hn : getZ L (e0R loc + 8 : Nat) 2 = (q.length : Nat) := getZ2_of (by omega) (by
      rw [hs 8 2, ht2, piece_skip (k := 0) _ _ (by rw [leB_len])]
      exact List.take_left' (leB_len _ _)) (by omega)
    have hq : (L.drop (e0R loc + 10)).take q.length = q := by
      have := hs 10 q.length
      unfold pieceOf at this
      rw [this, ht2]
      rw [show (10 : Nat) = 8 + 2 from rfl, ← List.drop_drop, List.drop_left' (leB_len _ _), List.drop_left' (leB_len _ _), List.take_length]
    have e : refRest L 2 loc = if getOk L (e0R loc + 8 : Nat) 2 = true ∧ 64 < getZ L (e0R loc + 8 : Nat) 2 then (zeroC, 0, 13)
      else if (L.length : Int) < (e0R loc + 10 : Nat) + getZ L (e0R loc + 8 : Nat) 2 then (zeroC, 0, 12)
      else (⟨2, loc, getZ L 2 8, genR L loc, getZ L (e0R loc) 8, (L.drop (e0R loc + 10)).take (getZ L (e0R loc + 8 : Nat) 2).toNat⟩, (e0R loc + 10 : Nat) + getZ L (e0R loc + 8 : Nat) 2, 0) := rfl
    rw [e, hn, if_neg (by omega), if_neg (by omega), hi, hg, hc1, Int.toNat_natCast, hq]
    have e2 : ((e0R loc + 10 : Nat) : Int) + (q.length : Nat) = (L.length : Nat) := by omega
    rw [e2]
    rfl
  · have ht2 : t = leB (word comp) 8 := by rw [ht, if_neg (by decide), if_neg (by decide), List.append_nil]
    have htl : t.length = 8 := by rw [ht2, leB_len]
    have hc1 := hc (by omega) (by rw [ht2]; exact List.take_of_length_le (by simp [leB_len]))
    have e : refRest L 3 loc = if (L.length : Int) < (e0R loc + 8 : Nat) then (zeroC, 0, 12) else (⟨3, loc, getZ L 2 8, genR L loc, getZ L (e0R loc) 8, []⟩, ((e0R loc + 8 : Nat) : Int), 0) := rfl
    rw [e, if_neg (by omega), hi, hg, hc1]
    have e2 : ((e0R loc + 8 : Nat) : Int) = (L.length : Nat) := by omega
    rw [e2]
    rfl
theorem refP_bytes {b : List UInt8} {x : Cmd} (hk : knownC x.do_ = true) (hl : x.l.length ≤ 64) (hr : rngC x) : refP (b ++ bytesC x) (b.length : Nat) = (plainC x, (((b ++ bytesC x).length : Nat) : Int), 0) := by
  unfold refP
  rw [if_neg (by rw [List.length_append]; omega), Int.toNat_natCast, List.drop_left' rfl, refL_bytes hk hl hr, if_neg (fun h => h rfl)]
  show (plainC x, (b.length : Int) + ((bytesC x).length : Nat), (0 : Int)) = _
  rw [List.length_append]
  have : (b.length : Int) + ((bytesC x).length : Nat) = ((b.length + (bytesC x).length : Nat) : Int) := by omega
  rw [this]

end Go.Proofs.Ythkgchlndfcmpaa

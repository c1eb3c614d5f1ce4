/- Plain law: a command's bytes, read wherever they stand. -/
import Derived.Test.YthkgchlndfcmpaaCmdW
namespace Go.Proofs.Ythkgchlndfcmpaa
open Go.RowKit
set_option maxRecDepth 100000
set_option linter.unusedVariables false

theorem refL_post {x : Cmd} (post : List UInt8) (hk : knownC x.do_ = true) (hl : x.l.length ≤ 64) (hr : rngC x) : refL (bytesC x ++ post) = (plainC x, (((bytesC x).length : Nat) : Int), 0) := by
  obtain ⟨d, loc, idx, gen, comp, q⟩ := x
  obtain ⟨-, r1, r2, r3⟩ := hr
  simp only at hk hl r1 r2 r3
  have hd4 : d = 0 ∨ (d = 1 ∨ d = 2 ∨ d = 3) := by
    have : 0 ≤ d ∧ d ≤ 3 := of_decide_eq_true hk
    omega
  rcases hd4 with rfl | hd
  · have e : bytesC ⟨0, loc, idx, gen, comp, q⟩ = [0] := by
      show leB (word 0) 1 ++ [] = _
      rw [List.append_nil]; rfl
    rw [e]
    show refL (0 :: post) = _
    unfold refL
    rw [if_neg (by simp), show byteZ (0 :: post) 0 = 0 from rfl, if_neg (by decide), if_pos rfl]
    rfl
  rw [plainC_of hd]
  have T : ∃ t : List UInt8, bytesC ⟨d, loc, idx, gen, comp, q⟩ = headC d loc idx gen ++ t ∧ t = (if d = 1 then [] else leB (word comp) 8 ++ (if d = 2 then leB (word (q.length : Nat)) 2 ++ q else [])) := by
    refine ⟨_, ?_, rfl⟩
    rcases hd with rfl | rfl | rfl
    · rw [bytesC_1 _ rfl, if_pos rfl, List.append_nil]
    · rw [bytesC_2 _ rfl]; rfl
    · rw [bytesC_3 _ rfl, if_neg (by decide), if_neg (by decide), List.append_nil]
  obtain ⟨t, eT, ht⟩ := T
  rw [eT, List.append_assoc]
  have hlen0 : (headC d loc idx gen ++ t).length = e0R loc + t.length := head_len
  have hlen : (headC d loc idx gen ++ (t ++ post)).length = e0R loc + (t.length + post.length) := by rw [head_len, List.length_append]
  have hb0 : byteZ (headC d loc idx gen ++ (t ++ post)) 0 = d := head_b0 hd
  have hb1 : byteZ (headC d loc idx gen ++ (t ++ post)) 1 = if loc then 1 else 0 := head_b1 hd
  have hi : getZ (headC d loc idx gen ++ (t ++ post)) 2 8 = idx := head_idx hd r1
  have hg : genR (headC d loc idx gen ++ (t ++ post)) loc = if loc then 0 else gen := head_gen hd r2
  have hs := fun k m => head_skip (d := d) (loc := loc) (idx := idx) (gen := gen) (t := t ++ post) k m
  have h0 : 10 ≤ e0R loc := by cases loc <;> decide
  rw [hlen0]
  generalize headC d loc idx gen ++ (t ++ post) = L at *
  have hloc : decide (byteZ L 1 = 1) = loc := by rw [hb1]; cases loc <;> rfl
  unfold refL
  rw [if_neg (by omega), hb0, if_neg (by omega), if_neg (by omega), if_neg (by omega), if_neg (by rw [hb1]; cases loc <;> decide), hloc]
  clear hb0 hb1 hloc hk hlen0
  have hc : 8 ≤ t.length → pieceOf (t ++ post) 0 8 = leB (word comp) 8 → getZ L (e0R loc) 8 = comp := fun h1 h2 => getZ_of (by omega) (by rw [← h2]; exact hs 0 8) r3.1 r3.2
  rcases hd with rfl | rfl | rfl
  · rw [if_pos rfl] at ht
    subst ht
    have e : refRest L 1 loc = if (L.length : Int) < e0R loc then (zeroC, 0, 12) else (⟨1, loc, getZ L 2 8, genR L loc, 0, []⟩, ((e0R loc : Nat) : Int), 0) := rfl
    rw [e, hlen, if_neg (by simp; omega), hi, hg]
    rfl
  · have ht2 : t = leB (word comp) 8 ++ (leB (word (q.length : Nat)) 2 ++ q) := ht
    have htl : t.length = 10 + q.length := by rw [ht2]; simp [leB_len]; omega
    have hc1 := hc (by omega) (by rw [ht2, List.append_assoc]; exact List.take_left' (leB_len _ _))
    have hn : getZ L (e0R loc + 8 : Nat) 2 = (q.length : Nat) := getZ2_of (by omega) (by
      rw [hs 8 2, ht2, List.append_assoc, List.append_assoc, piece_skip (k := 0) _ _ (by rw [leB_len])]
      exact List.take_left' (leB_len _ _)) (by omega)
    have hq : (L.drop (e0R loc + 10)).take q.length = q := by
      have := hs 10 q.length
      unfold pieceOf at this
      rw [this, ht2, List.append_assoc, List.append_assoc]
      rw [show (10 : Nat) = 8 + 2 from rfl, ← List.drop_drop, List.drop_left' (leB_len _ _), List.drop_left' (leB_len _ _), List.take_left' rfl]
    have e : refRest L 2 loc = if getOk L (e0R loc + 8 : Nat) 2 = true ∧ 64 < getZ L (e0R loc + 8 : Nat) 2 then (zeroC, 0, 13)
      else if (L.length : Int) < (e0R loc + 10 : Nat) + getZ L (e0R loc + 8 : Nat) 2 then (zeroC, 0, 12)
      else (⟨2, loc, getZ L 2 8, genR L loc, getZ L (e0R loc) 8, (L.drop (e0R loc + 10)).take (getZ L (e0R loc + 8 : Nat) 2).toNat⟩, (e0R loc + 10 : Nat) + getZ L (e0R loc + 8 : Nat) 2, 0) := rfl
    rw [e, hn, if_neg (by omega), if_neg (by omega), hi, hg, hc1, Int.toNat_natCast, hq]
    have e2 : ((e0R loc + 10 : Nat) : Int) + (q.length : Nat) = ((e0R loc + t.length : Nat) : Int) := by omega
    rw [e2]
    rfl
  · have ht2 : t = leB (word comp) 8 := by rw [ht, if_neg (by decide), if_neg (by decide), List.append_nil]
    have htl : t.length = 8 := by rw [ht2, leB_len]
    have hc1 := hc (by omega) (by rw [ht2]; exact List.take_left' (leB_len _ _))
    have e : refRest L 3 loc = if (L.length : Int) < (e0R loc + 8 : Nat) then (zeroC, 0, 12) else (⟨3, loc, getZ L 2 8, genR L loc, getZ L (e0R loc) 8, []⟩, ((e0R loc + 8 : Nat) : Int), 0) := rfl
    rw [e, if_neg (by omega), hi, hg, hc1, htl]
    rfl
theorem refP_post {b : List UInt8} {x : Cmd} (post : List UInt8) (hk : knownC x.do_ = true) (hl : x.l.length ≤ 64) (hr : rngC x) : refP (b ++ (bytesC x ++ post)) (b.length : Nat) = (plainC x, (((b ++ bytesC x).length : Nat) : Int), 0) := by
  unfold refP
  rw [if_neg (by rw [List.length_append]; omega), Int.toNat_natCast, List.drop_left' rfl, refL_post post hk hl hr, if_neg (fun h => h rfl)]
  show (plainC x, (b.length : Int) + ((bytesC x).length : Nat), (0 : Int)) = _
  rw [List.length_append]
  have : (b.length : Int) + ((bytesC x).length : Nat) = ((b.length + (bytesC x).length : Nat) : Int) := by omega
  rw [this]
end Go.Proofs.Ythkgchlndfcmpaa

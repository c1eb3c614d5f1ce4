/- Records in pieces: plain mathematics; no program in sight. -/
import Derived.Test.YthkgchlndfcmpaaLePl
namespace Go.Proofs.Ythkgchlndfcmpaa
open Go.RowKit

theorem getN_inj : ∀ {a b : List UInt8}, a.length = b.length → getN a = getN b → a = b
  | [], [], _, _ => rfl
  | c :: a, d :: b, hl, h => by
    rw [getN, getN] at h
    have h1 := c.toNat_lt
    have h2 := d.toNat_lt
    have hcd : c = d := UInt8.toNat_inj.1 (by omega)
    have : getN a = getN b := by omega
    rw [hcd, getN_inj (by simpa using hl) this]
  | [], _ :: _, hl, _ => by simp at hl
  | _ :: _, [], hl, _ => by simp at hl
theorem leB_getN (l : List UInt8) : leB (getN l) l.length = l := by
  apply getN_inj (leB_len _ _)
  rw [getN_leB, Nat.mod_eq_of_lt (getN_lt l)]
theorem leB_of {l : List UInt8} {u k : Nat} (hl : l.length = k) (h : getN l = u) : l = leB u k := by rw [← h, ← hl, leB_getN]

def need (n : Nat) : Nat := if n ≤ 460 then 1 else (n - 1) / 460 + 1
def hdrB (i n seq : Nat) : List UInt8 := leB i 2 ++ (leB n 2 ++ leB seq 8)
theorem hdrB_len (i n seq : Nat) : (hdrB i n seq).length = 12 := by simp [hdrB, leB_len]
def clampSeq (z : Int) : Nat := if z < 0 then 0 else if 281474976710656 < z then 281474976710656 else z.toNat
theorem clampSeq_le (z : Int) : clampSeq z ≤ 281474976710656 := by unfold clampSeq; split <;> (try split) <;> omega
theorem clampSeq_nat {n : Nat} (h : n ≤ 281474976710656) : clampSeq n = n := by
  unfold clampSeq; rw [if_neg (by omega), if_neg (by omega)]; omega
def chunk (b : List UInt8) (i : Nat) : List UInt8 := (b.drop (460 * i)).take 460
def pieces (seq : Nat) (b : List UInt8) (n : Nat) : List (List UInt8) := (List.range n).map fun i => hdrB i n seq ++ chunk b i
theorem pieces_len (seq : Nat) (b : List UInt8) (n : Nat) : (pieces seq b n).length = n := by simp [pieces]
theorem pieces_at {seq : Nat} {b : List UInt8} {n i : Nat} (h : i < n) : (pieces seq b n)[i]? = some (hdrB i n seq ++ chunk b i) := by
  simp [pieces, h]
def splitL (z : Int) (b : List UInt8) : List (List UInt8) := if 1024 < need b.length then [] else pieces (clampSeq z) b (need b.length)

/-- The fields of a head. -/
def hPlace (p : List UInt8) : Nat := getN (p.take 2)
def hCount (p : List UInt8) : Nat := getN ((p.drop 2).take 2)
def hSeq (p : List UInt8) : Int := wrap64 (getN ((p.drop 4).take 8))
def headOk (p : List UInt8) : Bool := decide (12 ≤ p.length ∧ p.length ≤ 472 ∧ 1 ≤ hCount p ∧ hCount p ≤ 1024 ∧ hPlace p < hCount p ∧ 0 ≤ hSeq p ∧ hSeq p ≤ 281474976710656)
theorem wrap64_small {n : Nat} (h : n < 9223372036854775808) : wrap64 (n : Int) = n := by
  unfold wrap64; omega
theorem wrap64_nat {n : Nat} (h : n < 18446744073709551616) (h0 : 0 ≤ wrap64 (n : Int)) : wrap64 (n : Int) = n := by
  unfold wrap64 at *; omega
/-- A head that may be is one of three numbers. -/
theorem head_is {p : List UInt8} (h : headOk p = true) : p = hdrB (hPlace p) (hCount p) (hSeq p).toNat ++ p.drop 12 := by
  have h := of_decide_eq_true h
  obtain ⟨h1, h2, h3, h4, h5, h6, h7⟩ := h
  have l1 : (p.take 2).length = 2 := by rw [List.length_take]; omega
  have l2 : ((p.drop 2).take 2).length = 2 := by rw [List.length_take, List.length_drop]; omega
  have l3 : ((p.drop 4).take 8).length = 8 := by rw [List.length_take, List.length_drop]; omega
  have e1 : p.take 2 = leB (hPlace p) 2 := leB_of l1 rfl
  have e2 : (p.drop 2).take 2 = leB (hCount p) 2 := leB_of l2 rfl
  have e3 : (p.drop 4).take 8 = leB (hSeq p).toNat 8 := leB_of l3 (by
    have := getN_lt ((p.drop 4).take 8)
    rw [l3] at this
    have hw : hSeq p = (getN ((p.drop 4).take 8) : Int) := wrap64_nat this h6
    rw [hw]; omega)
  unfold hdrB
  rw [← e1, ← e2, ← e3]
  have a1 : p = p.take 2 ++ p.drop 2 := (List.take_append_drop 2 p).symm
  have a2 : p.drop 2 = (p.drop 2).take 2 ++ p.drop 4 := by
    have := (List.take_append_drop 2 (p.drop 2)).symm; rw [List.drop_drop] at this; exact this
  have a3 : p.drop 4 = (p.drop 4).take 8 ++ p.drop 12 := by
    have := (List.take_append_drop 8 (p.drop 4)).symm; rw [List.drop_drop] at this; exact this
  rw [List.append_assoc, List.append_assoc, ← a3, ← a2, ← a1]
theorem hdr_fields {i n seq : Nat} (c : List UInt8) (hi : i < 65536) (hn : n < 65536) (hs : seq ≤ 281474976710656) :
    hPlace (hdrB i n seq ++ c) = i ∧ hCount (hdrB i n seq ++ c) = n ∧ hSeq (hdrB i n seq ++ c) = seq := by
  have e1 : (hdrB i n seq ++ c).take 2 = leB i 2 := by
    unfold hdrB; rw [List.append_assoc, List.take_left' (leB_len i 2)]
  have e2 : ((hdrB i n seq ++ c).drop 2).take 2 = leB n 2 := by
    unfold hdrB; rw [List.append_assoc, List.drop_left' (leB_len i 2), List.append_assoc, List.take_left' (leB_len n 2)]
  have e3 : ((hdrB i n seq ++ c).drop 4).take 8 = leB seq 8 := by
    have : ((hdrB i n seq ++ c).drop 4) = ((hdrB i n seq ++ c).drop 2).drop 2 := by rw [List.drop_drop]
    rw [this]
    unfold hdrB; rw [List.append_assoc, List.drop_left' (leB_len i 2), List.append_assoc, List.drop_left' (leB_len n 2), List.take_left' (leB_len seq 8)]
  unfold hPlace hCount hSeq
  rw [e1, e2, e3, getN_leB, getN_leB, getN_leB]
  refine ⟨Nat.mod_eq_of_lt hi, Nat.mod_eq_of_lt hn, ?_⟩
  rw [Nat.mod_eq_of_lt (by omega)]
  exact wrap64_small (by omega)
theorem drop_hdr (i n seq : Nat) (c : List UInt8) : (hdrB i n seq ++ c).drop 12 = c := List.drop_left' (hdrB_len i n seq)

/-- The reference's condition on a piece. -/
def okAt (l : List (List UInt8)) (s : Int) (i : Nat) (p : List UInt8) : Bool :=
  headOk p && decide (hPlace p = i) && decide (hCount p = l.length) && decide (hSeq p = s) && (decide (i + 1 = l.length) || decide (p.length = 472)) && !(decide (i + 1 = l.length) && decide (0 < i) && decide (p.length = 12))
theorem okAt_iff {l : List (List UInt8)} {s : Int} {i : Nat} {p : List UInt8} : okAt l s i p = true ↔ headOk p = true ∧ hPlace p = i ∧ hCount p = l.length ∧ hSeq p = s ∧ (i + 1 = l.length ∨ p.length = 472) ∧ ¬ (i + 1 = l.length ∧ 0 < i ∧ p.length = 12) := by
  unfold okAt
  simp [and_assoc]
  omega
def sameRec (l : List (List UInt8)) (s : Int) : Prop := l ≠ [] ∧ ∀ i p, l[i]? = some p → okAt l s i p = true
def joinB (l : List (List UInt8)) : List UInt8 := l.flatMap (·.drop 12)

theorem chunk_len (b : List UInt8) (i : Nat) : (chunk b i).length = min 460 (b.length - 460 * i) := by simp [chunk]
theorem need_bd {n m : Nat} (h : need n = m) : 1 ≤ m ∧ n ≤ 460 * m ∧ (1 < m → 460 * (m - 1) < n) := by
  unfold need at h; split at h <;> omega
theorem need_of {n m : Nat} (h1 : 1 ≤ m) (h2 : n ≤ 460 * m) (h3 : 1 < m → 460 * (m - 1) < n) : need n = m := by
  unfold need; split <;> omega
theorem joinB_pieces (seq : Nat) (b : List UInt8) (n : Nat) (h : b.length ≤ 460 * n) : joinB (pieces seq b n) = b := by
  have key : ∀ m, m ≤ n → ((List.range m).map fun i => hdrB i n seq ++ chunk b i).flatMap (·.drop 12) = b.take (460 * m) := by
    intro m
    induction m with
    | zero => intro _; simp
    | succ m ih =>
      intro hm
      rw [List.range_succ, List.map_append, List.flatMap_append, ih (by omega)]
      simp only [List.map_cons, List.map_nil, List.flatMap_cons, List.flatMap_nil, List.append_nil]
      rw [drop_hdr, chunk, Nat.mul_succ, List.take_add]
  have := key n (Nat.le_refl _)
  unfold joinB pieces
  rw [this, List.take_of_length_le h]
/-- The pieces of a record are as the reference wants them. -/
theorem pieces_ok {seq n : Nat} {b : List UInt8} (hs : seq ≤ 281474976710656) (hn : need b.length = n) (h2 : n ≤ 1024) : sameRec (pieces seq b n) seq := by
  obtain ⟨h1, h3, h4⟩ := need_bd hn
  refine ⟨fun h => ?_, fun i p hp => ?_⟩
  · have := pieces_len seq b n
    rw [h] at this
    simp at this
    omega
  have hi : i < n := by
    have := (List.getElem?_eq_some_iff.1 hp).1
    rwa [pieces_len] at this
  rw [pieces_at hi] at hp
  obtain rfl : _ = p := Option.some.inj hp
  obtain ⟨f1, f2, f3⟩ := hdr_fields (i := i) (n := n) (chunk b i) (by omega) (by omega) hs
  have hl : (hdrB i n seq ++ chunk b i).length = 12 + min 460 (b.length - 460 * i) := by rw [List.length_append, hdrB_len, chunk_len]
  rw [okAt_iff, pieces_len, f1, f2, f3]
  refine ⟨?_, rfl, rfl, rfl, ?_, ?_⟩
  · unfold headOk
    rw [f1, f2, f3, hl]
    exact decide_eq_true ⟨by omega, by omega, by omega, by omega, by omega, by omega, by omega⟩
  · rw [hl]
    by_cases h : i + 1 = n
    · exact .inl h
    · right; have := h4 (by omega)
      have : 460 * (i + 1) ≤ 460 * (n - 1) := Nat.mul_le_mul_left _ (by omega)
      omega
  · rw [hl]
    rintro ⟨e1, e2, e3⟩
    have := h4 (by omega)
    have : 460 * i = 460 * (n - 1) := by rw [← e1]; rfl
    omega
/-- Pieces that are as the reference wants them are those of what they hold. -/
theorem ok_pieces {l : List (List UInt8)} {s : Int} (h : sameRec l s) : ∃ seq : Nat, s = seq ∧ seq ≤ 281474976710656 ∧ need (joinB l).length = l.length ∧ l.length ≤ 1024 ∧ l = pieces seq (joinB l) l.length := by
  obtain ⟨hne, hall⟩ := h
  have hpos : 0 < l.length := List.length_pos_iff.2 hne
  have h0 := hall 0 (l[0]'hpos) (List.getElem?_eq_getElem _)
  rw [okAt_iff] at h0
  obtain ⟨a1, a2, a3, a4, _, _⟩ := h0
  have a1 := of_decide_eq_true a1
  obtain ⟨seq, rfl⟩ : ∃ n : Nat, s = n := ⟨s.toNat, by omega⟩
  have hs : seq ≤ 281474976710656 := by omega
  have hN : l.length ≤ 1024 := by omega
  have each : ∀ i p, l[i]? = some p → p = hdrB i l.length seq ++ p.drop 12 := by
    intro i p hp
    have hh := hall i p hp
    rw [okAt_iff] at hh
    obtain ⟨b1, b2, b3, b4, _, _⟩ := hh
    have := head_is b1
    rw [b2, b3, b4, Int.toNat_natCast] at this
    exact this
  have lens : ∀ i p, l[i]? = some p → 12 ≤ p.length ∧ p.length ≤ 472 ∧ (i + 1 = l.length ∨ p.length = 472) ∧ ¬ (i + 1 = l.length ∧ 0 < i ∧ p.length = 12) := by
    intro i p hp
    have hh := hall i p hp
    rw [okAt_iff] at hh
    obtain ⟨b1, _, _, _, b5, b6⟩ := hh
    have b1 := of_decide_eq_true b1
    exact ⟨b1.1, b1.2.1, b5, b6⟩
  -- the bytes of the first m pieces
  have pre : ∀ m, m < l.length → (joinB (l.take m)).length = 460 * m := by
    intro m
    induction m with
    | zero => intro _; simp [joinB]
    | succ m ih =>
      intro hm
      have hp : l[m]? = some (l[m]'(by omega)) := List.getElem?_eq_getElem _
      obtain ⟨c1, c2, c3, c4⟩ := lens m _ hp
      rw [List.take_add_one, hp]
      show (joinB (l.take m ++ [l[m]'(by omega)])).length = _
      unfold joinB at *
      rw [List.flatMap_append, List.length_append, ih (by omega)]
      simp only [List.flatMap_cons, List.flatMap_nil, List.append_nil, List.length_drop]
      omega
  have full : (joinB l).length = 460 * (l.length - 1) + ((l[l.length - 1]'(by omega)).length - 12) := by
    have hp : l[l.length - 1]? = some (l[l.length - 1]'(by omega)) := List.getElem?_eq_getElem _
    have e : l = l.take (l.length - 1) ++ [l[l.length - 1]'(by omega)] := by
      have := List.take_add_one (l := l) (i := l.length - 1)
      rw [show l.length - 1 + 1 = l.length by omega, List.take_of_length_le (Nat.le_refl _), hp] at this
      exact this
    have e2 : joinB l = joinB (l.take (l.length - 1)) ++ (l[l.length - 1]'(by omega)).drop 12 := by
      have : joinB l = joinB (l.take (l.length - 1) ++ [l[l.length - 1]'(by omega)]) := congrArg joinB e
      rw [this]; unfold joinB; rw [List.flatMap_append]; simp
    rw [e2, List.length_append, pre _ (by omega), List.length_drop]
  have hlast := lens (l.length - 1) _ (List.getElem?_eq_getElem (by omega))
  refine ⟨seq, rfl, hs, need_of (by omega) (by omega) (fun h => by omega), hN, ?_⟩
  apply List.ext_getElem?
  intro i
  rcases Nat.lt_or_ge i l.length with hi | hi
  · have hp : l[i]? = some (l[i]'hi) := List.getElem?_eq_getElem _
    obtain ⟨c1, c2, c3, c4⟩ := lens i _ hp
    rw [pieces_at hi, hp]
    congr 1
    have hd : chunk (joinB l) i = (l[i]'hi).drop 12 := by
      have e : l = l.take i ++ ([l[i]'hi] ++ l.drop (i + 1)) := by
        rw [← List.append_assoc, ← show l.take (i + 1) = l.take i ++ [l[i]'hi] by rw [List.take_add_one, hp]; rfl, List.take_append_drop]
      have e2 : joinB l = joinB (l.take i) ++ ((l[i]'hi).drop 12 ++ joinB (l.drop (i + 1))) := by
        have : joinB l = joinB (l.take i ++ ([l[i]'hi] ++ l.drop (i + 1))) := congrArg joinB e
        rw [this]; unfold joinB; rw [List.flatMap_append, List.flatMap_append]; simp
      unfold chunk
      rw [e2, List.drop_left' (pre i hi)]
      rcases c3 with c3 | c3
      · rw [show l.drop (i + 1) = [] from List.drop_eq_nil_of_le (by omega)]
        show ((l[i]'hi).drop 12 ++ []).take 460 = _
        rw [List.append_nil, List.take_of_length_le (by rw [List.length_drop]; omega)]
      · rw [List.take_left' (by rw [List.length_drop]; omega)]
    rw [hd]
    exact each i _ hp
  · rw [List.getElem?_eq_none hi, List.getElem?_eq_none (by rw [pieces_len]; exact hi)]

/-- What the reference joins: all pieces are as they must be. -/
def firstSeq (l : List (List UInt8)) : Int := hSeq (l.getD 0 [])
def joinOk (l : List (List UInt8)) : Bool := decide (l ≠ []) && (List.range l.length).all (fun i => okAt l (firstSeq l) i (l.getD i []))
theorem joinOk_iff {l : List (List UInt8)} : joinOk l = true ↔ sameRec l (firstSeq l) := by
  unfold joinOk sameRec
  rw [Bool.and_eq_true, decide_eq_true_iff, List.all_eq_true]
  constructor
  · rintro ⟨h1, h2⟩
    refine ⟨h1, fun i p hp => ?_⟩
    have hi := (List.getElem?_eq_some_iff.1 hp).1
    have := h2 i (List.mem_range.2 hi)
    rw [List.getD_eq_getElem?_getD, hp] at this
    exact this
  · rintro ⟨h1, h2⟩
    refine ⟨h1, fun i hi => ?_⟩
    have hi := List.mem_range.1 hi
    have := h2 i _ (List.getElem?_eq_getElem hi)
    rw [List.getD_eq_getElem?_getD, List.getElem?_eq_getElem hi]
    exact this
/-- What the program joins. -/
def progOk (l : List (List UInt8)) : Prop := l ≠ [] ∧ headOk (l.getD 0 []) = true ∧ (∀ p ∈ l, 12 ≤ p.length) ∧ splitL (firstSeq l) (joinB l) = l
theorem splitL_of {seq n : Nat} {b : List UInt8} (hs : seq ≤ 281474976710656) (hn : need b.length = n) (h2 : n ≤ 1024) : splitL seq b = pieces seq b n := by
  unfold splitL; rw [hn, if_neg (by omega), clampSeq_nat hs]
theorem firstSeq_pieces {seq n : Nat} {b : List UInt8} (hs : seq ≤ 281474976710656) (h1 : 1 ≤ n) (h2 : n ≤ 1024) : firstSeq (pieces seq b n) = seq := by
  unfold firstSeq
  rw [List.getD_eq_getElem?_getD, pieces_at (by omega : 0 < n)]
  exact (hdr_fields _ (by omega) (by omega) hs).2.2
theorem joinOk_pieces {seq n : Nat} {b : List UInt8} (hs : seq ≤ 281474976710656) (hn : need b.length = n) (h2 : n ≤ 1024) : joinOk (pieces seq b n) = true := by
  rw [joinOk_iff, firstSeq_pieces hs (need_bd hn).1 h2]
  exact pieces_ok hs hn h2
theorem prog_iff {l : List (List UInt8)} : progOk l ↔ joinOk l = true := by
  rw [joinOk_iff]
  constructor
  · rintro ⟨hne, hh, hl, hs⟩
    have h := of_decide_eq_true hh
    obtain ⟨_, _, _, _, _, h6, h7⟩ := h
    obtain ⟨seq, hq⟩ : ∃ n : Nat, firstSeq l = n := ⟨(firstSeq l).toNat, by show hSeq _ = _; unfold firstSeq; omega⟩
    have hle : seq ≤ 281474976710656 := by have : hSeq (l.getD 0 []) = seq := hq; omega
    rw [hq] at hs ⊢
    unfold splitL at hs
    split at hs
    · exact absurd hs.symm hne
    · rename_i hn
      rw [clampSeq_nat hle] at hs
      have := pieces_ok hle (rfl : need (joinB l).length = _) (by omega)
      rw [hs] at this
      exact this
  · intro h
    obtain ⟨seq, hq, hle, hn, hN, hp⟩ := ok_pieces h
    obtain ⟨hne, hall⟩ := h
    have hpos : 0 < l.length := List.length_pos_iff.2 hne
    refine ⟨hne, ?_, fun p hp => ?_, ?_⟩
    · have := (okAt_iff.1 (hall 0 _ (List.getElem?_eq_getElem hpos))).1
      rw [List.getD_eq_getElem?_getD, List.getElem?_eq_getElem hpos]
      exact this
    · obtain ⟨i, hi, rfl⟩ := List.mem_iff_getElem.1 hp
      have := of_decide_eq_true (okAt_iff.1 (hall i _ (List.getElem?_eq_getElem hi))).1
      exact this.1
    · rw [hq, splitL_of hle hn hN]
      exact hp.symm
/-- A record's pieces are joined again. -/
theorem split_join {z : Int} {b : List UInt8} (h : need b.length ≤ 1024) : joinOk (splitL z b) = true ∧ firstSeq (splitL z b) = clampSeq z ∧ joinB (splitL z b) = b := by
  have e : splitL z b = pieces (clampSeq z) b (need b.length) := by
    unfold splitL
    exact if_neg (Nat.not_lt.2 h)
  have hs := clampSeq_le z
  rw [e]
  clear e
  generalize clampSeq z = s at *
  obtain ⟨n, hn⟩ : ∃ n, need b.length = n := ⟨_, rfl⟩
  rw [hn] at h
  rw [hn]
  obtain ⟨h1, h2, _⟩ := need_bd hn
  refine ⟨joinOk_pieces hs hn h, ?_, joinB_pieces _ _ _ h2⟩
  exact firstSeq_pieces hs h1 h
/-- Where the pieces of two records, or of one in another order, are not joined. -/
theorem not_joined {l : List (List UInt8)} {i n seq : Nat} {k : Nat} {c : List UInt8} (hi : l[i]? = some (hdrB k n seq ++ c)) (hk : k < 65536) (hn : n < 65536) (hs : seq ≤ 281474976710656) (h : k ≠ i ∨ n ≠ l.length) : joinOk l = false := by
  rw [Bool.eq_false_iff]
  intro hj
  rw [joinOk_iff] at hj
  have := okAt_iff.1 (hj.2 i _ hi)
  obtain ⟨f1, f2, f3⟩ := hdr_fields (seq := seq) c hk hn hs
  rw [f1, f2] at this
  omega
theorem not_joined2 {l : List (List UInt8)} {i j n m seq seq' : Nat} {k k' : Nat} {c c' : List UInt8} (hi : l[i]? = some (hdrB k n seq ++ c)) (hj : l[j]? = some (hdrB k' m seq' ++ c')) (hk : k < 65536) (hk' : k' < 65536) (hn : n < 65536) (hm : m < 65536)
    (hs : seq ≤ 281474976710656) (hs' : seq' ≤ 281474976710656) (h : seq ≠ seq') : joinOk l = false := by
  rw [Bool.eq_false_iff]
  intro hj'
  rw [joinOk_iff] at hj'
  have a := (okAt_iff.1 (hj'.2 i _ hi)).2.2.2.1
  have b := (okAt_iff.1 (hj'.2 j _ hj)).2.2.2.1
  have f3 := (hdr_fields (seq := seq) c hk hn hs).2.2
  have g3 := (hdr_fields (seq := seq') c' hk' hm hs').2.2
  have e : (seq : Int) = seq' := (f3.symm.trans a).trans (b.symm.trans g3)
  exact h (Int.ofNat_inj.1 e)
end Go.Proofs.Ythkgchlndfcmpaa

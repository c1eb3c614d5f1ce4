/- Plain law: and so it goes on: the greatest epoch of a log over which sectors were laid; one turn behind the other. No program in sight. -/
import Derived.Test.YtfjgbnnjfapcmaaScanC
namespace Go.Proofs.Ytfjgbnnjfapcmaa
open Go.RowKit
set_option maxRecDepth 100000
set_option linter.unusedVariables false

theorem epoch_congr {s t : List UInt8} {a : Nat} (hs : s.length = 512) (ht : t.length = 512) (h : pieceOf s a 8 = pieceOf t a 8) : epochZ s a = epochZ t a := by
  unfold epochZ wordZ
  rw [if_pos hs, if_pos ht, h]
theorem take_all {a b : List UInt8} (ha : a.length = 512) (hb : b.length = 512) {j : Nat} (hj : j ≤ 64) :
    (epochZ (b.take (8 * j) ++ a.drop (8 * j)) 0 = epochZ a 0 ∨ epochZ (b.take (8 * j) ++ a.drop (8 * j)) 0 = epochZ b 0) ∧ (epochZ (b.take (8 * j) ++ a.drop (8 * j)) 504 = epochZ a 504 ∨ epochZ (b.take (8 * j) ++ a.drop (8 * j)) 504 = epochZ b 504) := by
  have hl : (b.take (8 * j) ++ a.drop (8 * j)).length = 512 := by rw [List.length_append, List.length_take, List.length_drop]; omega
  constructor
  · rcases Nat.eq_zero_or_pos j with h | h
    · left; exact epoch_congr hl ha (by rw [piece_right (by omega) (by omega)])
    · right; exact epoch_congr hl hb (piece_left (by omega) (by omega))
  · rcases Nat.lt_or_ge j 64 with h | h
    · left; exact epoch_congr hl ha (by rw [piece_right (by omega) (by omega)])
    · right; exact epoch_congr hl hb (piece_left (by omega) (by omega))
theorem top_tear {a b : List UInt8} {k M : Int} (ha : a.length = 512) (hb : b.length = 512) (h1 : topZ a ≤ M) (h2 : topZ b ≤ M) : topZ (tearB a b k) ≤ M := by
  have e1 := epoch_le a
  have e2 := epoch_le b
  unfold tearB
  split
  · obtain ⟨f1, f2⟩ := take_all ha hb (j := min k.toNat 64) (by omega)
    unfold topZ
    omega
  · split
    · obtain ⟨f1, f2⟩ := take_all hb ha (j := 64 - min (-k).toNat 64) (by omega)
      unfold topZ
      omega
    · exact h1
theorem top_laid {c : Cf} {l S : List (List UInt8)} {lsn M : Int} {T : List Int} (hl : ∀ s ∈ l, s.length = 512) (hS : ∀ s ∈ S, s.length = 512) (h1 : ∀ s ∈ l, topZ s ≤ M) (h2 : ∀ s ∈ S, topZ s ≤ M) : ∀ n, n ≤ S.length → ∀ s ∈ laidTo c l lsn S T n, topZ s ≤ M
  | 0, _ => h1
  | n + 1, hn => fun s hs => by
    have ih := top_laid (c := c) (lsn := lsn) (T := T) hl hS h1 h2 n (by omega)
    have i5 := laid512 (c := c) (lsn := lsn) (T := T) hl hS n (by omega)
    rw [laidTo] at hs
    rcases List.mem_or_eq_of_mem_set hs with h | h
    · exact ih s h
    · by_cases hp : plc c (lsn + (n : Nat)) < (laidTo c l lsn S T n).length
      · subst h
        have m1 : (laidTo c l lsn S T n).getD (plc c (lsn + (n : Nat))) [] ∈ laidTo c l lsn S T n := by
          rw [List.getD_eq_getElem?_getD, List.getElem?_eq_getElem hp]; exact List.getElem_mem _
        have m2 : S.getD n [] ∈ S := by
          rw [List.getD_eq_getElem?_getD, List.getElem?_eq_getElem (show n < S.length by omega)]; exact List.getElem_mem _
        exact top_tear (i5 _ m1) (hS _ m2) (ih _ m1) (h2 _ m2)
      · rw [List.set_eq_of_length_le (by omega)] at hs
        exact ih _ hs
theorem top_secs {m : Nat} (hm : m ≤ 281474976710656) : ∀ (R : List (List UInt8)) (lsn sq : Int), ∀ s ∈ secsF m lsn sq R, topZ s ≤ m
  | [], _, _, s, h => by simp [secsF] at h
  | b :: R, lsn, sq, s, h => by
    rw [secsF] at h
    rcases List.mem_append.1 h with h | h
    · unfold sealedF at h
      obtain ⟨i, _, rfl⟩ := List.mem_map.1 h
      rw [top_sealB]
      show ((nearN (m : Int) 281474976710656 : Nat) : Int) ≤ m
      rw [nearN_id hm]; exact Int.le_refl _
    · exact top_secs hm R _ _ s h
theorem topTo_bd {l : List (List UInt8)} {M : Int} (h0 : 0 ≤ M) (h : ∀ s ∈ l, topZ s ≤ M) : ∀ k, k ≤ l.length → topTo l k ≤ M
  | 0, _ => by rw [topTo_zero]; exact h0
  | k + 1, hk => by
    rw [topTo_next (by omega)]
    have h1 := topTo_bd h0 h k (by omega)
    have h2 : topZ (l.getD k []) ≤ M := h _ (by rw [List.getD_eq_getElem?_getD, List.getElem?_eq_getElem (show k < l.length by omega)]; exact List.getElem_mem _)
    exact Int.max_le.2 ⟨h1, h2⟩
/-- The epoch that a scan ends with is none above the greatest. -/
theorem from_ep {c : Cf} {l : List (List UInt8)} {hd M : Int} (hl : (l.length : Int) = c.log) (h : ∀ s ∈ l, topZ s ≤ M) : ∀ (n : Nat) {lsn ep sq : Int}, (c.log - (lsn - hd)).toNat ≤ n → ep ≤ M → (fromF c l hd lsn ep sq).ep ≤ M
  | n, lsn, ep, sq, hn, he => by
    by_cases hr : recB c l lsn ep sq (c.log - (lsn - hd)) = true
    · have h1 := one_most hr
      obtain ⟨m, rfl⟩ : ∃ m, n = m + 1 := ⟨n - 1, by omega⟩
      rw [from_go hr]
      have hb := h1.2.2.2.2.2.2.1
      obtain ⟨hp, h2, -, -⟩ := hasB_iff.1 hb
      have hlog : 0 < c.log := by have := ((of_decide_eq_true (placeB_iff.1 hp).1).1).1; omega
      have hm : sctAt c l lsn ∈ l := by
        rw [sctAt_plc, List.getD_eq_getElem?_getD, List.getElem?_eq_getElem (plc_lt hl hlog)]; exact List.getElem_mem _
      have h3 : (hasF c l lsn).ep ≤ M := by rw [hasF_yes hb]; exact Int.le_trans (ok_top h2) (h _ hm)
      exact from_ep hl h m (lsn := lsn + cntF c l lsn) (ep := (hasF c l lsn).ep) (sq := sq + 1) (by omega) h3
    · rw [from_stop (by simpa using hr)]; exact he
/-- A log that goes on. -/
structure AgSt (c : Cf) (l : List (List UInt8)) (all : List (List UInt8)) (M : Int) : Prop where
  full : ∀ s ∈ l, s.length = 512
  len : (l.length : Int) = c.log
  recs : (scanF c l 0 0 0).recs = all
  top : topTo l l.length ≤ M
theorem AgSt.next {c : Cf} {l all : List (List UInt8)} {M : Int} {R : List (List UInt8)} {T : List Int} (h : AgSt c l all M) (hr : rightB c = true) (hM : M ≤ 140737488355400) (hR : ∀ b ∈ R, need b.length ≤ 1024 ∧ (getFr b).2 = 0) (hn : R.length ≤ 20)
    (m : Nat) (hm : (m : Int) = topTo l l.length + 1)
    (hroom : ((secsF m (scanF c l 0 0 0).lsn (scanF c l 0 0 0).sq R).length : Int) ≤ 0 + c.log - (scanF c l 0 0 0).lsn) :
    AgSt c (laidF c l (scanF c l 0 0 0).lsn (secsF m (scanF c l 0 0 0).lsn (scanF c l 0 0 0).sq R) T) (all ++ R.take (cameN c (laidF c l (scanF c l 0 0 0).lsn (secsF m (scanF c l 0 0 0).lsn (scanF c l 0 0 0).sq R) T) m (scanF c l 0 0 0).lsn (scanF c l 0 0 0).sq R)) (M + 1) := by
  obtain ⟨t0, t1⟩ := top_all l
  have h9 := h.top
  have hlog := ((of_decide_eq_true hr).1).1
  have hm48 : m ≤ 281474976710656 := by omega
  have he : (scanF c l 0 0 0).ep ≤ m := from_ep h.len (fun s hs => by have := t1 s hs; omega) (c.log - (0 - 0)).toNat (Nat.le_refl _) (by omega)
  have g := grows (c := c) (l := l) (hd := 0) (ep := 0) (sq := 0) (m := m) (R := R) (T := T) hr h.len h.full (fun s hs => by have := t1 s hs; omega) hm48 (by omega) (by omega) (by omega) (by omega) hR he hroom
  obtain ⟨g1, -, -⟩ := g
  have hS := secs_512 m R (scanF c l 0 0 0).lsn (scanF c l 0 0 0).sq
  refine ⟨laid512 h.full hS _ (Nat.le_refl _), by unfold laidF; rw [laidTo_len]; exact h.len, by rw [g1, h.recs], ?_⟩
  have := topTo_bd (l := laidF c l (scanF c l 0 0 0).lsn (secsF m (scanF c l 0 0 0).lsn (scanF c l 0 0 0).sq R) T) (M := M + 1) (by omega) (fun s hs => by
    have h1 := top_laid (M := (m : Int)) h.full hS (fun s hs => by have := t1 s hs; omega) (top_secs hm48 R _ _) _ (Nat.le_refl _) s hs
    omega) _ (Nat.le_refl _)
  exact this
/-- A layout in the first box, the two lists of frames and the two of fates in theirs. -/
structure AgW (w W : World) (a b c d u : Value) (p1 p2 : Nat) (x1 x2 y1 y2 : Value) : Prop where
  k : KSt w W a b c d u
  two : W.heap[p1]? = some (.cells #[x1, x2] 39 (0, 0))
  fates : W.heap[p2]? = some (.cells #[y1, y2] 40 (0, 0))
  lt : w.heap.size < p1 ∧ p1 < p2
section
variable {w W W' : World} {a b c d u x1 x2 y1 y2 : Value} {p1 p2 : Nat}
theorem AgW.hp (h : AgW w W a b c d u p1 p2 x1 x2 y1 y2) : p2 < W.heap.size := (Array.getElem?_eq_some_iff.1 h.fates).1
theorem AgW.keep (h : AgW w W a b c d u p1 p2 x1 x2 y1 y2) : Keep (fun _ => False) w W := h.k.keep
theorem AgW.keep_ {S : Nat → Prop} (h : AgW w W a b c d u p1 p2 x1 x2 y1 y2) (hk : Keep S W W') (hS : ∀ x, S x → w.heap.size < x ∧ x ≠ p1 ∧ x ≠ p2) : AgW w W' a b c d u p1 p2 x1 x2 y1 y2 :=
  have h1 := h.lt
  have h2 := h.hp
  ⟨⟨(hk.block _ h.k.lt (fun e => by have := hS _ e; omega)).trans h.k.1, ((Keep.of_below h.k.2).trans hk (fun x _ e => by have := hS _ e; omega)).to_below (Nat.le_refl _)⟩, (hk.block _ (by omega) (fun e => (hS _ e).2.1 rfl)).trans h.two, (hk.block _ h2 (fun e => (hS _ e).2.2 rfl)).trans h.fates, h1⟩
theorem AgW.to (h : AgW w W a b c d u p1 p2 x1 x2 y1 y2) (hb : Below W.heap.size W W') : AgW w W' a b c d u p1 p2 x1 x2 y1 y2 := h.keep_ (Keep.of_below' hb) (fun _ h => h.elim)
end
/-- All records that came through so far. -/
def AlSt (w W : World) (p1 p2 : Nat) (va : Value) (all : List (List UInt8)) : Prop :=
  NBX bsN (fun _ => True) (w.heap.size + 1) 29 W va all ∧ ∀ e, ownB va = some e → e ≠ p1 ∧ e ≠ p2
theorem AlSt.same {w W W' : World} {p1 p2 : Nat} {va : Value} {all : List (List UInt8)} (h : AlSt w W p1 p2 va all) (hk : Keep (fun _ => False) W W') : AlSt w W' p1 p2 va all := ⟨h.1.keep hk (fun _ _ h => h) (fun _ _ _ _ h => h), h.2⟩
theorem AlSt.late {w W W' : World} {p1 p2 B : Nat} {va : Value} {all : List (List UInt8)} (h : AlSt w W p1 p2 va all) (hk : Keep (fun x => B ≤ x) W W') (hB : W.heap.size ≤ B) : AlSt w W' p1 p2 va all := h.same (hk.mono (fun x hx h => by omega))
theorem AlSt.bys {w W : World} {p1 p2 : Nat} {va : Value} {all : List (List UInt8)} (h : AlSt w W p1 p2 va all) : Bys W (fun _ => True) va all := h.1.nb.bys
end Go.Proofs.Ytfjgbnnjfapcmaa

/- Plain law: cmd.Get answers as vivariumref13.Get. -/
import Derived.Test.YtakchlaoimnnhaaCmdK
namespace Go.Proofs.Ytakchlaoimnnhaa
open Go.RowKit
set_option maxRecDepth 100000
set_option linter.unusedVariables false

theorem numS_ok {l : List UInt8} {k : Nat} {e width : Int} (h : k + wideN width ≤ l.length) : numS l ⟨k, false, e⟩ width = (getZ l k width, ⟨k + wideN width, false, e⟩) := by
  unfold numS numR
  simp [getOk_yes h]
theorem numS_no {l : List UInt8} {k : Nat} {width : Int} (h : l.length < k + wideN width) : (numS l ⟨k, false, 0⟩ width).2.e = 12 := by
  unfold numS numR
  simp [getOk_no (l := l) (at_ := (k : Int)) (width := width) (.inr (by omega))]
theorem numS_e {l : List UInt8} {s : RS} {width : Int} (h : s.e ≠ 0) : (numS l s width).2.e = s.e := by
  unfold numS
  simp [h]
theorem mustS_e' {s : RS} {is : Bool} {z : Int} (h : s.e ≠ 0) : (mustS s is z).e = s.e := by
  unfold mustS
  simp [h]
theorem tgtS_e {l : List UInt8} {s : RS} {loc : Bool} (h : s.e ≠ 0) : (tgtS l s loc).2.e = s.e := by
  unfold tgtS
  split
  · exact numS_e h
  · exact (numS_e (by rw [numS_e h]; exact h)).trans (numS_e h)
theorem cmpS_e {l : List UInt8} {s : RS} {d : Int} (h : s.e ≠ 0) : (cmpS l s d).2.e = s.e := by
  unfold cmpS
  split
  · rfl
  · exact numS_e h
theorem lenS_e {l : List UInt8} {s : RS} (h : s.e ≠ 0) : (lenS l s).2.e = s.e := by
  unfold lenS
  exact (mustS_e' (by rw [numS_e h]; exact h)).trans (numS_e h)
theorem datS_e {l : List UInt8} {s : RS} {d : Int} (h : s.e ≠ 0) : (datS l s d).2.e = s.e := by
  unfold datS
  split
  · exact (mustS_e' (by show (lenS l s).2.e ≠ 0; rw [lenS_e h]; exact h)).trans (lenS_e h)
  · rfl
theorem restS_eLoc {l : List UInt8} {s : RS} {d : Int} (h : (locS l s).2.e ≠ 0) : (restS l s d).2.e = (locS l s).2.e := by
  unfold restS
  have h1 := tgtS_e (l := l) (loc := (locS l s).1) h
  have h2 := cmpS_e (l := l) (d := d) (s := (tgtS l (locS l s).2 (locS l s).1).2) (by rw [h1]; exact h)
  exact (datS_e (d := d) (by rw [h2, h1]; exact h)).trans (h2.trans h1)
theorem w8 : wideN 8 = 8 := rfl
theorem w2 : wideN 2 = 2 := rfl
theorem w1 : wideN 1 = 1 := rfl
theorem tgt_ok {l : List UInt8} {loc : Bool} (h : e0R loc ≤ l.length) : tgtS l ⟨2, false, 0⟩ loc = ((getZ l 2 8, genR l loc), ⟨e0R loc, false, 0⟩) := by
  rcases loc with _ | _
  · have h' : 18 ≤ l.length := h
    have a := numS_ok (l := l) (k := 2) (e := 0) (width := 8) (by rw [w8]; omega)
    have b := numS_ok (l := l) (k := 10) (e := 0) (width := 8) (by rw [w8]; omega)
    unfold tgtS
    rw [if_neg (by decide), a]
    rw [w8]
    rw [show (2 + 8 : Nat) = 10 from rfl, b]
    rfl
  · have h' : 10 ≤ l.length := h
    have a := numS_ok (l := l) (k := 2) (e := 0) (width := 8) (by rw [w8]; omega)
    unfold tgtS
    rw [if_pos rfl, a]
    rfl
theorem tgt_no {l : List UInt8} {loc : Bool} (h : l.length < e0R loc) : (tgtS l ⟨2, false, 0⟩ loc).2.e = 12 := by
  rcases loc with _ | _
  · have h' : l.length < 18 := h
    unfold tgtS
    rw [if_neg (by decide)]
    by_cases h10 : l.length < 10
    · have a := numS_no (l := l) (k := 2) (width := 8) (by rw [w8]; omega)
      exact (numS_e (by rw [a]; decide)).trans a
    · have a := numS_ok (l := l) (k := 2) (e := 0) (width := 8) (by rw [w8]; omega)
      rw [a]
      exact numS_no (l := l) (k := 2 + wideN 8) (width := 8) (by rw [w8]; omega)
  · have h' : l.length < 10 := h
    unfold tgtS
    rw [if_pos rfl]
    exact numS_no (l := l) (k := 2) (width := 8) (by rw [w8]; omega)
theorem rest_law (l : List UInt8) (d : Int) (loc : Bool) (hd : d = 1 ∨ d = 2 ∨ d = 3) (hl : locS l ⟨1, false, 0⟩ = (loc, ⟨2, false, 0⟩)) :
    (restS l ⟨1, false, 0⟩ d).2.e = (refRest l d loc).2.2 ∧ ((refRest l d loc).2.2 = 0 → (restS l ⟨1, false, 0⟩ d).1 = (refRest l d loc).1 ∧ ((restS l ⟨1, false, 0⟩ d).2.k : Int) = (refRest l d loc).2.1) := by
  unfold restS
  rw [hl]
  have hz := getZ2_bd l (e0R loc + 8 : Nat)
  by_cases hT : l.length < e0R loc
  · have h1 := tgt_no hT
    have h2 := cmpS_e (l := l) (d := d) (s := (tgtS l ⟨2, false, 0⟩ loc).2) (by rw [h1]; decide)
    have h3 := datS_e (l := l) (d := d) (s := (cmpS l (tgtS l ⟨2, false, 0⟩ loc).2 d).2) (by rw [h2, h1]; decide)
    have hr : (refRest l d loc).2.2 = 12 := by
      unfold refRest
      have : getOk l (e0R loc + 8 : Nat) 2 = false := getOk_no (.inr (by rw [w2]; omega))
      rcases hd with rfl | rfl | rfl
      · rw [if_neg (by decide), if_pos rfl, if_pos (by omega)]
      · rw [if_pos rfl, if_neg (by rw [this]; simp), if_pos (by omega)]
      · rw [if_neg (by decide), if_neg (by decide), if_pos (by omega)]
    rw [hr]
    exact ⟨h3.trans (h2.trans h1), fun h => absurd h (by decide)⟩
  rw [tgt_ok (l := l) (loc := loc) (by omega)]
  generalize hE : e0R loc = E at *
  rcases hd with rfl | hd
  · have c1 : cmpS l ⟨E, false, 0⟩ 1 = (0, ⟨E, false, 0⟩) := by unfold cmpS; rw [if_pos rfl]
    have d1 : datS l ⟨E, false, 0⟩ 1 = ([], ⟨E, false, 0⟩) := by unfold datS; rw [if_neg (by decide)]
    have hr : refRest l 1 loc = ((⟨1, loc, getZ l 2 8, genR l loc, 0, []⟩ : Cmd), ((E : Nat) : Int), (0 : Int)) := by unfold refRest; rw [hE, if_neg (by decide), if_pos rfl, if_neg (by omega)]
    rw [c1, d1, hr]
    exact ⟨rfl, fun _ => ⟨rfl, rfl⟩⟩
  have hd1 : ¬ d = 1 := by omega
  have c3 : cmpS l ⟨E, false, 0⟩ d = numS l ⟨E, false, 0⟩ 8 := by unfold cmpS; rw [if_neg hd1]
  rw [c3]
  by_cases hC : l.length < E + 8
  · have h2 := numS_no (l := l) (k := E) (width := 8) (by rw [w8]; omega)
    have h3 := datS_e (l := l) (d := d) (s := (numS l ⟨E, false, 0⟩ 8).2) (by rw [h2]; decide)
    have hr : (refRest l d loc).2.2 = 12 := by
      unfold refRest
      have : getOk l (E + 8 : Nat) 2 = false := getOk_no (.inr (by rw [w2]; omega))
      rcases hd with rfl | rfl
      · rw [hE, if_pos rfl, if_neg (by rw [this]; simp), if_pos (by omega)]
      · rw [hE, if_neg (by decide), if_neg (by decide), if_pos (by omega)]
    rw [hr]
    exact ⟨h3.trans h2, fun h => absurd h (by decide)⟩
  have n8 := numS_ok (l := l) (k := E) (e := 0) (width := 8) (by rw [w8]; omega)
  rw [w8] at n8
  rw [n8]
  rcases hd with rfl | rfl
  · have hd2 : datS l ⟨E + 8, false, 0⟩ 2 = ((bytesR l (lenS l ⟨E + 8, false, 0⟩).2.k (lenS l ⟨E + 8, false, 0⟩).2.bad (lenS l ⟨E + 8, false, 0⟩).1).1, mustS ⟨(bytesR l (lenS l ⟨E + 8, false, 0⟩).2.k (lenS l ⟨E + 8, false, 0⟩).2.bad (lenS l ⟨E + 8, false, 0⟩).1).2.1, (bytesR l (lenS l ⟨E + 8, false, 0⟩).2.k (lenS l ⟨E + 8, false, 0⟩).2.bad (lenS l ⟨E + 8, false, 0⟩).1).2.2, (lenS l ⟨E + 8, false, 0⟩).2.e⟩ (!(bytesR l (lenS l ⟨E + 8, false, 0⟩).2.k (lenS l ⟨E + 8, false, 0⟩).2.bad (lenS l ⟨E + 8, false, 0⟩).1).2.2) 12) := by unfold datS; rw [if_pos rfl]
    rw [hd2]
    by_cases hL : l.length < E + 8 + 2
    · have a := numS_no (l := l) (k := E + 8) (width := 2) (by rw [w2]; omega)
      have b : (lenS l ⟨E + 8, false, 0⟩).2.e = 12 := by unfold lenS; exact (mustS_e' (by rw [a]; decide)).trans a
      have hr : (refRest l 2 loc).2.2 = 12 := by
        unfold refRest
        have : getOk l (E + 8 : Nat) 2 = false := getOk_no (.inr (by rw [w2]; omega))
        rw [hE, if_pos rfl, if_neg (by rw [this]; simp), if_pos (by omega)]
      rw [hr]
      exact ⟨(mustS_e' (by rw [b]; decide)).trans b, fun h => absurd h (by decide)⟩
    have a := numS_ok (l := l) (k := E + 8) (e := 0) (width := 2) (by rw [w2]; omega)
    have ok : getOk l (E + 8 : Nat) 2 = true := getOk_yes (by rw [w2]; omega)
    rw [w2] at a
    by_cases hbig : 64 < getZ l (E + 8 : Nat) 2
    · have b : (lenS l ⟨E + 8, false, 0⟩).2.e = 13 := by unfold lenS; rw [a]; unfold mustS; rw [if_pos ⟨decide_eq_false (by omega), rfl⟩]
      have hr : (refRest l 2 loc).2.2 = 13 := by unfold refRest; rw [hE, if_pos rfl, if_pos ⟨ok, hbig⟩]
      rw [hr]
      exact ⟨(mustS_e' (by rw [b]; decide)).trans b, fun h => absurd h (by decide)⟩
    have b : lenS l ⟨E + 8, false, 0⟩ = (getZ l (E + 8 : Nat) 2, ⟨E + 8 + 2, false, 0⟩) := by unfold lenS; rw [a]; unfold mustS; rw [if_neg (by intro h; have := h.1; rw [decide_eq_true (by omega)] at this; cases this)]
    rw [b]
    by_cases hS : (l.length : Int) < (E + 10 : Nat) + getZ l (E + 8 : Nat) 2
    · have hr : (refRest l 2 loc).2.2 = 12 := by unfold refRest; rw [hE, if_pos rfl, if_neg (fun h => hbig h.2), if_pos hS]
      have hb : bytesR l (E + 8 + 2) false (getZ l (E + 8 : Nat) 2) = ([], E + 8 + 2, true) := by unfold bytesR; rw [if_neg (by intro h; rcases h with h | h; cases h; omega), if_pos (by omega)]
      rw [hr, hb]
      exact ⟨by unfold mustS; rfl, fun h => absurd h (by decide)⟩
    · have hr : refRest l 2 loc = ((⟨2, loc, getZ l 2 8, genR l loc, getZ l E 8, (l.drop (E + 10)).take (getZ l (E + 8 : Nat) 2).toNat⟩ : Cmd), ((E + 10 : Nat) : Int) + getZ l (E + 8 : Nat) 2, (0 : Int)) := by unfold refRest; rw [hE, if_pos rfl, if_neg (fun h => hbig h.2), if_neg hS]
      have hb : bytesR l (E + 8 + 2) false (getZ l (E + 8 : Nat) 2) = ((l.drop (E + 8 + 2)).take (getZ l (E + 8 : Nat) 2).toNat, E + 8 + 2 + (getZ l (E + 8 : Nat) 2).toNat, false) := by unfold bytesR; rw [if_neg (by intro h; rcases h with h | h; cases h; omega), if_neg (by omega)]
      rw [hr, hb]
      refine ⟨by unfold mustS; rfl, fun _ => ⟨rfl, ?_⟩⟩
      have := Int.toNat_of_nonneg hz.1
      show (((E + 8 + 2 + (getZ l (E + 8 : Nat) 2).toNat : Nat)) : Int) = ((E + 10 : Nat) : Int) + getZ l (E + 8 : Nat) 2
      omega
  · have d1 : datS l ⟨E + 8, false, 0⟩ 3 = ([], ⟨E + 8, false, 0⟩) := by unfold datS; rw [if_neg (by decide)]
    have hr : refRest l 3 loc = ((⟨3, loc, getZ l 2 8, genR l loc, getZ l E 8, []⟩ : Cmd), ((E + 8 : Nat) : Int), (0 : Int)) := by unfold refRest; rw [hE, if_neg (by decide), if_neg (by decide), if_neg (by omega)]
    rw [d1, hr]
    exact ⟨rfl, fun _ => ⟨rfl, rfl⟩⟩
end Go.Proofs.Ytakchlaoimnnhaa

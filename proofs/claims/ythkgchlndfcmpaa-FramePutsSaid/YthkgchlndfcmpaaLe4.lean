/- Contracts of le.PutText, vivariumref01.Text, le.Cut, vivariumref01.Cut. -/
import Derived.Test.YthkgchlndfcmpaaProg
import Derived.Test.YthkgchlndfcmpaaLe2
import Derived.Test.YthkgchlndfcmpaaMem2
import Derived.Lib.ConvBytes
import Derived.Lib.Strings
namespace Go.Proofs.Ythkgchlndfcmpaa
open Go.RowKit
set_option maxRecDepth 100000

/-- A string's bytes. -/
def sb (s : ByteArray) : List UInt8 := s.data.toList
theorem sb_len (s : ByteArray) : (sb s).length = s.size := by unfold sb; rw [Array.length_toList]; rfl
theorem sb_extract (s : ByteArray) (k : Nat) : sb (s.extract 0 k) = (sb s).take k := by unfold sb; rw [Lib.extract_data]; rfl
theorem sb_cells (s : ByteArray) : byteCells s = bv (sb s) := rfl
/-- A text as bytes. -/
def textB (l : List UInt8) : List UInt8 := leB (word (min l.length 65535 : Nat)) 2 ++ l.take 65535
theorem leB2 (n : Int) : leB (word n) (wideN 2) = leB (word n) 2 := rfl

theorem textB_fit (l : List UInt8) (h : l.length ≤ 65535) : textB l = leB (word (l.length : Nat)) 2 ++ l := by
  unfold textB
  rw [Nat.min_eq_left h, List.take_of_length_le h]
theorem textB_take (l : List UInt8) : textB l = textB (l.take 65535) := by
  unfold textB
  rw [List.length_take, List.take_take, Nat.min_self]
  congr 3
  omega
theorem textB_len (l : List UInt8) : (textB l).length ≤ 65537 := by
  unfold textB
  rw [List.length_append, leB_len, List.length_take]; omega

/-- The part of both that appends a text's bytes behind its length. -/
theorem putText_any (l : List UInt8) (v : Value) (F : Nat → Prop) (s : ByteArray) (w : World) (hv : By w F v l) (hn : l.length ≤ 17592186044416) (hs : s.size ≤ 9223372036854775807) :
    Calls Try.prog 113 #[v, .string s] w fun e w' => ∃ u, e = .returned u ∧ Own w' w.heap.size 5 1 u (l ++ textB (sb s)).length (bv (l ++ textB (sb s))) ∧ Below w.heap.size w w' := by
  obtain ⟨i0, hi0, hz0, hz1, hz2⟩ := info_parts info_byte
  have P := Lib.hid (fun k : Nat => put_any l v F 2 k w hv (by omega))
  have L1 := Lib.hid (show ∀ (t : ByteArray) (k : Nat), t.size = k → k ≤ 65535 → sb t = (sb s).take 65535 → (l ++ leB (word (k : Nat)) 2).length + k = (l ++ textB (sb s)).length ∧ bv (l ++ leB (word (k : Nat)) 2) ++ byteCells t = bv (l ++ textB (sb s)) ∧ (l ++ leB (word (k : Nat)) 2).length ≤ 17592186044418 by
    intro t k ht hk he
    have hl := sb_len t
    have hx : textB (sb s) = leB (word (k : Nat)) 2 ++ sb t := by rw [textB_take, ← he, textB_fit _ (by omega), hl, ht]
    rw [hx]
    refine ⟨?_, ?_, ?_⟩
    · simp only [List.length_append]; omega
    · rw [sb_cells, ← bv_append, List.append_assoc]
    · rw [List.length_append, leB_len]; omega)
  have T1 := Lib.hid (show s.size ≤ 65535 → sb s = (sb s).take 65535 from fun h => (List.take_of_length_le (by rw [sb_len]; exact h)).symm)
  have T2 := Lib.hid (sb_extract s 65535)
  have T3 := Lib.hid (show 65535 < s.size → (s.extract 0 65535).size = 65535 from fun h => by rw [← sb_len, sb_extract, List.length_take, sb_len]; omega)
  clear hn hv
  by_cases hk : s.size ≤ 65535
  · obtain ⟨e1, e2, e3⟩ := L1.out s s.size rfl hk (T1.out hk)
    have E1 := Lib.hid e1
    have E2 := Lib.hid e2
    have E3 := Lib.hid e3
    have P1 := P.out s.size
    rw [leB2] at P1
    have P2 := Lib.hid P1
    clear e1 e2 e3 P P1 L1 T1 T2 T3
    generalize textB (sb s) = q at *
    go_enter Try.func113, Try.ntmps113
    go_wp2_with fail
    refine P2.out.mono ?_
    rintro e w1 ⟨u, rfl, hown, hb1⟩
    go_wp2_with (at_builtin; refine wpList_append_gen _ rfl _ _ _ _ rfl w.heap.size 5 i0 _ 1 1 Try.underlying37 hi0 hz0 hz1 hz2 rfl _ _ _ rfl hown _ _ _ rfl (Src.ofString _ Try.underlying9 s) ?c1 ?c2 ?c3 ?_)
    case c1 => have := E3.out; unfold maxLen; omega
    case c2 => have := E3.out; omega
    case c3 => exact hb1.size
    intro v' w2 hown' hk1 _
    have hb2 := append_below0 hb1 hown hk1
    have hown' := hown'.re E2.out (bv_len _)
    clear hk1 hown
    go_wp2
    go_ret
    exact ⟨_, rfl, hown', hb2⟩
  · have hk' : 65535 < s.size := by omega
    obtain ⟨e1, e2, e3⟩ := L1.out (s.extract 0 65535) (min 65535 s.size) (by rw [T3.out hk']; omega) (by omega) T2.out
    have E2 := Lib.hid e2
    have E3 := Lib.hid e3
    have P1 := P.out (min 65535 s.size)
    rw [leB2] at P1
    have P2 := Lib.hid P1
    clear e1 e2 e3 P P1 L1 T1 T2 T3 hk
    generalize textB (sb s) = q at *
    go_enter Try.func113, Try.ntmps113
    go_wp2_with fail
    refine P2.out.mono ?_
    rintro e w1 ⟨u, rfl, hown, hb1⟩
    go_wp2_with (at_builtin; refine wpList_append_gen _ rfl _ _ _ _ rfl w.heap.size 5 i0 _ 1 1 Try.underlying37 hi0 hz0 hz1 hz2 rfl _ _ _ rfl hown _ _ _ rfl (Src.ofString _ Try.underlying9 (s.extract 0 65535)) ?c1 ?c2 ?c3 ?_)
    case c1 => have := E3.out; simp only [List.length_append, leB_len] at this; unfold maxLen; simp [leB_len]; omega
    case c2 => have := E3.out; simp only [List.length_append, leB_len] at this; simp [leB_len]; omega
    case c3 => exact hb1.size
    intro v' w2 hown' hk1 _
    have hb2 := append_below0 hb1 hown hk1
    have hown' := hown'.re E2.out (bv_len _)
    clear hk1 hown
    go_wp2
    go_ret
    exact ⟨_, rfl, hown', hb2⟩

theorem keep_bytesWorld (w : World) (e : TypeId) (s : ByteArray) : Keep (fun _ => False) w (Lib.bytesWorld w e s) :=
  ⟨rfl, rfl, rfl, by rw [Lib.bytesWorld_size]; omega, fun k hk _ => Lib.bytesWorld_at_old w e s k hk⟩
theorem src_bytesWorld {P : Program} {tx e' : TypeId} (w : World) (e : TypeId) (s : ByteArray) (c : Nat) (hk : P.underlying tx = some (.slice e')) :
    Src P 1 tx (.slice (some ⟨w.heap.size, 0, none⟩) s.size c) s.size (bv (sb s)) (Lib.bytesWorld w e s) :=
  Src.ofSlice _ hk _ _ c _ (by rw [bv_len, sb_len, Nat.mul_one]) (fun j u hu => by
    have hj : j < (sb s).length := by
      rcases Nat.lt_or_ge j (sb s).length with h | h
      · exact h
      · rw [List.getElem?_eq_none (by rw [bv_len]; exact h)] at hu; cases hu
    obtain ⟨e1, e2⟩ := bv_at hj
    rw [e1] at hu
    injection hu with hu
    subst hu
    have e : (⟨w.heap.size, 0, none⟩ : Addr).add j = ⟨w.heap.size, j, none⟩ := by unfold Addr.add; split <;> simp_all
    rw [e]
    exact Lib.bytesWorld_cell w _ s j (by rw [← sb_len]; exact hj)) (bv_one _)

def cutN (n : Int) : Nat := if n < 0 then 0 else if 65535 < n then 65535 else n.toNat
def cutB (l : List UInt8) (m : Nat) : List UInt8 := l.take m ++ List.replicate (m - l.length) 0
theorem cutB_len (l : List UInt8) (m : Nat) : (cutB l m).length = m := by
  unfold cutB
  rw [List.length_append, List.length_take, List.length_replicate]; omega
theorem bv_zeros (m : Nat) : (madeCells #[Value.int .u8 0] m).toList = bv (List.replicate m 0) := by
  rw [toList_madeCells_one]
  simp [bv]
theorem size_byte : (Try.prog.info? 5).map (·.size) = some 1 := by kernel_rfl
theorem cut_cells (l : List UInt8) (m : Nat) : (bv l).take (min l.length m) ++ (bv (List.replicate m 0)).drop ((bv l).take (min l.length m)).length = bv (cutB l m) := by
  have e : (bv l).take (min l.length m) = bv (l.take m) := by
    rw [bv, bv, ← List.map_take]
    exact congrArg _ (List.take_eq_take_iff.2 (by omega))
  rw [e, bv_len, List.length_take, bv, bv, bv, ← List.map_drop, ← List.map_append, List.drop_replicate]
  unfold cutB
  congr 3
  omega

theorem cutB_step (l : List UInt8) (k : Nat) : cutB l (k + 1) = cutB l k ++ [l.getD k 0] := by
  unfold cutB
  by_cases h : k < l.length
  · have e : l[k]? = some (l.getD k 0) := by rw [List.getElem?_eq_getElem h, List.getD_eq_getElem?_getD, List.getElem?_eq_getElem h]; rfl
    rw [List.take_add_one, e, show k + 1 - l.length = 0 by omega, show k - l.length = 0 by omega]
    simp
  · have e : l.getD k 0 = 0 := by rw [List.getD_eq_getElem?_getD, List.getElem?_eq_none (by omega)]; rfl
    rw [e, List.take_of_length_le (by omega), List.take_of_length_le (by omega), show k + 1 - l.length = (k - l.length) + 1 by omega, List.replicate_succ', List.append_assoc]
theorem cutB_zero (l : List UInt8) : cutB l 0 = [] := by simp [cutB]

theorem refCut_any (l : List UInt8) (v : Value) (F : Nat → Prop) (n : Int) (w : World) (hv : By w F v l) :
    Calls Try.prog 120 #[v, .int .i64 n] w fun e w' => ∃ u, e = .returned u ∧ Own w' w.heap.size 5 1 u (cutN n) (bv (cutB l (cutN n))) ∧ Below w.heap.size w w' := by
  obtain ⟨i0, hi0, hz0, hz1, hz2⟩ := info_parts info_byte
  have hm : cutN n = if n < 0 then 0 else if 65535 < n then 65535 else n.toNat := rfl
  have h65 : cutN n ≤ 65535 := by rw [hm]; split <;> (try split) <;> omega
  have hs := Lib.hid (cutB_step l)
  have hz := Lib.hid (cutB_zero l)
  generalize cutN n = m at *
  have h3 : (n < 0 ∧ m ≤ 0) ∨ (65535 < n ∧ 65535 ≤ m) ∨ (0 ≤ n ∧ n ≤ 65535 ∧ n = m) := by
    rw [hm]; split
    · exact .inl ⟨by omega, by omega⟩
    · split
      · exact .inr (.inl ⟨by omega, by omega⟩)
      · exact .inr (.inr ⟨by omega, by omega, by omega⟩)
  clear hm
  obtain ⟨A, c, rfl, h1, h2, h4, hr⟩ := hv
  unfold maxLen at h2
  generalize hlen : l.length = len at *
  have HB := Lib.hid (show ∀ k, k < len → (bv l)[k]? = some (.int .u8 ((l.getD k 0).toNat : Int)) from fun k hk => (bv_at (by omega)).1)
  have HG := Lib.hid (show ∀ k, len ≤ k → l.getD k 0 = 0 from fun k hk => by rw [List.getD_eq_getElem?_getD, List.getElem?_eq_none (by omega)]; rfl)
  clear hlen
  rcases h3 with ⟨hn, hm0⟩ | ⟨hn, hm0⟩ | ⟨hn, hn', rfl⟩
  · have h1 : decide (65535 < n) = false := by rw [decide_eq_false_iff_not]; omega
    have H65 := Lib.hid h65
    clear h65
    go_enter Try.func120, Try.ntmps120
    go_wp2
    go_loopw [5, 6] (fun u i wr => ∃ k : Nat, k ≤ m ∧ i = .int .i64 k ∧ Own wr w.heap.size 5 1 u k (bv (cutB l k)) ∧ Below w.heap.size w wr) (fun _ i _ => m - (intOf i).toNat)
    case atStart => exact ⟨0, Nat.zero_le _, rfl, by rw [hz.out]; exact Own.none_ _ _ _ _ _, Below.refl _ _⟩
    case round =>
      obtain ⟨k, hk, rfl, hown, hbel⟩ := hrel
      have S := Lib.hid (hs.out k)
      have hkb : (k : Int) ≤ 4611686018427387904 := by have := H65.out; omega
      by_cases hlt : k < m
      · exact absurd hlt (by omega)
      · obtain rfl : k = m := by omega
        have hk3 : decide ((k : Int) < n) = false := by rw [decide_eq_false_iff_not]; omega
        clear h1
        go_wp2
        go_ret
        exact ⟨_, rfl, hown, hbel⟩
  · have h1 : decide (65535 < n) = true := by rw [decide_eq_true_iff]; omega
    have H65 := Lib.hid h65
    have HM := Lib.hid hm0
    clear h65 hm0
    go_enter Try.func120, Try.ntmps120
    go_wp2
    go_loopw [5, 6] (fun u i wr => ∃ k : Nat, k ≤ m ∧ i = .int .i64 k ∧ Own wr w.heap.size 5 1 u k (bv (cutB l k)) ∧ Below w.heap.size w wr) (fun _ i _ => m - (intOf i).toNat)
    case atStart => exact ⟨0, Nat.zero_le _, rfl, by rw [hz.out]; exact Own.none_ _ _ _ _ _, Below.refl _ _⟩
    case round =>
      obtain ⟨k, hk, rfl, hown, hbel⟩ := hrel
      have S := Lib.hid (hs.out k)
      have hkb : (k : Int) ≤ 4611686018427387904 := by have := H65.out; omega
      by_cases hlt : k < m
      · have hk2 : decide ((k : Int) < 65535) = true := by rw [decide_eq_true_iff]; have := H65.out; omega
        by_cases hin : k < len
        · obtain ⟨b, off, rfl, _, hc⟩ := (hr.below hbel).at_ (k := k) (by omega)
          have c1 := hc k _ (HB.out k hin)
          generalize l.getD k 0 = x at *
          clear hc
          go_wp2_with (at_builtin; refine wpList_append_gen _ rfl _ _ _ _ rfl w.heap.size 5 i0 _ 1 1 Try.underlying37 hi0 hz0 hz1 hz2 rfl _ _ _ rfl (hown.alloc _) _ 1 _ rfl (src_one _ _ Try.underlying37 rfl) ?c1 ?c2 ?c3 ?_)
          case c1 => have := H65.out; unfold maxLen; omega
          case c2 => have := H65.out; omega
          case c3 => have := hbel.size; simp; omega
          intro v' w2 hown' hk1 _
          have hb2 := append_below hbel hown hk1
          clear hk1 hown hbel c1
          go_wp2
          go_roundw
          case rel => exact ⟨k + 1, by omega, by go_num, by rw [S.out, bv_append]; exact hown', hb2⟩
          case measure => simp [intOf]; omega
        · have HX := Lib.hid (HG.out k (by omega))
          go_wp2_with (at_builtin; refine wpList_append_gen _ rfl _ _ _ _ rfl w.heap.size 5 i0 _ 1 1 Try.underlying37 hi0 hz0 hz1 hz2 rfl _ _ _ rfl (hown.alloc _) _ 1 _ rfl (src_one _ _ Try.underlying37 rfl) ?d1 ?d2 ?d3 ?_)
          case d1 => have := H65.out; unfold maxLen; omega
          case d2 => have := H65.out; omega
          case d3 => have := hbel.size; simp; omega
          intro v' w2 hown' hk1 _
          have hb2 := append_below hbel hown hk1
          clear hk1 hown hbel
          go_wp2
          go_roundw
          case rel => exact ⟨k + 1, by omega, by go_num, by rw [S.out, HX.out, bv_append]; exact hown', hb2⟩
          case measure => simp [intOf]; omega
      · obtain rfl : k = m := by omega
        have hk2 : decide ((k : Int) < 65535) = false := by rw [decide_eq_false_iff_not]; have := HM.out; omega
        go_wp2
        go_ret
        exact ⟨_, rfl, hown, hbel⟩
  · have h1 : decide (65535 < (m : Int)) = false := by rw [decide_eq_false_iff_not]; omega
    have H65 := Lib.hid h65
    clear h65 hn'
    go_enter Try.func120, Try.ntmps120
    go_wp2
    go_loopw [5, 6] (fun u i wr => ∃ k : Nat, k ≤ m ∧ i = .int .i64 k ∧ Own wr w.heap.size 5 1 u k (bv (cutB l k)) ∧ Below w.heap.size w wr) (fun _ i _ => m - (intOf i).toNat)
    case atStart => exact ⟨0, Nat.zero_le _, rfl, by rw [hz.out]; exact Own.none_ _ _ _ _ _, Below.refl _ _⟩
    case round =>
      obtain ⟨k, hk, rfl, hown, hbel⟩ := hrel
      have S := Lib.hid (hs.out k)
      have hkb : (k : Int) ≤ 4611686018427387904 := by have := H65.out; omega
      by_cases hlt : k < m
      · by_cases hin : k < len
        · obtain ⟨b, off, rfl, _, hc⟩ := (hr.below hbel).at_ (k := k) (by omega)
          have c1 := hc k _ (HB.out k hin)
          generalize l.getD k 0 = x at *
          clear hc
          go_wp2_with (at_builtin; refine wpList_append_gen _ rfl _ _ _ _ rfl w.heap.size 5 i0 _ 1 1 Try.underlying37 hi0 hz0 hz1 hz2 rfl _ _ _ rfl (hown.alloc _) _ 1 _ rfl (src_one _ _ Try.underlying37 rfl) ?c1 ?c2 ?c3 ?_)
          case c1 => have := H65.out; unfold maxLen; omega
          case c2 => have := H65.out; omega
          case c3 => have := hbel.size; simp; omega
          intro v' w2 hown' hk1 _
          have hb2 := append_below hbel hown hk1
          clear hk1 hown hbel c1
          go_wp2
          go_roundw
          case rel => exact ⟨k + 1, by omega, by go_num, by rw [S.out, bv_append]; exact hown', hb2⟩
          case measure => simp [intOf]; omega
        · have HX := Lib.hid (HG.out k (by omega))
          go_wp2_with (at_builtin; refine wpList_append_gen _ rfl _ _ _ _ rfl w.heap.size 5 i0 _ 1 1 Try.underlying37 hi0 hz0 hz1 hz2 rfl _ _ _ rfl (hown.alloc _) _ 1 _ rfl (src_one _ _ Try.underlying37 rfl) ?d1 ?d2 ?d3 ?_)
          case d1 => have := H65.out; unfold maxLen; omega
          case d2 => have := H65.out; omega
          case d3 => have := hbel.size; simp; omega
          intro v' w2 hown' hk1 _
          have hb2 := append_below hbel hown hk1
          clear hk1 hown hbel
          go_wp2
          go_roundw
          case rel => exact ⟨k + 1, by omega, by go_num, by rw [S.out, HX.out, bv_append]; exact hown', hb2⟩
          case measure => simp [intOf]; omega
      · obtain rfl : k = m := by omega
        go_wp2
        go_ret
        exact ⟨_, rfl, hown, hbel⟩
end Go.Proofs.Ythkgchlndfcmpaa

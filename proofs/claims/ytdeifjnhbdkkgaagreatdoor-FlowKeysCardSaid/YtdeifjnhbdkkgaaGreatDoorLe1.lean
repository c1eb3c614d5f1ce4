/- Bytes in memory; contracts of slices.Clone at []byte, le.wide, vivariumref01.wide, vivariumref01.Same. -/
import Derived.Test.YtdeifjnhbdkkgaaGreatDoorProg
import Derived.Test.YtdeifjnhbdkkgaaGreatDoorMem
import Derived.Test.YtdeifjnhbdkkgaaGreatDoorLePl
import Derived.WalkKit
import Derived.Outline
import Derived.Lib.Hide
import Derived.WalkLawsBesides
import Derived.WalkSpells
import Derived.Laws.BytesArg
import Derived.Deep.QuietTactic
import Derived.BigQuiet
import Derived.Lib.ConvBytes
import Derived.Lib.Strings
namespace Go.Proofs.YtdeifjnhbdkkgaaGreatDoor
open Go.RowKit
set_option maxRecDepth 100000

/-- Bytes, as cells. -/
def bv (l : List UInt8) : List Value := l.map fun c => .int .u8 (c.toNat : Int)
theorem bv_len (l : List UInt8) : (bv l).length = l.length := by simp [bv]
theorem bv_append (a b : List UInt8) : bv (a ++ b) = bv a ++ bv b := by simp [bv]
theorem bv_one (l : List UInt8) : ∀ u ∈ bv l, u.oneCell' = true := by
  intro u hu
  obtain ⟨_, _, rfl⟩ := List.mem_map.1 hu
  rfl
theorem bv_at {l : List UInt8} {k : Nat} (h : k < l.length) : (bv l)[k]? = some (.int .u8 ((l.getD k 0).toNat : Int)) ∧ l[k]? = some (l.getD k 0) := by
  have e : l[k]? = some (l.getD k 0) := by rw [List.getElem?_eq_getElem h, List.getD_eq_getElem?_getD, List.getElem?_eq_getElem h]; rfl
  exact ⟨by rw [bv, List.getElem?_map, e]; rfl, e⟩
/-- The slice value v reads as these bytes. -/
def By (w : World) (F : Nat → Prop) (v : Value) (l : List UInt8) : Prop := Sl w F 1 v l.length (bv l)
theorem info_byte : (Tryz.prog.info? 5).map (fun i => (i.zero, i.size, i.bytes)) = some (some (.int .u8 0), 1, 1) := by kernel_rfl
theorem By.src {P : Program} {w : World} {F : Nat → Prop} {v : Value} {l : List UInt8} {tx e' : TypeId} (h : By w F v l) (hk : P.underlying tx = some (.slice e')) : Src P 1 tx v l.length (bv l) w := by
  obtain ⟨A, c, rfl, _, _, _, hr⟩ := h
  exact hr.src hk (bv_one l) (by omega)
/-- string(b). -/
theorem run_str {P : Program} {w : World} {F : Nat → Prop} {v : Value} {l : List UInt8} {src e dst : TypeId} (h : By w F v l) (hs : P.underlying src = some (.slice e)) (he : P.underlying e = some (.int .u8)) (hd : P.underlying dst = some .string) :
    (convert src dst v).run P w = .ok (.string ⟨l.toArray⟩) w := by
  obtain ⟨A, c, rfl, _, _, _, hr⟩ := h
  rcases Nat.eq_zero_or_pos l.length with h0 | h0
  · have hl : l = [] := List.eq_nil_of_length_eq_zero h0
    subst hl
    rcases A with _ | a
    · exact run_convert_bytes_nil w src e hs he _ c dst hd
    · rw [run_convert_bytes_string w src dst e _ _ c hs he hd, run_bytesToString w a _ c [] (by simp [loadCells, loadCellsFrom])]
      rfl
  · obtain ⟨b, off, rfl, _, hc⟩ := hr.2 (by omega)
    have hx : strOfNums (l.map fun c => (c.toNat : Int)) = ⟨l.toArray⟩ := by
      unfold strOfNums
      congr 2
      rw [List.map_map]
      conv => rhs; rw [← List.map_id l]
      exact List.map_congr_left fun c _ => by simp
    rw [← hx]
    exact run_convert_bytes_arg w src e hs he b off l.length c _ (by simp) (fun i hi => by
      rw [hc i _ (bv_at hi).1]
      simp [List.getD_eq_getElem?_getD, List.getElem?_eq_getElem hi]) dst hd

theorem wide_any (n : Int) (w : World) :
    Calls Tryz.prog 65 #[.int .i64 n] w fun e w' => e = .returned (.int .i64 (wideN n : Nat)) ∧ w = w' := by
  have h : (wideN n : Int) = if n < 1 then 1 else if 8 < n then 8 else n := by unfold wideN; split <;> (try split) <;> omega
  have H := Lib.hid h
  clear h
  by_cases h1 : n < 1
  · rw [if_pos h1] at H
    go_enter Tryz.func65, Tryz.ntmps65
    go_wp2
    go_ret
    exact ⟨ret_int H.out.symm, rfl⟩
  · rw [if_neg h1] at H
    by_cases h2 : 8 < n
    · rw [if_pos h2] at H
      go_enter Tryz.func65, Tryz.ntmps65
      go_wp2
      go_ret
      exact ⟨ret_int H.out.symm, rfl⟩
    · rw [if_neg h2] at H
      go_enter Tryz.func65, Tryz.ntmps65
      go_wp2
      go_ret
      exact ⟨ret_int H.out.symm, rfl⟩
theorem same_any (xs ys : List UInt8) (u v : Value) (F G : Nat → Prop) (w : World) (ha : By w F u xs) (hb : By w G v ys) :
    Calls Tryz.prog 11 #[u, v] w fun e w' => e = .returned (.bool (decide (xs = ys))) ∧ w = w' := by
  have r1 := run_str (P := Tryz.prog) ha Tryz.underlying28 Tryz.underlying5 Tryz.underlying9
  have r2 := run_str (P := Tryz.prog) hb Tryz.underlying28 Tryz.underlying5 Tryz.underlying9
  clear ha hb
  go_enter Tryz.func11, Tryz.ntmps11
  go_wp2
  go_ret
  refine ⟨ret_bool ?_, rfl⟩
  show (xs == ys) = _
  rw [Bool.eq_iff_iff, beq_iff_eq, decide_eq_true_iff]

/-- slices.Clone at []byte: new memory. -/
theorem clone_any (l : List UInt8) (v : Value) (F : Nat → Prop) (w : World) (hv : By w F v l) (hn : l.length ≤ 140737488355328) :
    Calls Tryz.prog 64 #[v] w fun e w' => ∃ u, e = .returned u ∧ Own w' w.heap.size 5 1 u l.length (bv l) ∧ Below w.heap.size w w' := by
  obtain ⟨i0, hi0, hz0, hz1, hz2⟩ := info_parts info_byte
  have S := Lib.hid hv
  have HN := Lib.hid hn
  clear hn
  obtain ⟨A, c, rfl, h1, h2, h3, h4⟩ := hv
  generalize hx : bv l = xs at *
  have hl := h4.1
  have X := Lib.hid hx
  clear hx
  rcases A with _ | a
  · have h0 : l.length = 0 := by have := h3 rfl; omega
    have hx : xs = [] := List.eq_nil_of_length_eq_zero (by omega)
    generalize l.length = n at *
    subst h0 hx
    clear h1 h2 h3 h4 hl
    have hq := fun (w : World) => Lib.run_eql_slice_nil (P := Tryz.prog) w 28 5 none 0 c 0 0 Tryz.underlying28
    go_enter Tryz.func64, Tryz.ntmps64
    go_wp2
    go_ret
    exact ⟨_, rfl, Own.none_ _ _ _ _ _, Below.refl _ _⟩
  · have hq := fun (w : World) => Lib.run_eql_slice_nil (P := Tryz.prog) w 28 5 (some a) l.length c 0 0 Tryz.underlying28
    generalize l.length = n at *
    go_enter Tryz.func64, Tryz.ntmps64
    have hs := (h4.alloc (.cells #[] 5)).src (c := c) (P := Tryz.prog) Tryz.underlying28 (by rw [← X.out]; exact bv_one l) (by omega)
    have HS := Lib.hid hs
    clear hs h4
    go_wp2_with (at_builtin; refine wpList_append_gen _ rfl _ _ _ _ rfl w.heap.size 5 i0 _ 1 1 Tryz.underlying28 hi0 hz0 hz1 hz2 rfl _ _ _ rfl (Own.none_ _ _ _ _ _) _ n xs rfl HS.out ?c1 ?c2 ?c3 ?_)
    case c1 => have := HN.out; unfold maxLen; omega
    case c2 => have := HN.out; omega
    case c3 => simp
    intro v' w1 hown' hk1 _
    have hb1 := append_below (Below.refl _ w) (Own.none_ w w.heap.size 5 1 _) hk1
    clear hk1
    go_wp2
    go_ret
    exact ⟨_, rfl, hown', hb1⟩
theorem By.lit (w : World) (e : TypeId) (l : List UInt8) (h : l.length ≤ 4611686018427387904) : By (w.alloc (.cells (bv l).toArray e)) (fun k => k = w.heap.size) (.slice (some ⟨w.heap.size, 0, none⟩) l.length l.length) l := by
  have := Sl.lit w e (bv l) (by rw [bv_len]; unfold maxLen; omega)
  rw [bv_len] at this
  exact this
theorem By.nil (w : World) (F : Nat → Prop) : By w F (.slice none 0 0) [] := Sl.nil w F 1
theorem Own.by_ {w : World} {base : Nat} {e : TypeId} {v : Value} {l : List UInt8} (h : Own w base e 1 v l.length (bv l)) : By w (fun k => base ≤ k) v l := h.sl
theorem sl_by {w : World} {F : Nat → Prop} {v : Value} {n : Nat} {l : List UInt8} (h : Sl w F 1 v n (bv l)) : By w F v l := by
  have := h.len
  rw [bv_len, Nat.mul_one] at this
  unfold By
  rw [this]
  exact h
end Go.Proofs.YtdeifjnhbdkkgaaGreatDoor
namespace Go.Proofs.YtdeifjnhbdkkgaaGreatDoor
open Go.RowKit
set_option maxRecDepth 100000

theorem put_any (l : List UInt8) (v : Value) (F : Nat → Prop) (width n : Int) (w : World) (hv : By w F v l) (hn : l.length ≤ 35184372088832) :
    Calls Tryz.prog 42 #[v, .int .i64 width, .int .i64 n] w fun e w' => ∃ u, e = .returned u ∧ Own w' w.heap.size 5 1 u (l ++ leB (word n) (wideN width)).length (bv (l ++ leB (word n) (wideN width))) ∧ Below w.heap.size w w' := by
  obtain ⟨i0, hi0, hz0, hz1, hz2⟩ := info_parts info_byte
  have S := Lib.hid hv
  have HN := Lib.hid hn
  clear hn
  obtain ⟨A, c, rfl, h1, h2, h3, h4⟩ := hv
  have hv' : By w F (.slice A l.length l.length) l := ⟨A, l.length, rfl, Nat.le_refl _, by omega, fun h => by have := h3 h; omega, h4⟩
  have S := Lib.hid hv'
  clear h3 h4 hv'
  have W := Lib.hid (wide_any width)
  have hw := wideN_in width
  generalize hM : wideN width = m at *
  clear hM
  have hu := Lib.hid (leB_len (word n))
  have hb := Lib.hid (show ∀ k : Nat, k < 8 → n / 2 ^ (8 * k) % 256 = ((UInt8.ofNat (word n / 256 ^ k)).toNat : Int) from fun k hk => by rw [← IntKind.wrap_u8']; exact byte_of n k hk)
  generalize hL : l.length = len at *
  have HL := Lib.hid hL
  clear hL
  go_enter Tryz.func42, Tryz.ntmps42
  go_wp2_with fail
  refine (clone_any l _ F _ S.out (by rw [HL.out]; have := HN.out; omega)).mono ?_
  rintro e w1 ⟨u, rfl, hown, hb1⟩
  rw [HL.out] at hown
  go_wp2_with fail
  refine (W.out _).mono ?_
  rintro e w' ⟨rfl, rfl⟩
  go_wp2_with fail
  go_loopw [7, 18] (fun u i wr => ∃ k : Nat, k ≤ m ∧ i = .int .i64 k ∧ Own wr w.heap.size 5 1 u (len + k) (bv (l ++ leB (word n) k)) ∧ Below w.heap.size w wr) (fun _ i _ => m - (intOf i).toNat)
  case atStart => exact ⟨0, by omega, rfl, by simpa [leB] using hown, hb1⟩
  case round =>
    obtain ⟨k, hk, rfl, hown, hbel⟩ := hrel
    by_cases hlt : k < m
    · go_wp2_with (at_builtin; refine wpList_append_gen _ rfl _ _ _ _ rfl w.heap.size 5 i0 _ 1 1 Tryz.underlying28 hi0 hz0 hz1 hz2 rfl _ _ _ rfl (hown.alloc _) _ 1 _ rfl (src_one _ _ Tryz.underlying28 rfl) ?c1 ?c2 ?c3 ?_)
      case c1 => have := HN.out; unfold maxLen; omega
      case c2 => have := HN.out; omega
      case c3 => have := hbel.size; simp; omega
      intro v' w2 hown' hk1 _
      have hb2 := append_below hbel hown hk1
      clear hk1 hown hbel
      go_wp2
      go_roundw
      case rel => exact ⟨k + 1, by omega, by go_num, by rw [hb.out k (by omega)] at hown'; rw [leB, ← List.append_assoc, bv_append]; exact hown', hb2⟩
      case measure => simp [intOf]; omega
    · obtain rfl : k = m := by omega
      go_wp2
      go_ret
      exact ⟨_, rfl, by rw [List.length_append, HL.out, hu.out k]; exact hown, hbel⟩

end Go.Proofs.YtdeifjnhbdkkgaaGreatDoor
namespace Go.Proofs.YtdeifjnhbdkkgaaGreatDoor
open Go.RowKit
set_option maxRecDepth 100000

/-- The bytes of a number at a place. -/
def pieceOf (l : List UInt8) (at_ m : Nat) : List UInt8 := (l.drop at_).take m
theorem piece_len (l : List UInt8) (at_ m : Nat) (h : at_ + m ≤ l.length) : (pieceOf l at_ m).length = m := by
  unfold pieceOf
  rw [List.length_take, List.length_drop]; omega
theorem piece_at (l : List UInt8) (at_ m k : Nat) (hk : k < m) : (pieceOf l at_ m)[k]? = l[at_ + k]? := by
  unfold pieceOf
  rw [List.getElem?_take, if_pos hk, List.getElem?_drop]

/-- Is a number there? -/
def getOk (l : List UInt8) (at_ width : Int) : Bool := decide (0 ≤ at_) && decide (at_ + wideN width ≤ l.length)
/-- Which? -/
def getZ (l : List UInt8) (at_ width : Int) : Int := if getOk l at_ width = true then wrap64 (getN (pieceOf l at_.toNat (wideN width))) else 0
theorem getOk_no {l : List UInt8} {at_ width : Int} (h : at_ < 0 ∨ (l.length : Int) < at_ + wideN width) : getOk l at_ width = false := by
  unfold getOk
  rcases h with h | h
  · rw [decide_eq_false (by omega)]; rfl
  · rw [decide_eq_false (p := at_ + wideN width ≤ l.length) (by omega)]; simp
theorem getOk_yes {l : List UInt8} {k : Nat} {width : Int} (h : k + wideN width ≤ l.length) : getOk l k width = true := by
  unfold getOk
  rw [decide_eq_true (by omega), decide_eq_true (by omega)]; rfl

end Go.Proofs.YtdeifjnhbdkkgaaGreatDoor
namespace Go.Proofs.YtdeifjnhbdkkgaaGreatDoor
open Go.RowKit
set_option maxRecDepth 100000

/-- A string's bytes. -/
def sb (s : ByteArray) : List UInt8 := s.data.toList
theorem sb_len (s : ByteArray) : (sb s).length = s.size := by unfold sb; rw [Array.length_toList]; rfl
theorem sb_extract (s : ByteArray) (k : Nat) : sb (s.extract 0 k) = (sb s).take k := by unfold sb; rw [Lib.extract_data]; rfl
theorem sb_cells (s : ByteArray) : byteCells s = bv (sb s) := rfl
/-- A text as bytes. -/
def textB (l : List UInt8) : List UInt8 := leB (word (min l.length 65535 : Nat)) 2 ++ l.take 65535
theorem leB2 (n : Int) : leB (word n) (wideN 2) = leB (word n) 2 := rfl

theorem textB_fit (l : List UInt8) (h : l.length ≤ 65535) : textB l = leB (word (l.length : Nat)) 2 ++ l := by
  unfold textB
  rw [Nat.min_eq_left h, List.take_of_length_le h]
theorem textB_take (l : List UInt8) : textB l = textB (l.take 65535) := by
  unfold textB
  rw [List.length_take, List.take_take, Nat.min_self]
  congr 3
  omega
theorem textB_len (l : List UInt8) : (textB l).length ≤ 65537 := by
  unfold textB
  rw [List.length_append, leB_len, List.length_take]; omega

/-- The part of both that appends a text's bytes behind its length. -/
theorem putText_any (l : List UInt8) (v : Value) (F : Nat → Prop) (s : ByteArray) (w : World) (hv : By w F v l) (hn : l.length ≤ 17592186044416) (hs : s.size ≤ 9223372036854775807) :
    Calls Tryz.prog 43 #[v, .string s] w fun e w' => ∃ u, e = .returned u ∧ Own w' w.heap.size 5 1 u (l ++ textB (sb s)).length (bv (l ++ textB (sb s))) ∧ Below w.heap.size w w' := by
  obtain ⟨i0, hi0, hz0, hz1, hz2⟩ := info_parts info_byte
  have P := Lib.hid (fun k : Nat => put_any l v F 2 k w hv (by omega))
  have L1 := Lib.hid (show ∀ (t : ByteArray) (k : Nat), t.size = k → k ≤ 65535 → sb t = (sb s).take 65535 → (l ++ leB (word (k : Nat)) 2).length + k = (l ++ textB (sb s)).length ∧ bv (l ++ leB (word (k : Nat)) 2) ++ byteCells t = bv (l ++ textB (sb s)) ∧ (l ++ leB (word (k : Nat)) 2).length ≤ 17592186044418 by
    intro t k ht hk he
    have hl := sb_len t
    have hx : textB (sb s) = leB (word (k : Nat)) 2 ++ sb t := by rw [textB_take, ← he, textB_fit _ (by omega), hl, ht]
    rw [hx]
    refine ⟨?_, ?_, ?_⟩
    · simp only [List.length_append]; omega
    · rw [sb_cells, ← bv_append, List.append_assoc]
    · rw [List.length_append, leB_len]; omega)
  have T1 := Lib.hid (show s.size ≤ 65535 → sb s = (sb s).take 65535 from fun h => (List.take_of_length_le (by rw [sb_len]; exact h)).symm)
  have T2 := Lib.hid (sb_extract s 65535)
  have T3 := Lib.hid (show 65535 < s.size → (s.extract 0 65535).size = 65535 from fun h => by rw [← sb_len, sb_extract, List.length_take, sb_len]; omega)
  clear hn hv
  by_cases hk : s.size ≤ 65535
  · obtain ⟨e1, e2, e3⟩ := L1.out s s.size rfl hk (T1.out hk)
    have E1 := Lib.hid e1
    have E2 := Lib.hid e2
    have E3 := Lib.hid e3
    have P1 := P.out s.size
    rw [leB2] at P1
    have P2 := Lib.hid P1
    clear e1 e2 e3 P P1 L1 T1 T2 T3
    generalize textB (sb s) = q at *
    go_enter Tryz.func43, Tryz.ntmps43
    go_wp2_with fail
    refine P2.out.mono ?_
    rintro e w1 ⟨u, rfl, hown, hb1⟩
    go_wp2_with (at_builtin; refine wpList_append_gen _ rfl _ _ _ _ rfl w.heap.size 5 i0 _ 1 1 Tryz.underlying28 hi0 hz0 hz1 hz2 rfl _ _ _ rfl hown _ _ _ rfl (Src.ofString _ Tryz.underlying9 s) ?c1 ?c2 ?c3 ?_)
    case c1 => have := E3.out; unfold maxLen; omega
    case c2 => have := E3.out; omega
    case c3 => exact hb1.size
    intro v' w2 hown' hk1 _
    have hb2 := append_below0 hb1 hown hk1
    have hown' := hown'.re E2.out (bv_len _)
    clear hk1 hown
    go_wp2
    go_ret
    exact ⟨_, rfl, hown', hb2⟩
  · have hk' : 65535 < s.size := by omega
    obtain ⟨e1, e2, e3⟩ := L1.out (s.extract 0 65535) (min 65535 s.size) (by rw [T3.out hk']; omega) (by omega) T2.out
    have E2 := Lib.hid e2
    have E3 := Lib.hid e3
    have P1 := P.out (min 65535 s.size)
    rw [leB2] at P1
    have P2 := Lib.hid P1
    clear e1 e2 e3 P P1 L1 T1 T2 T3 hk
    generalize textB (sb s) = q at *
    go_enter Tryz.func43, Tryz.ntmps43
    go_wp2_with fail
    refine P2.out.mono ?_
    rintro e w1 ⟨u, rfl, hown, hb1⟩
    go_wp2_with (at_builtin; refine wpList_append_gen _ rfl _ _ _ _ rfl w.heap.size 5 i0 _ 1 1 Tryz.underlying28 hi0 hz0 hz1 hz2 rfl _ _ _ rfl hown _ _ _ rfl (Src.ofString _ Tryz.underlying9 (s.extract 0 65535)) ?c1 ?c2 ?c3 ?_)
    case c1 => have := E3.out; simp only [List.length_append, leB_len] at this; unfold maxLen; simp [leB_len]; omega
    case c2 => have := E3.out; simp only [List.length_append, leB_len] at this; simp [leB_len]; omega
    case c3 => exact hb1.size
    intro v' w2 hown' hk1 _
    have hb2 := append_below0 hb1 hown hk1
    have hown' := hown'.re E2.out (bv_len _)
    clear hk1 hown
    go_wp2
    go_ret
    exact ⟨_, rfl, hown', hb2⟩

theorem keep_bytesWorld (w : World) (e : TypeId) (s : ByteArray) : Keep (fun _ => False) w (Lib.bytesWorld w e s) :=
  ⟨rfl, rfl, rfl, by rw [Lib.bytesWorld_size]; omega, fun k hk _ => Lib.bytesWorld_at_old w e s k hk⟩
theorem src_bytesWorld {P : Program} {tx e' : TypeId} (w : World) (e : TypeId) (s : ByteArray) (c : Nat) (hk : P.underlying tx = some (.slice e')) :
    Src P 1 tx (.slice (some ⟨w.heap.size, 0, none⟩) s.size c) s.size (bv (sb s)) (Lib.bytesWorld w e s) :=
  Src.ofSlice _ hk _ _ c _ (by rw [bv_len, sb_len, Nat.mul_one]) (fun j u hu => by
    have hj : j < (sb s).length := by
      rcases Nat.lt_or_ge j (sb s).length with h | h
      · exact h
      · rw [List.getElem?_eq_none (by rw [bv_len]; exact h)] at hu; cases hu
    obtain ⟨e1, e2⟩ := bv_at hj
    rw [e1] at hu
    injection hu with hu
    subst hu
    have e : (⟨w.heap.size, 0, none⟩ : Addr).add j = ⟨w.heap.size, j, none⟩ := by unfold Addr.add; split <;> simp_all
    rw [e]
    exact Lib.bytesWorld_cell w _ s j (by rw [← sb_len]; exact hj)) (bv_one _)

def cutN (n : Int) : Nat := if n < 0 then 0 else if 65535 < n then 65535 else n.toNat
def cutB (l : List UInt8) (m : Nat) : List UInt8 := l.take m ++ List.replicate (m - l.length) 0
theorem cutB_len (l : List UInt8) (m : Nat) : (cutB l m).length = m := by
  unfold cutB
  rw [List.length_append, List.length_take, List.length_replicate]; omega
theorem bv_zeros (m : Nat) : (madeCells #[Value.int .u8 0] m).toList = bv (List.replicate m 0) := by
  rw [toList_madeCells_one]
  simp [bv]
theorem size_byte : (Tryz.prog.info? 5).map (·.size) = some 1 := by kernel_rfl
theorem cut_cells (l : List UInt8) (m : Nat) : (bv l).take (min l.length m) ++ (bv (List.replicate m 0)).drop ((bv l).take (min l.length m)).length = bv (cutB l m) := by
  have e : (bv l).take (min l.length m) = bv (l.take m) := by
    rw [bv, bv, ← List.map_take]
    exact congrArg _ (List.take_eq_take_iff.2 (by omega))
  rw [e, bv_len, List.length_take, bv, bv, bv, ← List.map_drop, ← List.map_append, List.drop_replicate]
  unfold cutB
  congr 3
  omega

theorem cutB_step (l : List UInt8) (k : Nat) : cutB l (k + 1) = cutB l k ++ [l.getD k 0] := by
  unfold cutB
  by_cases h : k < l.length
  · have e : l[k]? = some (l.getD k 0) := by rw [List.getElem?_eq_getElem h, List.getD_eq_getElem?_getD, List.getElem?_eq_getElem h]; rfl
    rw [List.take_add_one, e, show k + 1 - l.length = 0 by omega, show k - l.length = 0 by omega]
    simp
  · have e : l.getD k 0 = 0 := by rw [List.getD_eq_getElem?_getD, List.getElem?_eq_none (by omega)]; rfl
    rw [e, List.take_of_length_le (by omega), List.take_of_length_le (by omega), show k + 1 - l.length = (k - l.length) + 1 by omega, List.replicate_succ', List.append_assoc]
theorem cutB_zero (l : List UInt8) : cutB l 0 = [] := by simp [cutB]

end Go.Proofs.YtdeifjnhbdkkgaaGreatDoor

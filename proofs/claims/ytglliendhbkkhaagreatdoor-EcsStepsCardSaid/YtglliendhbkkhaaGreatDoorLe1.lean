/- Bytes in memory; contracts of slices.Clone at []byte, le.wide, vivariumref01.wide, vivariumref01.Same. -/
import Derived.Test.YtglliendhbkkhaaGreatDoorProg
import Derived.Test.YtglliendhbkkhaaGreatDoorMem
import Derived.Test.YtglliendhbkkhaaGreatDoorLePl
import Derived.WalkKit
import Derived.Outline
import Derived.Lib.Hide
import Derived.WalkLawsBesides
import Derived.WalkSpells
import Derived.Laws.BytesArg
import Derived.Deep.QuietTactic
import Derived.BigQuiet
import Derived.Lib.ConvBytes
import Derived.Lib.Strings
namespace Go.Proofs.YtglliendhbkkhaaGreatDoor
open Go.RowKit
set_option maxRecDepth 100000

/-- Bytes, as cells. -/
def bv (l : List UInt8) : List Value := l.map fun c => .int .u8 (c.toNat : Int)
theorem bv_len (l : List UInt8) : (bv l).length = l.length := by simp [bv]
theorem bv_one (l : List UInt8) : ∀ u ∈ bv l, u.oneCell' = true := by
  intro u hu
  obtain ⟨_, _, rfl⟩ := List.mem_map.1 hu
  rfl
theorem bv_at {l : List UInt8} {k : Nat} (h : k < l.length) : (bv l)[k]? = some (.int .u8 ((l.getD k 0).toNat : Int)) ∧ l[k]? = some (l.getD k 0) := by
  have e : l[k]? = some (l.getD k 0) := by rw [List.getElem?_eq_getElem h, List.getD_eq_getElem?_getD, List.getElem?_eq_getElem h]; rfl
  exact ⟨by rw [bv, List.getElem?_map, e]; rfl, e⟩
/-- The slice value v reads as these bytes. -/
def By (w : World) (F : Nat → Prop) (v : Value) (l : List UInt8) : Prop := Sl w F 1 v l.length (bv l)
theorem info_byte : (Tryz.prog.info? 5).map (fun i => (i.zero, i.size, i.bytes)) = some (some (.int .u8 0), 1, 1) := by kernel_rfl
theorem By.src {P : Program} {w : World} {F : Nat → Prop} {v : Value} {l : List UInt8} {tx e' : TypeId} (h : By w F v l) (hk : P.underlying tx = some (.slice e')) : Src P 1 tx v l.length (bv l) w := by
  obtain ⟨A, c, rfl, _, _, _, hr⟩ := h
  exact hr.src hk (bv_one l) (by omega)
/-- string(b). -/
theorem run_str {P : Program} {w : World} {F : Nat → Prop} {v : Value} {l : List UInt8} {src e dst : TypeId} (h : By w F v l) (hs : P.underlying src = some (.slice e)) (he : P.underlying e = some (.int .u8)) (hd : P.underlying dst = some .string) :
    (convert src dst v).run P w = .ok (.string ⟨l.toArray⟩) w := by
  obtain ⟨A, c, rfl, _, _, _, hr⟩ := h
  rcases Nat.eq_zero_or_pos l.length with h0 | h0
  · have hl : l = [] := List.eq_nil_of_length_eq_zero h0
    subst hl
    rcases A with _ | a
    · exact run_convert_bytes_nil w src e hs he _ c dst hd
    · rw [run_convert_bytes_string w src dst e _ _ c hs he hd, run_bytesToString w a _ c [] (by simp [loadCells, loadCellsFrom])]
      rfl
  · obtain ⟨b, off, rfl, _, hc⟩ := hr.2 (by omega)
    have hx : strOfNums (l.map fun c => (c.toNat : Int)) = ⟨l.toArray⟩ := by
      unfold strOfNums
      congr 2
      rw [List.map_map]
      conv => rhs; rw [← List.map_id l]
      exact List.map_congr_left fun c _ => by simp
    rw [← hx]
    exact run_convert_bytes_arg w src e hs he b off l.length c _ (by simp) (fun i hi => by
      rw [hc i _ (bv_at hi).1]
      simp [List.getD_eq_getElem?_getD, List.getElem?_eq_getElem hi]) dst hd

theorem same_any (xs ys : List UInt8) (u v : Value) (F G : Nat → Prop) (w : World) (ha : By w F u xs) (hb : By w G v ys) :
    Calls Tryz.prog 24 #[u, v] w fun e w' => e = .returned (.bool (decide (xs = ys))) ∧ w = w' := by
  have r1 := run_str (P := Tryz.prog) ha Tryz.underlying43 Tryz.underlying5 Tryz.underlying9
  have r2 := run_str (P := Tryz.prog) hb Tryz.underlying43 Tryz.underlying5 Tryz.underlying9
  clear ha hb
  go_enter Tryz.func24, Tryz.ntmps24
  go_wp2
  go_ret
  refine ⟨ret_bool ?_, rfl⟩
  show (xs == ys) = _
  rw [Bool.eq_iff_iff, beq_iff_eq, decide_eq_true_iff]

/-- slices.Clone at []byte: new memory. -/
theorem clone_any (l : List UInt8) (v : Value) (F : Nat → Prop) (w : World) (hv : By w F v l) (hn : l.length ≤ 140737488355328) :
    Calls Tryz.prog 148 #[v] w fun e w' => ∃ u, e = .returned u ∧ Own w' w.heap.size 5 1 u l.length (bv l) ∧ Below w.heap.size w w' := by
  obtain ⟨i0, hi0, hz0, hz1, hz2⟩ := info_parts info_byte
  have S := Lib.hid hv
  have HN := Lib.hid hn
  clear hn
  obtain ⟨A, c, rfl, h1, h2, h3, h4⟩ := hv
  generalize hx : bv l = xs at *
  have hl := h4.1
  have X := Lib.hid hx
  clear hx
  rcases A with _ | a
  · have h0 : l.length = 0 := by have := h3 rfl; omega
    have hx : xs = [] := List.eq_nil_of_length_eq_zero (by omega)
    generalize l.length = n at *
    subst h0 hx
    clear h1 h2 h3 h4 hl
    have hq := fun (w : World) => Lib.run_eql_slice_nil (P := Tryz.prog) w 43 5 none 0 c 0 0 Tryz.underlying43
    go_enter Tryz.func148, Tryz.ntmps148
    go_wp2
    go_ret
    exact ⟨_, rfl, Own.none_ _ _ _ _ _, Below.refl _ _⟩
  · have hq := fun (w : World) => Lib.run_eql_slice_nil (P := Tryz.prog) w 43 5 (some a) l.length c 0 0 Tryz.underlying43
    generalize l.length = n at *
    go_enter Tryz.func148, Tryz.ntmps148
    have hs := (h4.alloc (.cells #[] 5)).src (c := c) (P := Tryz.prog) Tryz.underlying43 (by rw [← X.out]; exact bv_one l) (by omega)
    have HS := Lib.hid hs
    clear hs h4
    go_wp2_with (at_builtin; refine wpList_append_gen _ rfl _ _ _ _ rfl w.heap.size 5 i0 _ 1 1 Tryz.underlying43 hi0 hz0 hz1 hz2 rfl _ _ _ rfl (Own.none_ _ _ _ _ _) _ n xs rfl HS.out ?c1 ?c2 ?c3 ?_)
    case c1 => have := HN.out; unfold maxLen; omega
    case c2 => have := HN.out; omega
    case c3 => simp
    intro v' w1 hown' hk1 _
    have hb1 := append_below (Below.refl _ w) (Own.none_ w w.heap.size 5 1 _) hk1
    clear hk1
    go_wp2
    go_ret
    exact ⟨_, rfl, hown', hb1⟩
theorem By.lit (w : World) (e : TypeId) (l : List UInt8) (h : l.length ≤ 4611686018427387904) : By (w.alloc (.cells (bv l).toArray e)) (fun k => k = w.heap.size) (.slice (some ⟨w.heap.size, 0, none⟩) l.length l.length) l := by
  have := Sl.lit w e (bv l) (by rw [bv_len]; unfold maxLen; omega)
  rw [bv_len] at this
  exact this
theorem By.nil (w : World) (F : Nat → Prop) : By w F (.slice none 0 0) [] := Sl.nil w F 1
theorem sl_by {w : World} {F : Nat → Prop} {v : Value} {n : Nat} {l : List UInt8} (h : Sl w F 1 v n (bv l)) : By w F v l := by
  have := h.len
  rw [bv_len, Nat.mul_one] at this
  unfold By
  rw [this]
  exact h
end Go.Proofs.YtglliendhbkkhaaGreatDoor
namespace Go.Proofs.YtglliendhbkkhaaGreatDoor
open Go.RowKit
set_option maxRecDepth 100000

end Go.Proofs.YtglliendhbkkhaaGreatDoor
namespace Go.Proofs.YtglliendhbkkhaaGreatDoor
open Go.RowKit
set_option maxRecDepth 100000

end Go.Proofs.YtglliendhbkkhaaGreatDoor
namespace Go.Proofs.YtglliendhbkkhaaGreatDoor
open Go.RowKit
set_option maxRecDepth 100000

theorem bv_zeros (m : Nat) : (madeCells #[Value.int .u8 0] m).toList = bv (List.replicate m 0) := by
  rw [toList_madeCells_one]
  simp [bv]
end Go.Proofs.YtglliendhbkkhaaGreatDoor

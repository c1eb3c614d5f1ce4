/- The table in memory; contracts of table.Sig, Len, at, IDs. -/
import Derived.Test.YtdeifjnhbdkkgaaGreatDoorCol1
import Derived.Test.YtdeifjnhbdkkgaaGreatDoorMap
import Derived.Test.YtdeifjnhbdkkgaaGreatDoorBits3
import Derived.Test.YtdeifjnhbdkkgaaGreatDoorBitsListsW
import Derived.Test.YtdeifjnhbdkkgaaGreatDoorScr1
import Derived.Test.YtdeifjnhbdkkgaaGreatDoorArgs
import Derived.Deep.Cut
import Derived.Deep.DeepCutAuto
import Derived.Deep.RegionLaw
import Derived.Deep.RegionHeld3
import Derived.Deep.LoopGhost
import Derived.RegionTactic
import Derived.OwnWalk
import Derived.Laws.ResultCell
namespace Go.Proofs.YtdeifjnhbdkkgaaGreatDoor
open Go.RowKit
open Go.Maps (Keyed)
set_option maxRecDepth 100000
set_option linter.unusedVariables false
set_option linter.unusedSimpArgs false

theorem keyedInt : Keyed Tryz.prog 3 := Go.Maps.int_keyed Tryz.underlying3
theorem keyInt (z : Int) (h : -9223372036854775808 ≤ z ∧ z ≤ 9223372036854775807) : keyOf Tryz.prog 3 (.int .i64 z) = some (.int .i64 z) :=
  Go.Maps.keyOf_int_mk Tryz.underlying3 (by simp [Lit.wf, IntKind.min, IntKind.max, IntKind.signed, IntKind.bits]; omega)
theorem keyInt_inv {v : Value} {l : Lit} (h : keyOf Tryz.prog 3 v = some l) : ∃ a : Int, v = .int .i64 a := by
  cases v <;> simp [keyOf, Tryz.underlying3, mapKey] at h
  obtain ⟨⟨rfl, hw⟩, -⟩ := h
  exact ⟨_, rfl⟩
theorem zeroCol (w : World) : (zeroValue 123).run Tryz.prog w = .ok (.pointer none) w := by kernel_rfl
/-- An entity's name. -/
structure IdZ where
  ix : Int
  gen : Int
deriving DecidableEq, Inhabited
def idC (x : IdZ) : List Value := [.int .i64 x.ix, .int .i64 x.gen]
theorem idC_len (x : IdZ) : (idC x).length = 2 := rfl
theorem info_id : (Tryz.prog.info? 85).map (fun i => (i.zero, i.size, i.bytes)) = some (some (.agg #[.int .i64 0, .int .i64 0]), 2, 16) := by kernel_rfl
/-- What the map of columns holds. -/
def colF (L : List Nat) (cp : Nat → Nat) : Value → Option Value
  | .int .i64 z => if 0 ≤ z ∧ z.toNat ∈ L then some (.pointer (some ⟨cp z.toNat, 0, none⟩)) else none
  | _ => none
/-- The table at block tp: its map of columns at mb, its names the slice vs, the column of component c at block cp c with the blocks FC c. -/
structure Tb (w : World) (tp mb : Nat) (vs : Value) (cp : Nat → Nat) (FC : Nat → Nat → Prop) (sig : Nat) (sz : Nat → Nat) (ids : List IdZ) (col : Nat → List (List UInt8)) : Prop where
  lt64 : sig < 18446744073709551616
  box : w.heap[tp]? = some (.cells #[.int .u64 (sig : Int), vs, .map (some mb)] 120 (0, 0))
  own : Own w 0 85 2 vs ids.length (ids.flatMap idC)
  map : ∃ N, N ≤ 1000000 ∧ MapV w Tryz.prog 3 mb N (colF (bl sig 64) cp)
  cols : ∀ c, c ∈ bl sig 64 → Col w (cp c) (FC c) (sz c) (col c)
  few : ids.length ≤ 1024
  ntp : ∀ c, c ∈ bl sig 64 → ¬ FC c tp
  nmb : ∀ c, c ∈ bl sig 64 → ¬ FC c mb
  nvs : ∀ c k, c ∈ bl sig 64 → ownB vs = some k → ¬ FC c k
  apart : ∀ c d k, c ∈ bl sig 64 → d ∈ bl sig 64 → c ≠ d → FC c k → ¬ FC d k
/-- All its blocks. -/
def TF (tp mb : Nat) (vs : Value) (FC : Nat → Nat → Prop) (sig : Nat) (k : Nat) : Prop := k = tp ∨ k = mb ∨ ownB vs = some k ∨ ∃ c, c ∈ bl sig 64 ∧ FC c k
section
variable {w w' : World} {tp mb : Nat} {vs vs' : Value} {cp : Nat → Nat} {FC : Nat → Nat → Prop} {sig : Nat} {sz : Nat → Nat} {ids ids' : List IdZ} {col : Nat → List (List UInt8)} {S : Nat → Prop}
theorem Tb.lt (h : Tb w tp mb vs cp FC sig sz ids col) : ∀ k, TF tp mb vs FC sig k → k < w.heap.size := fun k hk => by
  rcases hk with rfl | rfl | hk | ⟨c, hc, hk⟩
  · exact (Array.getElem?_eq_some_iff.1 h.box).1
  · obtain ⟨N, _, hm⟩ := h.map; exact hm.lt
  · exact (h.own.ownB k hk).2
  · exact (h.cols c hc).lt k hk
theorem Tb.keep (h : Tb w tp mb vs cp FC sig sz ids col) (hk : Keep S w w') (hs : ∀ k, TF tp mb vs FC sig k → ¬ S k) : Tb w' tp mb vs cp FC sig sz ids col := by
  obtain ⟨N, hN, hm⟩ := h.map
  exact ⟨h.lt64, (hk.block tp (h.lt tp (.inl rfl)) (hs tp (.inl rfl))).trans h.box, h.own.keep hk (fun k e => hs k (.inr (.inr (.inl e)))), ⟨N, hN, hm.keep hk (hs mb (.inr (.inl rfl)))⟩,
    fun c hc => col_keep (h.cols c hc) hk (fun k e => hs k (.inr (.inr (.inr ⟨c, hc, e⟩)))), h.few, h.ntp, h.nmb, h.nvs, h.apart⟩
theorem Tb.same (h : Tb w tp mb vs cp FC sig sz ids col) (hk : Keep (fun _ => False) w w') : Tb w' tp mb vs cp FC sig sz ids col := h.keep hk (fun _ _ h => h)
theorem Tb.tp_mb (h : Tb w tp mb vs cp FC sig sz ids col) : tp ≠ mb := by
  obtain ⟨N, _, hm⟩ := h.map
  exact hm.ne_cells h.box
theorem Tb.tp_vs (h : Tb w tp mb vs cp FC sig sz ids col) : ownB vs ≠ some tp := h.own.ne_cells h.box (by decide)
theorem Tb.mb_vs (h : Tb w tp mb vs cp FC sig sz ids col) : ownB vs ≠ some mb := by
  obtain ⟨N, _, hm⟩ := h.map
  obtain ⟨es, cl, hb⟩ := hm.block
  exact h.own.ne_map hb
/-- A column behind a call that turned it. -/
theorem Tb.colTo (h : Tb w tp mb vs cp FC sig sz ids col) {c : Nat} {R : List (List UInt8)} (hc : c ∈ bl sig 64) (ht : ColTo w (cp c) (FC c) (sz c) R w') :
    ∃ FC', Tb w' tp mb vs cp FC' sig sz ids (fun d => if d = c then R else col d) ∧ Keep (TF tp mb vs FC sig) w w' ∧ ∀ k, TF tp mb vs FC' sig k → TF tp mb vs FC sig k ∨ w.heap.size ≤ k := by
  obtain ⟨F', h1, h2, h3⟩ := ht
  obtain ⟨N, hN, hm⟩ := h.map
  have hlt := h.lt
  have hn : ∀ k, TF tp mb vs FC sig k → ¬ FC c k → ¬ F' k := fun k hk hn e => by
    rcases h3 k e with e | e
    · exact hn e
    · have := hlt k hk; omega
  refine ⟨fun d k => if d = c then F' k else FC d k, ⟨h.lt64, (h2.block tp (hlt tp (.inl rfl)) (h.ntp c hc)).trans h.box, h.own.keep h2 (fun k e => h.nvs c k hc e), ⟨N, hN, hm.keep h2 (h.nmb c hc)⟩, fun d hd => ?_, h.few, fun d hd => ?_, fun d hd => ?_, fun d k hd e => ?_, fun d d' k hd hd' hne => ?_⟩, h2.mono (fun k _ e => .inr (.inr (.inr ⟨c, hc, e⟩))), fun k hk => ?_⟩
  · by_cases e : d = c
    · subst e; simp only [if_pos]; exact h1
    · simp only [if_neg e]
      exact col_keep (h.cols d hd) h2 (fun k e' => h.apart d c k hd hc e e')
  · by_cases e : d = c
    · simp only [e, if_pos]; exact hn tp (.inl rfl) (h.ntp c hc)
    · simp only [if_neg e]; exact h.ntp d hd
  · by_cases e : d = c
    · simp only [e, if_pos]; exact hn mb (.inr (.inl rfl)) (h.nmb c hc)
    · simp only [if_neg e]; exact h.nmb d hd
  · by_cases e' : d = c
    · simp only [e', if_pos]; exact hn k (.inr (.inr (.inl e))) (h.nvs c k hc e)
    · simp only [if_neg e']; exact h.nvs d k hd e
  · by_cases e : d = c
    · have e' : ¬ d' = c := fun x => hne (e.trans x.symm)
      simp only [e, if_pos, if_neg e']
      intro hk hk'
      exact hn k (.inr (.inr (.inr ⟨d', hd', hk'⟩))) (h.apart d' c k hd' hc e' hk') hk
    · simp only [if_neg e]
      by_cases e' : d' = c
      · simp only [e', if_pos]
        exact fun hk => hn k (.inr (.inr (.inr ⟨d, hd, hk⟩))) (h.apart d c k hd hc e hk)
      · simp only [if_neg e']
        exact h.apart d d' k hd hd' hne
  · rcases hk with hk | hk | hk | ⟨d, hd, hk⟩
    · exact .inl (.inl hk)
    · exact .inl (.inr (.inl hk))
    · exact .inl (.inr (.inr (.inl hk)))
    · by_cases e : d = c
      · simp only [e, if_pos] at hk
        rcases h3 k hk with hk | hk
        · exact .inl (.inr (.inr (.inr ⟨c, hc, hk⟩)))
        · exact .inr hk
      · simp only [if_neg e] at hk
        exact .inl (.inr (.inr (.inr ⟨d, hd, hk⟩)))
theorem Tb.congr {col' : Nat → List (List UInt8)} (h : Tb w tp mb vs cp FC sig sz ids col) (hc : ∀ c, c ∈ bl sig 64 → col' c = col c) : Tb w tp mb vs cp FC sig sz ids col' :=
  ⟨h.lt64, h.box, h.own, h.map, fun c hm => by rw [hc c hm]; exact h.cols c hm, h.few, h.ntp, h.nmb, h.nvs, h.apart⟩
end

theorem tb_sig {w : World} {tp mb : Nat} {vs : Value} {cp : Nat → Nat} {FC : Nat → Nat → Prop} {sig : Nat} {sz : Nat → Nat} {ids : List IdZ} {col : Nat → List (List UInt8)} (h : Tb w tp mb vs cp FC sig sz ids col) :
    Calls Tryz.prog 45 #[.pointer (some ⟨tp, 0, none⟩)] w fun e w' => e = .returned (.int .u64 (sig : Int)) ∧ w = w' := by
  obtain ⟨c0, c1, c2, cf⟩ := cells3 h.box
  clear h
  go_enter Tryz.func45, Tryz.ntmps45
  go_wp2
  go_ret
  exact ⟨rfl, rfl⟩
theorem tb_len {w : World} {tp mb : Nat} {vs : Value} {cp : Nat → Nat} {FC : Nat → Nat → Prop} {sig : Nat} {sz : Nat → Nat} {ids : List IdZ} {col : Nat → List (List UInt8)} (h : Tb w tp mb vs cp FC sig sz ids col) :
    Calls Tryz.prog 44 #[.pointer (some ⟨tp, 0, none⟩)] w fun e w' => e = .returned (.int .i64 (ids.length : Nat)) ∧ w = w' := by
  obtain ⟨A, c, rfl, -⟩ := h.own.form
  obtain ⟨c0, c1, c2, cf⟩ := cells3 h.box
  clear h
  generalize ids.length = n at *
  go_enter Tryz.func44, Tryz.ntmps44
  go_wp2
  go_ret
  exact ⟨rfl, rfl⟩
/-- Is there such a row? -/
def rowC (n : Nat) (row : Int) : Int := if row < 0 ∨ (n : Int) ≤ row then 2 else 0
theorem tb_at {w : World} {tp mb : Nat} {vs : Value} {cp : Nat → Nat} {FC : Nat → Nat → Prop} {sig : Nat} {sz : Nat → Nat} {ids : List IdZ} {col : Nat → List (List UInt8)} (h : Tb w tp mb vs cp FC sig sz ids col) (row : Int) :
    Calls Tryz.prog 62 #[.pointer (some ⟨tp, 0, none⟩), .int .i64 row] w fun e w' => e = .returned (.int .i64 (rowC ids.length row)) ∧ w = w' := by
  obtain ⟨A, c, rfl, -⟩ := h.own.form
  obtain ⟨c0, c1, c2, cf⟩ := cells3 h.box
  clear h
  unfold rowC
  generalize ids.length = n at *
  by_cases h1 : row < 0
  · rw [if_pos (.inl h1)]
    go_enter Tryz.func62, Tryz.ntmps62
    go_wp2
    go_ret
    exact ⟨rfl, rfl⟩
  · by_cases h2 : (n : Int) ≤ row
    · rw [if_pos (.inr h2)]
      go_enter Tryz.func62, Tryz.ntmps62
      go_wp2
      go_ret
      exact ⟨rfl, rfl⟩
    · rw [if_neg (by omega)]
      go_enter Tryz.func62, Tryz.ntmps62
      go_wp2
      go_ret
      exact ⟨rfl, rfl⟩
end Go.Proofs.YtdeifjnhbdkkgaaGreatDoor
namespace Go.Proofs.YtdeifjnhbdkkgaaGreatDoor
open Go.RowKit
set_option maxRecDepth 100000
set_option linter.unusedVariables false
set_option linter.unusedSimpArgs false

theorem idC_one (l : List IdZ) : ∀ u ∈ l.flatMap idC, u.oneCell' = true := by
  intro u hu
  obtain ⟨x, _, hu⟩ := List.mem_flatMap.1 hu
  simp only [idC, List.mem_cons, List.not_mem_nil, or_false] at hu
  rcases hu with rfl | rfl <;> rfl
theorem clone_ids (l : List IdZ) (v : Value) (F : Nat → Prop) (w : World) (hv : Sl w F 2 v l.length (l.flatMap idC)) (hn : l.length ≤ 1099511627776) :
    Calls Tryz.prog 66 #[v] w fun e w' => ∃ u, e = .returned u ∧ Own w' w.heap.size 85 2 u l.length (l.flatMap idC) ∧ Below w.heap.size w w' := by
  obtain ⟨i0, hi0, hz0, hz1, hz2⟩ := info_parts info_id
  have HN := Lib.hid hn
  clear hn
  have ON := Lib.hid (idC_one l)
  obtain ⟨A, c, rfl, h1, h2, h3, h4⟩ := hv
  generalize hx : l.flatMap idC = xs at *
  have hl := h4.1
  clear hx
  rcases A with _ | a
  · have h0 : l.length = 0 := by have := h3 rfl; omega
    have hx : xs = [] := List.eq_nil_of_length_eq_zero (by omega)
    generalize l.length = n at *
    subst h0 hx
    clear h1 h2 h3 h4 hl
    have hq := fun (w : World) => Lib.run_eql_slice_nil (P := Tryz.prog) w 60 85 none 0 c 0 0 Tryz.underlying60
    go_enter Tryz.func66, Tryz.ntmps66
    go_wp2
    go_ret
    exact ⟨_, rfl, Own.none_ _ _ _ _ _, Below.refl _ _⟩
  · have hq := fun (w : World) => Lib.run_eql_slice_nil (P := Tryz.prog) w 60 85 (some a) l.length c 0 0 Tryz.underlying60
    generalize l.length = n at *
    go_enter Tryz.func66, Tryz.ntmps66
    have hs := (h4.alloc (.cells #[] 85)).src (c := c) (P := Tryz.prog) Tryz.underlying60 ON.out (by omega)
    have HS := Lib.hid hs
    clear hs h4
    go_wp2_with (at_builtin; refine wpList_append_gen _ rfl _ _ _ _ rfl w.heap.size 85 i0 _ 2 16 Tryz.underlying60 hi0 hz0 hz1 hz2 rfl _ _ _ rfl (Own.none_ _ _ _ _ _) _ n xs rfl HS.out ?c1 ?c2 ?c3 ?_)
    case c1 => have := HN.out; unfold maxLen; omega
    case c2 => have := HN.out; omega
    case c3 => simp
    intro v' w1 hown' hk1 _
    have hb1 := append_below (Below.refl _ w) (Own.none_ w w.heap.size 85 2 _) hk1
    clear hk1
    go_wp2
    go_ret
    exact ⟨_, rfl, hown', hb1⟩
section
variable {w : World} {tp mb : Nat} {vs : Value} {cp : Nat → Nat} {FC : Nat → Nat → Prop} {sig : Nat} {sz : Nat → Nat} {ids : List IdZ} {col : Nat → List (List UInt8)}
theorem tb_ids (h : Tb w tp mb vs cp FC sig sz ids col) :
    Calls Tryz.prog 46 #[.pointer (some ⟨tp, 0, none⟩)] w fun e w' => ∃ A c, e = .returned (.slice A ids.length c) ∧ Own w' w.heap.size 85 2 (.slice A ids.length c) ids.length (ids.flatMap idC) ∧ Below w.heap.size w w' := by
  have CL := Lib.hid (clone_ids ids vs (fun k => 0 ≤ k) w h.own.sl (by have := h.few; omega))
  obtain ⟨A, c, rfl, -⟩ := h.own.form
  obtain ⟨c0, c1, c2, cf⟩ := cells3 h.box
  clear h
  generalize ids.length = n at *
  go_enter Tryz.func46, Tryz.ntmps46
  go_wp2_with fail
  with_reducible refine CL.out.mono ?_
  rintro e w1 ⟨u, rfl, ho, hb⟩
  obtain ⟨A1, d1, rfl, -⟩ := ho.form
  have H1 := Lib.hid (And.intro ho hb)
  clear ho hb
  go_wp2
  go_ret
  exact ⟨_, _, rfl, H1.out.1, H1.out.2⟩
/-- Is there such a component? -/
def hasK (sig : Nat) (k : Int) : Bool := decide (0 ≤ k ∧ k.toNat ∈ bl sig 64)
theorem Tb.look (h : Tb w tp mb vs cp FC sig sz ids col) {w' : World} (hk : Keep (fun _ => False) w w') {k : Int} (hr : -9223372036854775808 ≤ k ∧ k ≤ 9223372036854775807) :
    (Instr.lookup 118 (.map (some mb)) (.int .i64 k) true).run Tryz.prog w' = .ok (.tuple #[if hasK sig k = true then .pointer (some ⟨cp k.toNat, 0, none⟩) else .pointer none, .bool (hasK sig k)]) w' ∧
    (Instr.lookup 118 (.map (some mb)) (.int .i64 k) false).run Tryz.prog w' = .ok (if hasK sig k = true then .pointer (some ⟨cp k.toNat, 0, none⟩) else .pointer none) w' := by
  obtain ⟨N, _, hm⟩ := h.map
  have hm := hm.keep hk (fun h => h)
  have h1 := hm.look keyedInt Tryz.underlying118 zeroCol (keyInt k hr)
  have h2 := hm.look1 keyedInt Tryz.underlying118 zeroCol (keyInt k hr)
  have e : colF (bl sig 64) cp (.int .i64 k) = if hasK sig k = true then some (.pointer (some ⟨cp k.toNat, 0, none⟩)) else none := by
    show (if 0 ≤ k ∧ k.toNat ∈ bl sig 64 then _ else _) = _
    unfold hasK
    by_cases hh : 0 ≤ k ∧ k.toNat ∈ bl sig 64
    · rw [if_pos hh, decide_eq_true hh, if_pos rfl]
    · rw [if_neg hh, decide_eq_false hh, if_neg (by decide)]
  rw [e] at h1 h2
  cases hh : hasK sig k with
  | true => rw [hh] at h1 h2; exact ⟨h1, h2⟩
  | false => rw [hh] at h1 h2; exact ⟨h1, h2⟩
theorem hasK_mem {sig : Nat} {k : Int} (h : hasK sig k = true) : ∃ c : Nat, k = (c : Int) ∧ c ∈ bl sig 64 := by
  have := of_decide_eq_true h
  exact ⟨k.toNat, by omega, this.2⟩
theorem hasK_nat {sig c : Nat} : hasK sig (c : Int) = decide (c ∈ bl sig 64) := by
  unfold hasK
  by_cases h : c ∈ bl sig 64
  · rw [decide_eq_true h]; exact decide_eq_true ⟨by omega, by simpa using h⟩
  · rw [decide_eq_false h]; exact decide_eq_false (fun e => h (by simpa using e.2))
/-- A row's column: its error. -/
def colC (n sig : Nat) (row k : Int) : Int := if rowC n row ≠ 0 then 2 else if hasK sig k = true then 0 else 8
theorem rowC_two {n : Nat} {row : Int} (h : rowC n row ≠ 0) : rowC n row = 2 := by
  unfold rowC at h ⊢
  split
  · rfl
  · rename_i h1; rw [if_neg h1] at h; exact absurd rfl h
end
end Go.Proofs.YtdeifjnhbdkkgaaGreatDoor
namespace Go.Proofs.YtdeifjnhbdkkgaaGreatDoor
open Go.RowKit
set_option maxRecDepth 100000
set_option linter.unusedVariables false
set_option linter.unusedSimpArgs false

theorem colC_zero {n sig : Nat} {row k : Int} (h : colC n sig row k = 0) : ∃ r c : Nat, row = (r : Int) ∧ r < n ∧ k = (c : Int) ∧ c ∈ bl sig 64 := by
  unfold colC at h
  by_cases h0 : rowC n row = 0
  · rw [if_neg (by simpa using h0)] at h
    have hk : hasK sig k = true := by
      cases hh : hasK sig k with
      | true => rfl
      | false => rw [hh] at h; cases h
    obtain ⟨c, rfl, hc⟩ := hasK_mem hk
    unfold rowC at h0
    have hr : ¬ (row < 0 ∨ (n : Int) ≤ row) := fun e => by rw [if_pos e] at h0; cases h0
    exact ⟨row.toNat, c, by omega, by omega, rfl, hc⟩
  · rw [if_pos h0] at h; cases h
/-- What is got. -/
def getT (n sig : Nat) (col : Nat → List (List UInt8)) (row k : Int) : List UInt8 := if colC n sig row k = 0 then (col k.toNat).getD row.toNat [] else []
/-- Where a table's call leaves it. -/
def TbTo (w : World) (Foot : Nat → Prop) (tp sig : Nat) (sz : Nat → Nat) (ids : List IdZ) (col : Nat → List (List UInt8)) (w' : World) : Prop :=
  ∃ mb vs cp FC, Tb w' tp mb vs cp FC sig sz ids col ∧ Keep Foot w w' ∧ ∀ k, TF tp mb vs FC sig k → Foot k ∨ w.heap.size ≤ k
section
variable {w : World} {tp mb : Nat} {vs : Value} {cp : Nat → Nat} {FC : Nat → Nat → Prop} {sig : Nat} {sz : Nat → Nat} {ids : List IdZ} {col : Nat → List (List UInt8)}
/-- The error of a set. -/
def setC (n sig : Nat) (sz : Nat → Nat) (row k : Int) (l : List UInt8) : Int := if colC n sig row k ≠ 0 then colC n sig row k else if l.length ≠ sz k.toNat then 7 else 0
def setK (n sig : Nat) (sz : Nat → Nat) (col : Nat → List (List UInt8)) (row k : Int) (l : List UInt8) : Nat → List (List UInt8) := fun d => if setC n sig sz row k l = 0 ∧ d = k.toNat then (col d).set row.toNat l else col d
theorem TbTo.same (h : Tb w tp mb vs cp FC sig sz ids col) : TbTo w (TF tp mb vs FC sig) tp sig sz ids col w := ⟨mb, vs, cp, FC, h, Keep.refl _ _, fun k hk => .inl hk⟩
theorem tb_column (h : Tb w tp mb vs cp FC sig sz ids col) (k : Int) (hr : -9223372036854775808 ≤ k ∧ k ≤ 9223372036854775807) :
    Calls Tryz.prog 47 #[.pointer (some ⟨tp, 0, none⟩), .int .i64 k] w fun e w' => ∃ A n c, e = .returned (.tuple #[.slice A n c, .bool (hasK sig k)]) ∧ By w' (fun b => w.heap.size ≤ b) (.slice A n c) (if hasK sig k = true then (col k.toNat).flatten else []) ∧ Below w.heap.size w w' := by
  have LK := (h.look (Keep.refl _ w) hr).2
  have L2 := (h.look ((Keep.refl _ w).drew) hr).2
  obtain ⟨c0, c1, c2, cf⟩ := cells3 h.box
  cases hh : hasK sig k with
  | true =>
    obtain ⟨c, rfl, hc⟩ := hasK_mem hh
    have CB := Lib.hid (col_bytes (h.cols c hc))
    rw [hh, if_pos rfl] at LK L2
    rw [if_pos rfl]
    simp only [Int.toNat_natCast] at LK L2 ⊢
    clear h hh
    generalize (col c).flatten = x at *
    go_enter Tryz.func47, Tryz.ntmps47
    go_wp2_with fail
    with_reducible refine CB.out.mono ?_
    rintro e w1 ⟨u, rfl, ho, hb⟩
    obtain ⟨A1, d1, rfl, -⟩ := ho.form
    have H1 := Lib.hid (And.intro (sl_by ho.sl) hb)
    clear ho hb
    go_wp2
    go_ret2
    exact ⟨_, _, _, rfl, H1.out.1, H1.out.2⟩
  | false =>
    rw [hh, if_neg (by decide)] at LK L2
    rw [if_neg (by decide)]
    clear h hh
    go_enter Tryz.func47, Tryz.ntmps47
    go_wp2
    go_ret2
    exact ⟨_, _, _, rfl, By.nil _ _, Below.refl _ _⟩
end
end Go.Proofs.YtdeifjnhbdkkgaaGreatDoor
namespace Go.Proofs.YtdeifjnhbdkkgaaGreatDoor
open Go.RowKit
set_option maxRecDepth 100000
set_option linter.unusedVariables false
set_option linter.unusedSimpArgs false

/-- A component's data. -/
structure PtZ where
  comp : Int
  data : List UInt8
deriving DecidableEq, Inhabited
/-- Parts, each with its data's slice. -/
def parN : Nst PtZ Value where
  cells p := [.int .i64 p.1.comp, p.2]
  m := 2
  pos := by decide
  len _ := rfl
  inn w F x u := By w F u x.data
  one h u hu := by
    obtain ⟨A, c, rfl, -⟩ := h
    simp only [List.mem_cons, List.not_mem_nil, or_false] at hu
    rcases hu with rfl | rfl <;> rfl
  keep h hk hs := By.keep h hk hs
  mono h hf := By.mono h hf
theorem info_part : (Tryz.prog.info? 136).map (fun i => (i.zero, i.size, i.bytes)) = some (some (.agg #[.int .i64 0, .slice none 0 0]), 2, 32) := by kernel_rfl
section
variable {α β : Type} {P : Program} {ops : Array Oper} {rest : List Oper} {o : Oper} {a : Act} {w : World} {Q : Exit → Act → World → Prop}
theorem wpList_pushXt (hgd : Region.wanted o (yielded ops a.tmps) = true) (s x : Operand) (t : TypeId) (ho : o.op = .call { callee := .builtin .append, args := #[s, x], argTypes := #[t, t] })
    (N : Nst α β) (X : Nat → Prop) (B : Nat) (e : TypeId) (i : TypeInfo) (z : Value) (bytes : Nat) (ht : P.underlying t = some (.slice e)) (hi : P.info? e = some i) (hz : i.zero = some z) (hsize : i.size = N.m) (hby : i.bytes = bytes) (hzs : z.cells.size = N.m)
    (v : Value) (R : List α) (n : Nat) (hn : R.length = n) (hv : a.eval s = v) (hnb : NBX N X B e w v R) (g c : Nat) (y : α) (q : β) (hy : a.eval x = .slice (some ⟨g, 0, none⟩) 1 c) (hc : ∀ j u, (N.cells (y, q))[j]? = some u → w.cell? ⟨g, j, none⟩ = some u) (hx : N.inn w (fun b => X b ∧ ownB v ≠ some b) y q)
    (h63 : n + 1 ≤ maxLen) (hbytes : (n + 1) * bytes ≤ 140737488355328) (hB : B ≤ w.heap.size)
    (h : ∀ A c w', NBX N X B e w' (.slice A (n + 1) c) (R ++ [y]) → Keep (fun k => ownB v = some k) w w' → wpList P ops Q rest (a.put o.dst (.slice A (n + 1) c)) w') : wpList P ops Q (o :: rest) a w :=
  wpList_step fun _ hK => by
    rw [if_pos hgd]
    exact wp_pushX s x t ho N X B e i z bytes ht hi hz hsize hby hzs v R n hn hv hnb g c y q hy hc hx h63 hbytes hB fun A c w' h1 h2 => hK _ _ (h A c w' h1 h2)
end
theorem NBX.ns {α β : Type} {N : Nst α β} {w : World} {X : Nat → Prop} {u : Value} {R : List α} {B : Nat} {e : TypeId} (h : NBX N X B e w u R) : NS N w (fun b => X b ∨ B ≤ b) u R := by
  obtain ⟨us, h1, h2, h3⟩ := h
  refine ⟨us, h1, ?_, fun i x v hx hv => N.mono (h3 i x v hx hv) (fun _ _ h => .inl h.1)⟩
  have h4 : Own w B e N.m u (R.zip us).length ((R.zip us).flatMap N.cells) := by rw [zipN_len h1]; exact h2
  exact (Own.ml (n := 0) N.pos N.len h4).mono (fun b _ h => .inr (by simpa using h))
theorem Tab.keep {w w' : World} {S : Nat → Prop} (h : Tab w) (hk : Keep S w w') (hs : ¬ S 0) : Tab w' := fun k hk' => hk.cell hs (h k hk')
theorem Tab.same {w w' : World} (h : Tab w) (hk : Keep (fun _ => False) w w') : Tab w' := h.keep hk (fun h => h)
theorem Tab.lt {w : World} (h : Tab w) : 0 < w.heap.size := World.block_lt_of_cell? w _ (h 0 (by decide))
/-- Element j of a list of numbers. -/
theorem ints_at {w : World} {F : Nat → Prop} {A : Option Addr} {n c j : Nat} {L : List Nat} (h : Sl w F 1 (.slice A n c) n (iv (ints L))) (hL : L.length = n) (hj : j < n) : ∃ bl ol, A = some ⟨bl, ol, none⟩ ∧ w.cell? ⟨bl, ol + j, none⟩ = some (.int .i64 ((L.getD j 0 : Nat) : Int)) := by
  obtain ⟨A9, c9, e9, _, _, _, hr⟩ := h
  injection e9 with e91 e92 e93
  subst e91
  obtain ⟨b, o, rfl, _, hc⟩ := hr.at_ (k := j) (by omega)
  refine ⟨b, o, rfl, hc j _ ?_⟩
  have h1 : j < (ints L).length := by unfold ints; rw [List.length_map, hL]; exact hj
  rw [(iv_at h1).1]
  unfold ints
  rw [List.getD_eq_getElem?_getD, List.getElem?_map, List.getD_eq_getElem?_getD, List.getElem?_eq_getElem (by rw [hL]; exact hj)]
  rfl
theorem getD_mem {L : List Nat} {j : Nat} (h : j < L.length) : L.getD j 0 ∈ L := by
  rw [List.getD_eq_getElem?_getD, List.getElem?_eq_getElem h]; exact List.getElem_mem h
theorem bl_lt {s c : Nat} (h : c ∈ bl s 64) : c < 64 := ((bl_mem s 64 c).1 h).1
/-- All parts of a row. -/
def rowT (sig : Nat) (col : Nat → List (List UInt8)) (r : Nat) : List PtZ := (bl sig 64).map fun (c : Nat) => ⟨(c : Int), (col c).getD r []⟩
theorem map_take_next {α : Type} (f : Nat → α) (L : List Nat) {j : Nat} (h : j < L.length) : (L.take (j + 1)).map f = (L.take j).map f ++ [f (L.getD j 0)] := by
  rw [List.take_succ_eq_append_getElem h, List.map_append, List.getD_eq_getElem?_getD, List.getElem?_eq_getElem h]
  rfl
theorem NBX.low {α β : Type} {N : Nst α β} {X : Nat → Prop} {B B' : Nat} {e : TypeId} {w : World} {u : Value} {R : List α} (h : NBX N X B e w u R) (hb : B' ≤ B) : NBX N X B' e w u R := by
  obtain ⟨us, h1, h2, h3⟩ := h
  exact ⟨us, h1, h2.mono hb, h3⟩
section
variable {w : World} {tp mb : Nat} {vs : Value} {cp : Nat → Nat} {FC : Nat → Nat → Prop} {sig : Nat} {sz : Nat → Nat} {ids : List IdZ} {col : Nat → List (List UInt8)}
set_option maxHeartbeats 4000000 in
theorem tb_partsX (h : Tb w tp mb vs cp FC sig sz ids col) (hl : ∀ c, c ∈ bl sig 64 → (col c).length = ids.length) (hT : Tab w) (row : Int) :
    Calls Tryz.prog 41 #[.pointer (some ⟨tp, 0, none⟩), .int .i64 row] w fun e w' => ∃ A n c, e = .returned (.tuple #[.slice A n c, .int .i64 (rowC ids.length row)]) ∧ NBX parN (fun b => w.heap.size ≤ b) w.heap.size 136 w' (.slice A n c) (if rowC ids.length row = 0 then rowT sig col row.toNat else []) ∧ Below w.heap.size w w' := by
  have AT := Lib.hid (tb_at h row)
  by_cases h0 : rowC ids.length row = 0
  · obtain ⟨r, rfl, hrn⟩ : ∃ r : Nat, row = (r : Int) ∧ r < ids.length := by
      unfold rowC at h0
      have hr : ¬ (row < 0 ∨ (ids.length : Int) ≤ row) := fun e => by rw [if_pos e] at h0; cases h0
      exact ⟨row.toNat, by omega, by omega⟩
    rw [h0, if_pos rfl]
    rw [h0] at AT
    simp only [Int.toNat_natCast]
    obtain ⟨ip, hip, hp0, hp1, hp2⟩ := info_parts info_part
    have BL := Lib.hid (bitsList_any sig h.lt64 w hT)
    have LKK := Lib.hid (fun W (hk : Keep (fun _ => False) w W) (c : Nat) (hc : c ∈ bl sig 64) => show (Instr.lookup 118 (.map (some mb)) (.int .i64 (c : Int)) false).run Tryz.prog W = .ok (.pointer (some ⟨cp c, 0, none⟩)) W from by
      have := (h.look hk (k := (c : Int)) (by have := bl_lt hc; omega)).2
      rw [hasK_nat, decide_eq_true hc, if_pos rfl, Int.toNat_natCast] at this
      exact this)
    have CG := Lib.hid (fun W (hk : Keep (fun _ => False) w W) (c : Nat) (hc : c ∈ bl sig 64) => col_get (col_keep (h.cols c hc) hk (fun _ _ h => h)) r (by rw [hl c hc]; exact hrn))
    have BX := Lib.hid (fun W (hk : Keep (fun _ => False) w W) => (hk.block tp (h.lt tp (.inl rfl)) (fun h => h)).trans h.box)
    have MT := Lib.hid (fun j (hj : j < (bl sig 64).length) => map_take_next (fun (c : Nat) => (⟨(c : Int), (col c).getD r []⟩ : PtZ)) (bl sig 64) hj)
    have ME := Lib.hid (fun j (hj : j < (bl sig 64).length) => getD_mem hj)
    have TL := Lib.hid (show ((bl sig 64).take (bl sig 64).length).map (fun (c : Nat) => (⟨(c : Int), (col c).getD r []⟩ : PtZ)) = rowT sig col r by rw [List.take_length]; rfl)
    have L64 := bl_len sig 64
    have LT64 := Lib.hid (fun c (hc : c ∈ bl sig 64) => bl_lt hc)
    have hlt64 := h.lt64
    clear h hl h0 hrn
    obtain ⟨L, hL⟩ : ∃ L, bl sig 64 = L := ⟨_, rfl⟩
    rw [hL] at BL LKK CG MT ME TL L64 LT64
    clear hL
    obtain ⟨m, hm⟩ : ∃ m, L.length = m := ⟨_, rfl⟩
    have HM := Lib.hid hm
    rw [hm] at BL MT ME TL L64
    clear hm
    obtain ⟨c0, c1, c2, cf⟩ := cells3 (BX.out w (Keep.refl _ _))
    go_enter Tryz.func41, Tryz.ntmps41
    go_wp2_with fail
    with_reducible refine AT.out.mono ?_
    rintro e w1 ⟨rfl, rfl⟩
    go_wp2_with fail
    with_reducible refine BL.out.mono ?_
    rintro e w1 ⟨u1, rfl, ho1, hb1⟩
    obtain ⟨A1, d1, rfl, -⟩ := ho1.form
    have H1 := Lib.hid (And.intro ho1.sl hb1)
    clear ho1 hb1 c0 c1 c2 cf BL AT
    go_wp2
    go_loopw [7, 24] (fun y i wr => ∃ (j : Nat) (A3 : Option Addr) (c3 : Nat), j ≤ m ∧ i = .int .i64 (j : Int) ∧ y = .slice A3 j c3 ∧ Hid (NBX parN (fun b => w.heap.size ≤ b) w1.heap.size 136 wr (.slice A3 j c3) ((L.take j).map (fun (c : Nat) => (⟨(c : Int), (col c).getD r []⟩ : PtZ))) ∧ Below w1.heap.size w1 wr)) (fun _ i _ => m - (intOf i).toNat)
    case atStart => exact ⟨0, none, 0, by omega, rfl, rfl, Lib.hid ⟨by simpa using NBX.nil _ _ _ _ _, Below.refl _ _⟩⟩
    case round =>
      obtain ⟨j, A3, c3, hj, rfl, rfl, hst⟩ := hrel
      have KW := Lib.hid ((Keep.of_below' H1.out.2).trans (Keep.of_below' hst.out.2) (fun _ _ h => h))
      by_cases hlt : j < m
      · have f1 : (j : Int) < (m : Int) := by omega
        have f0 : (0 : Int) ≤ (j : Int) := by omega
        obtain ⟨b1, o1, rfl, hcl⟩ := ints_at (H1.out.1.keep (Keep.of_below' hst.out.2) (fun _ _ _ h => h)) HM.out hlt
        have MJ := Lib.hid (MT.out j hlt)
        have hcm := ME.out j hlt
        generalize L.getD j 0 = c at *
        have LK := LKK.out wr KW.out c hcm
        have G1 := Lib.hid (CG.out wr KW.out c hcm)
        obtain ⟨c0, c1, c2, cf⟩ := cells3 (BX.out wr KW.out)
        clear hcm
        go_wp2_with fail
        with_reducible refine G1.out.mono ?_
        rintro e w4 ⟨u4, rfl, ho4, hb4⟩
        obtain ⟨A4, d4, rfl, -⟩ := ho4.form
        have hz1 := H1.out.2.size
        have hz4 := Nat.le_trans hst.out.2.size hb4.size
        have hzr := hst.out.2.size
        have H4 := Lib.hid (And.intro (show By w4 (fun b => wr.heap.size ≤ b) (.slice A4 ((col c).getD r []).length d4) ((col c).getD r []) from sl_by ho4.sl) (And.intro (hst.out.1.keep (Keep.of_below' hb4) (fun _ _ h => h) (fun _ _ _ _ h => h)) (hst.out.2.trans (hb4.mono hst.out.2.size))))
        have OL := Lib.hid (fun k e => (hst.out.1.own_lt (k := k) e).2)
        clear ho4 hb4 G1 c0 c1 c2 cf LK hcl
        have LEN := Lib.hid (show ((L.take j).map (fun (c : Nat) => (⟨(c : Int), (col c).getD r []⟩ : PtZ))).length = j by rw [List.length_map, List.length_take, HM.out]; omega)
        go_wp2_with (at_builtin; refine wpList_pushXt (by rfl) _ _ _ (by rfl) parN (fun b => w.heap.size ≤ b) w1.heap.size 136 ip _ 32 Tryz.underlying90 hip hp0 hp1 hp2 rfl _ _ j LEN.out (by rfl) (H4.out.2.1.keep (S := fun _ => False) ((Keep.refl _ w4).alloc _) (fun _ _ h => h) (fun _ _ _ _ h => h)) w4.heap.size _ ⟨(c : Int), (col c).getD r []⟩ (.slice A4 ((col c).getD r []).length d4) (by rfl) (by exact lit_cells w4 _ _) (by exact By.mono (By.keep (S := fun _ => False) H4.out.1 ((Keep.refl _ w4).alloc _) (fun _ _ _ h => h)) (fun b _ h => ⟨by omega, fun e => by have := OL.out b e; omega⟩)) ?c1 ?c2 ?c3 ?_)
        case c1 => unfold maxLen; omega
        case c2 => omega
        case c3 => simp; omega
        intro A5 c5 w5 hn5 hk5
        have H5 := Lib.hid (show NBX parN (fun b => w.heap.size ≤ b) w1.heap.size 136 w5 (.slice A5 (j + 1) c5) ((L.take (j + 1)).map (fun (c : Nat) => (⟨(c : Int), (col c).getD r []⟩ : PtZ))) ∧ Below w1.heap.size w1 w5 from
          ⟨by rw [MJ.out]; simpa using hn5, ((Keep.of_below H4.out.2.2).trans (((Keep.refl (fun x => w1.heap.size ≤ x) w4).alloc _).trans hk5 (fun x _ e => (hst.out.1.own_lt e).1)) (fun x _ h => h)).to_below (Nat.le_refl _)⟩)
        clear hn5 hk5
        go_wp2
        go_roundw
        case rel => exact ⟨j + 1, A5, c5, by omega, by go_num, rfl, H5⟩
        case measure => simp [intOf]; omega
      · obtain rfl : j = m := by omega
        have f1 : ¬ (j : Int) < (j : Int) := by omega
        rw [TL.out] at hst
        have hz1 := H1.out.2.size
        go_wp2
        go_ret2
        exact ⟨_, _, _, rfl, hst.out.1.low hz1, H1.out.2.trans (hst.out.2.mono hz1)⟩
  · have e1 : (rowC ids.length row != 0) = true := by simpa using h0
    rw [if_neg h0]
    clear h hl h0
    generalize rowC ids.length row = z at *
    go_enter Tryz.func41, Tryz.ntmps41
    go_wp2_with fail
    with_reducible refine AT.out.mono ?_
    rintro e w1 ⟨rfl, rfl⟩
    go_wp2
    go_ret2
    exact ⟨_, _, _, rfl, NBX.nil _ _ _ _ _, Below.refl _ _⟩
theorem tb_parts (h : Tb w tp mb vs cp FC sig sz ids col) (hl : ∀ c, c ∈ bl sig 64 → (col c).length = ids.length) (hT : Tab w) (row : Int) :
    Calls Tryz.prog 41 #[.pointer (some ⟨tp, 0, none⟩), .int .i64 row] w fun e w' => ∃ A n c, e = .returned (.tuple #[.slice A n c, .int .i64 (rowC ids.length row)]) ∧ NS parN w' (fun b => w.heap.size ≤ b) (.slice A n c) (if rowC ids.length row = 0 then rowT sig col row.toNat else []) ∧ Below w.heap.size w w' :=
  (tb_partsX h hl hT row).mono fun _ _ ⟨A, n, c, h1, h2, h3⟩ => ⟨A, n, c, h1, h2.ns.mono (fun b _ h => h.elim id id), h3⟩
end
end Go.Proofs.YtdeifjnhbdkkgaaGreatDoor
namespace Go.Proofs.YtdeifjnhbdkkgaaGreatDoor
open Go.RowKit
set_option maxRecDepth 100000
set_option linter.unusedVariables false
set_option linter.unusedSimpArgs false

theorem under_id : Tryz.prog.underlying 85 = some (.struct (Tryz.prog.fieldsOf 85)) := by kernel_rfl
theorem size_id : (Tryz.prog.info? 85).map (·.size) = some 2 := by kernel_rfl
/-- A result: a name in block g, and two more. -/
theorem results_id {fn : Func} {p t u : Tmp} (h : fn.results = #[.cell p 85, .tmp t, .tmp u]) (tmps : Array Value) (w : World) (g : Nat) (c0 c1 : Value)
    (hp : tmps.getD p undef = .pointer (some ⟨g, 0, none⟩)) (hg : w.heap[g]? = some (.cells #[c0, c1] 85 (0, 0)))
    (b : Value) (hb : tmps.getD t undef = b) (d : Value) (hd : tmps.getD u undef = d) : (results fn tmps).run Tryz.prog w = .ok (.tuple #[.agg #[c0, c1], b, d]) w := by
  have hr := run_loadVar_row (P := Tryz.prog) w g 85 85 #[c0, c1] (0, 0) _ hg under_id rfl size_id
  have e : (results fn tmps).run Tryz.prog w = ((asAddr (tmps.getD p undef)).run Tryz.prog w).andThen fun a w₁ => ((loadVar 85 a).run Tryz.prog w₁).andThen fun v w₂ => .ok (.tuple #[v, tmps.getD t undef, tmps.getD u undef]) w₂ := by
    simp only [results, h]
    simp [Sem.run_bind, Result.andThen]
  rw [e, hp, hb, hd]
  simp [asAddr, hr]
theorem flat_setId : ∀ (l : List IdZ) (r : Nat) (x : IdZ), r < l.length → (l.set r x).flatMap idC = ((l.flatMap idC).set (r * 2) (.int .i64 x.ix)).set (r * 2 + 1) (.int .i64 x.gen)
  | [], _, _, h => by simp at h
  | y :: l, 0, x, _ => by simp [idC]
  | y :: l, r + 1, x, h => by
    have ih := flat_setId l r x (by simpa using h)
    rw [List.set_cons_succ, List.flatMap_cons, ih, List.flatMap_cons, show (r + 1) * 2 + 1 = (r * 2 + 1) + 2 by omega, show (r + 1) * 2 = r * 2 + 2 by omega]
    simp [idC]
theorem flat_atId {l : List IdZ} {k : Nat} (h : k < l.length) : (l.flatMap idC)[k * 2]? = some (.int .i64 (l.getD k default).ix) ∧ (l.flatMap idC)[k * 2 + 1]? = some (.int .i64 (l.getD k default).gen) := by
  have hx : l[k]? = some (l.getD k default) := by rw [List.getD_eq_getElem?_getD, List.getElem?_eq_getElem h]; rfl
  exact ⟨flat_at (f := idC) (m := 2) (j := 0) idC_len hx rfl, flat_at (f := idC) (m := 2) (j := 1) idC_len hx rfl⟩
theorem flat_takeId (l : List IdZ) (k : Nat) : (l.flatMap idC).take (k * 2) = (l.take k).flatMap idC := by
  induction l generalizing k with
  | nil => simp
  | cons x l ih =>
    cases k with
    | zero => simp
    | succ k => rw [List.take_succ_cons, List.flatMap_cons, List.flatMap_cons, ← ih k, show (k + 1) * 2 = (idC x).length + k * 2 by rw [idC_len]; omega, List.take_append, List.take_of_length_le (Nat.le_add_right _ _)]; simp
section
variable {w : World} {tp mb : Nat} {vs : Value} {cp : Nat → Nat} {FC : Nat → Nat → Prop} {sig : Nat} {sz : Nat → Nat} {ids : List IdZ} {col : Nat → List (List UInt8)} {g n c : Nat}
/-- The names' block. -/
theorem Tb.names (h : Tb w tp mb vs cp FC sig sz ids col) (hn : 0 < ids.length) : ∃ g c cur, vs = .slice (some ⟨g, 0, none⟩) ids.length c ∧ ids.length ≤ c ∧ c ≤ 9223372036854775807 ∧ ownB vs = some g ∧ w.heap[g]? = some (.cells cur 85 (0, 0)) ∧ cur.size = c * 2 ∧ cur.toList.take (ids.length * 2) = ids.flatMap idC := by
  obtain ⟨hl, A, c, rfl, hnc, hcm, hg⟩ := h.own
  obtain ⟨g, cur, rfl, hb, hgg, hcs, htk⟩ := hg (by omega)
  obtain ⟨d, rfl⟩ : ∃ d, c = d + 1 := ⟨c - 1, by omega⟩
  unfold maxLen at hcm
  exact ⟨g, d + 1, cur, rfl, hnc, by omega, rfl, hgg, hcs, htk⟩
theorem Tb.nameAt (h : Tb w tp mb (.slice (some ⟨g, 0, none⟩) n c) cp FC sig sz ids col) (hn : ids.length = n) {k : Nat} (hk : k < n) {W : World} (hW : Keep (fun _ => False) w W) :
    W.cell? ⟨g, k * 2, none⟩ = some (.int .i64 (ids.getD k default).ix) ∧ W.cell? ⟨g, k * 2 + 1, none⟩ = some (.int .i64 (ids.getD k default).gen) ∧ ∀ i, W.frozen? ⟨g, i, none⟩ = false := by
  subst hn
  obtain ⟨g', c', cur, e, _, _, _, hgg, hcs, htk⟩ := h.names (by omega)
  injection e with e1 e2 e3
  injection e1 with e1
  injection e1 with e1
  subst e1
  have hW' := (hW.block g (Array.getElem?_eq_some_iff.1 hgg).1 (fun h => h)).trans hgg
  have key : ∀ i u, (ids.flatMap idC)[i]? = some u → i < ids.length * 2 → W.cell? ⟨g, i, none⟩ = some u := fun i u hu hi => by
    rw [cell_of_row W g i _ _ _ hW']
    rw [← htk, List.getElem?_take, if_pos hi] at hu
    simpa using hu
  exact ⟨key _ _ (flat_atId hk).1 (by omega), key _ _ (flat_atId hk).2 (by omega), fun i => frozen_of_row W g i _ _ hW'⟩
/-- One name is another. -/
theorem Tb.setId (h : Tb w tp mb (.slice (some ⟨g, 0, none⟩) n c) cp FC sig sz ids col) (hn : ids.length = n) {r : Nat} (hr : r < n) (x : IdZ) :
    Tb ((w.setCell ⟨g, r * 2, none⟩ (.int .i64 x.ix)).setCell ⟨g, r * 2 + 1, none⟩ (.int .i64 x.gen)) tp mb (.slice (some ⟨g, 0, none⟩) n c) cp FC sig sz (ids.set r x) col ∧
    Keep (fun k => k = g) w ((w.setCell ⟨g, r * 2, none⟩ (.int .i64 x.ix)).setCell ⟨g, r * 2 + 1, none⟩ (.int .i64 x.gen)) := by
  subst hn
  obtain ⟨g', c', cur, e, hnc, hc9, hob, hgg, hcs, htk⟩ := h.names (by omega)
  have e' := e
  injection e with e1 e2 e3
  injection e1 with e1
  injection e1 with e1
  subst e1 e3
  have hk : Keep (fun k => k = g) w ((w.setCell ⟨g, r * 2, none⟩ (.int .i64 x.ix)).setCell ⟨g, r * 2 + 1, none⟩ (.int .i64 x.gen)) := Keep.setCell (S := fun k => k = g) (p := ⟨g, r * 2 + 1, none⟩) (Keep.setCell (S := fun k => k = g) (p := ⟨g, r * 2, none⟩) (Keep.refl _ _) (.inr rfl) _) (.inr rfl) _
  have hgr : ((w.setCell ⟨g, r * 2, none⟩ (.int .i64 x.ix)).setCell ⟨g, r * 2 + 1, none⟩ (.int .i64 x.gen)).heap[g]? = some (.cells ((cur.setIfInBounds (r * 2) (.int .i64 x.ix)).setIfInBounds (r * 2 + 1) (.int .i64 x.gen)) 85 (0, 0)) :=
    heap_setCell_same _ g (r * 2 + 1) _ _ _ (heap_setCell_same w g (r * 2) _ _ _ hgg)
  obtain ⟨N, hN, hm⟩ := h.map
  refine ⟨⟨h.lt64, (hk.block tp (h.lt tp (.inl rfl)) (fun e => h.tp_vs (by rw [e]; exact hob))).trans h.box, ?_, ⟨N, hN, hm.keep hk (fun e => h.mb_vs (by rw [e]; exact hob))⟩, fun d hd => col_keep (h.cols d hd) hk (fun k e e2 => h.nvs d k hd (by rw [e2]; exact hob) e), by rw [List.length_set]; exact h.few, h.ntp, h.nmb, h.nvs, h.apart⟩, hk⟩
  rw [List.length_set]
  refine ⟨by rw [flat_len idC_len, List.length_set], _, c, rfl, hnc, by unfold maxLen; omega, fun _ => ⟨g, _, rfl, Nat.zero_le _, hgr, by simp [hcs], ?_⟩⟩
  rw [flat_setId ids r x (by omega), ← htk, Array.toList_setIfInBounds, Array.toList_setIfInBounds, List.take_set, List.take_set]
/-- One name less. -/
theorem Tb.shrink (h : Tb w tp mb (.slice (some ⟨g, 0, none⟩) n c) cp FC sig sz ids col) (hn : ids.length = n) {m : Nat} (hm : m ≤ n) (h0 : 0 < n) :
    Tb (w.setCell ⟨tp, 1, none⟩ (.slice (some ⟨g, 0, none⟩) m c)) tp mb (.slice (some ⟨g, 0, none⟩) m c) cp FC sig sz (ids.take m) col ∧ Keep (fun k => k = tp) w (w.setCell ⟨tp, 1, none⟩ (.slice (some ⟨g, 0, none⟩) m c)) := by
  subst hn
  obtain ⟨g', c', cur, e, hnc, hc9, hob, hgg, hcs, htk⟩ := h.names h0
  injection e with e1 e2 e3
  injection e1 with e1
  injection e1 with e1
  subst e1 e3
  have hk : Keep (fun k => k = tp) w (w.setCell ⟨tp, 1, none⟩ (.slice (some ⟨g, 0, none⟩) m c)) := Keep.setCell (S := fun k => k = tp) (p := ⟨tp, 1, none⟩) (Keep.refl _ _) (.inr rfl) _
  obtain ⟨N, hN, hmm⟩ := h.map
  have hc1 : ownB (.slice (some ⟨g, 0, none⟩) m c) = some g := by
    obtain ⟨d, rfl⟩ : ∃ d, c = d + 1 := ⟨c - 1, by omega⟩
    rfl
  have ho := h.own.take hm
  rw [flat_takeId] at ho
  refine ⟨⟨h.lt64, by rw [heap_setCell_same w tp 1 _ _ _ h.box]; rfl, ?_, ⟨N, hN, hmm.keep hk (fun e => h.tp_mb e.symm)⟩, fun d hd => col_keep (h.cols d hd) hk (fun k e e2 => h.ntp d hd (by rw [← e2]; exact e)), by rw [List.length_take]; have := h.few; omega, h.ntp, h.nmb, fun d k hd e => h.nvs d k hd (by rw [hob, ← hc1]; exact e), h.apart⟩, hk⟩
  rw [List.length_take, show min m ids.length = m by omega]
  exact ho.keep hk (fun k e e2 => h.tp_vs (by rw [hob, ← hc1, e, e2]))
end
/-- The names behind a drop. -/
def dropL (ids : List IdZ) (r : Nat) : List IdZ := (ids.set r (ids.getD (ids.length - 1) default)).take (ids.length - 1)
def zeroId : IdZ := ⟨0, 0⟩
/-- What a drop tells: the name that moved; whether one did. -/
def movedT (ids : List IdZ) (row : Int) : IdZ × Bool := if rowC ids.length row = 0 ∧ row.toNat ≠ ids.length - 1 then (ids.getD (ids.length - 1) default, true) else (zeroId, false)
end Go.Proofs.YtdeifjnhbdkkgaaGreatDoor
namespace Go.Proofs.YtdeifjnhbdkkgaaGreatDoor
open Go.RowKit
set_option maxRecDepth 100000
set_option linter.unusedVariables false
set_option linter.unusedSimpArgs false

theorem bl_nodup (s : Nat) : ∀ k, (bl s k).Nodup
  | 0 => List.nodup_nil
  | k + 1 => by
    show (bl s k ++ if s.testBit k then [k] else []).Nodup
    rw [List.nodup_append]
    refine ⟨bl_nodup s k, by split <;> simp, fun a ha b hb e => ?_⟩
    subst e
    have h1 := ((bl_mem s k a).1 ha).1
    split at hb
    · simp at hb; omega
    · simp at hb
theorem take_next_mem {L : List Nat} {j : Nat} (h : j < L.length) (d : Nat) : d ∈ L.take (j + 1) ↔ d ∈ L.take j ∨ d = L.getD j 0 := by
  rw [List.take_succ_eq_append_getElem h, List.mem_append, List.getD_eq_getElem?_getD, List.getElem?_eq_getElem h]
  simp
theorem take_next_not {L : List Nat} {j : Nat} (h : j < L.length) (hn : L.Nodup) : L.getD j 0 ∉ L.take j := by
  intro hm
  have h2 := hn
  rw [← List.take_append_drop j L, List.nodup_append] at h2
  refine h2.2.2 _ hm _ ?_ rfl
  rw [List.getD_eq_getElem?_getD, List.getElem?_eq_getElem h, List.drop_eq_getElem_cons h]
  exact List.mem_cons_self
theorem heap_twoI {w : World} {p : Nat} {t : TypeId} {a b : Value} (h : w.heap[p]? = some (.cells #[a, b] t (0, 0))) (x y : Value) : ((w.setCell ⟨p, 0, none⟩ x).setCell ⟨p, 1, none⟩ y).heap[p]? = some (.cells #[x, y] t (0, 0)) := by
  rw [heap_setCell_same _ p 1 _ _ y (heap_setCell_same w p 0 _ _ x h)]; rfl
theorem TF.own {tp mb : Nat} {v v' : Value} {FC : Nat → Nat → Prop} {sig k : Nat} (e : ownB v = ownB v') (h : TF tp mb v FC sig k) : TF tp mb v' FC sig k := by
  unfold TF at *; rwa [← e]
/-- The columns when some are turned. -/
def colD (r : Nat) (col : Nat → List (List UInt8)) (D : List Nat) (d : Nat) : List (List UInt8) := if d ∈ D then dropR (col d) r else col d
/-- The columns behind a drop. -/
def dropK (n sig : Nat) (col : Nat → List (List UInt8)) (row : Int) (d : Nat) : List (List UInt8) := if rowC n row = 0 ∧ d ∈ bl sig 64 then dropR (col d) row.toNat else col d
def dropI (ids : List IdZ) (row : Int) : List IdZ := if rowC ids.length row = 0 then dropL ids row.toNat else ids
section
variable {w : World} {tp mb : Nat} {vs : Value} {cp : Nat → Nat} {FC : Nat → Nat → Prop} {sig : Nat} {sz : Nat → Nat} {ids : List IdZ} {col : Nat → List (List UInt8)}
end
end Go.Proofs.YtdeifjnhbdkkgaaGreatDoor

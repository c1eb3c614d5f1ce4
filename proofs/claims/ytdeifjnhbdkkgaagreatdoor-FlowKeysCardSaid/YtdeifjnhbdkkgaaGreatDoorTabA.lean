/- Contract of column.Load. -/
import Derived.Test.YtdeifjnhbdkkgaaGreatDoorTab7
namespace Go.Proofs.YtdeifjnhbdkkgaaGreatDoor
open Go.RowKit
set_option maxRecDepth 100000
set_option linter.unusedVariables false
set_option linter.unusedSimpArgs false

def ColMade (w : World) (size : Nat) (R : List (List UInt8)) (p : Nat) (w' : World) : Prop := ∃ Foot, Col w' p Foot size R ∧ Below w.heap.size w w' ∧ ∀ k, Foot k → w.heap.size ≤ k
/-- Bytes as rows of one size. -/
def rowsOf (b : List UInt8) (r z : Nat) : List (List UInt8) := (List.range r).map fun i => (b.drop (i * z)).take z
theorem rowsOf_len (b : List UInt8) (r z : Nat) : (rowsOf b r z).length = r := by simp [rowsOf]
theorem rowsOf_wide {b : List UInt8} {r z : Nat} (h : b.length = r * z) : ∀ x ∈ rowsOf b r z, x.length = z := fun x hx => by
  obtain ⟨i, hi, rfl⟩ := List.mem_map.1 hx
  have hi := List.mem_range.1 hi
  have : i * z + z ≤ r * z := by rw [← Nat.succ_mul]; exact Nat.mul_le_mul_right _ hi
  rw [List.length_take, List.length_drop]; omega
theorem rowsOf_flat : ∀ (r z : Nat) (b : List UInt8), b.length = r * z → (rowsOf b r z).flatten = b
  | 0, z, b, h => by
    have : b = [] := List.eq_nil_of_length_eq_zero (by omega)
    subst this; rfl
  | r + 1, z, b, h => by
    have hz : z ≤ b.length := by rw [h, Nat.succ_mul]; omega
    have ih := rowsOf_flat r z (b.drop z) (by rw [List.length_drop, h, Nat.succ_mul]; omega)
    have e : rowsOf b (r + 1) z = b.take z :: rowsOf (b.drop z) r z := by
      unfold rowsOf
      rw [List.range_succ_eq_map, List.map_cons, List.map_map]
      simp only [Nat.zero_mul, List.drop_zero]
      congr 1
      apply List.map_congr_left
      intro i _
      show (b.drop ((i + 1) * z)).take z = ((b.drop z).drop (i * z)).take z
      rw [List.drop_drop, Nat.succ_mul, Nat.add_comm]
    rw [e, List.flatten_cons, ih, List.take_append_drop]
theorem clampN_nat {n : Nat} (h : n ≤ 64) : clampN (n : Int) = n := by
  unfold clampN
  rw [if_neg (by omega), if_neg (by omega), Int.toNat_natCast]
section
variable {w : World} {tp mb : Nat} {vs : Value} {cp : Nat → Nat} {FC : Nat → Nat → Prop} {sig : Nat} {sz : Nat → Nat} {ids : List IdZ} {col : Nat → List (List UInt8)}
/-- Another column in the map. -/
theorem Tb.putCol (h : Tb w tp mb vs cp FC sig sz ids col) {N : Nat} (hm : MapV w Tryz.prog 3 mb N (colF (bl sig 64) cp)) (hN : N + 1 ≤ 1000000) {c p : Nat} (hc : c ∈ bl sig 64) {w4 : World} {F : Nat → Prop} {R : List (List UInt8)} (hk : Keep (fun _ => False) w w4) (hcol : Col w4 p F (sz c) R) (hF : ∀ k, F k → w.heap.size ≤ k) :
    ∃ w5, (Instr.mapUpdate 118 (.map (some mb)) (.int .i64 (c : Int)) (.pointer (some ⟨p, 0, none⟩))).run Tryz.prog w4 = .ok () w5 ∧ Keep (fun x => x = mb) w4 w5 ∧
      ∃ cp' FC', Tb w5 tp mb vs cp' FC' sig sz ids (fun d => if d = c then R else col d) ∧ MapV w5 Tryz.prog 3 mb (N + 1) (colF (bl sig 64) cp') ∧ ∀ k, TF tp mb vs FC' sig k → TF tp mb vs FC sig k ∨ w.heap.size ≤ k := by
  have h4 := h.same hk
  have hlt := h.lt
  have hc64 := bl_lt hc
  obtain ⟨w5, r1, r2, r3⟩ := (hm.keep hk (fun h => h)).update keyedInt (g := colF (bl sig 64) (fun d => if d = c then p else cp d)) Tryz.underlying118 (by unfold maxLen; omega) (.pointer (some ⟨p, 0, none⟩)) (keyInt (c : Int) (by omega)) (colF_put (fun d => ⟨.inl, fun e => e.elim id (fun e => by rw [e]; exact hc)⟩))
  have hnF : ∀ k, TF tp mb vs FC sig k → ¬ F k := fun k hk e => by have := hlt k hk; have := hF k e; omega
  refine ⟨w5, r1, r3, (fun d => if d = c then p else cp d), (fun d => if d = c then F else FC d), ⟨h.lt64, (r3.block tp (h4.lt tp (.inl rfl)) h.tp_mb).trans h4.box, h4.own.keep r3 (fun k e e2 => h.mb_vs (by rw [← e2]; exact e)), ⟨N + 1, hN, r2⟩, fun d hd => ?_, h.few, fun d hd => ?_, fun d hd => ?_, fun d k hd e => ?_, fun d d' k hd hd' hne => ?_⟩, r2, fun k hk => ?_⟩
  · by_cases e : d = c
    · subst e; simp only [if_pos]; exact col_keep hcol r3 (fun k e e2 => hnF mb (.inr (.inl rfl)) (by rw [← e2]; exact e))
    · simp only [if_neg e]; exact col_keep (h4.cols d hd) r3 (fun k e' e2 => h.nmb d hd (by rw [← e2]; exact e'))
  · by_cases e : d = c
    · simp only [e, if_pos]; exact hnF tp (.inl rfl)
    · simp only [if_neg e]; exact h.ntp d hd
  · by_cases e : d = c
    · simp only [e, if_pos]; exact hnF mb (.inr (.inl rfl))
    · simp only [if_neg e]; exact h.nmb d hd
  · by_cases e' : d = c
    · simp only [e', if_pos]; exact hnF k (.inr (.inr (.inl e)))
    · simp only [if_neg e']; exact h.nvs d k hd e
  · by_cases e : d = c
    · have e' : ¬ d' = c := fun x => hne (e.trans x.symm)
      simp only [e, if_pos, if_neg e']
      exact fun hk hk' => hnF k (.inr (.inr (.inr ⟨d', hd', hk'⟩))) hk
    · simp only [if_neg e]
      by_cases e' : d' = c
      · simp only [e', if_pos]
        exact fun hk => hnF k (.inr (.inr (.inr ⟨d, hd, hk⟩)))
      · simp only [if_neg e']
        exact h.apart d d' k hd hd' hne
  · rcases hk with hk | hk | hk | ⟨d, hd, hk⟩
    · exact .inl (.inl hk)
    · exact .inl (.inr (.inl hk))
    · exact .inl (.inr (.inr (.inl hk)))
    · by_cases e : d = c
      · simp only [e, if_pos] at hk
        exact .inr (hF k hk)
      · simp only [if_neg e] at hk
        exact .inl (.inr (.inr (.inr ⟨d, hd, hk⟩)))
/-- Other names in place of none. -/
theorem Tb.names_ (h : Tb w tp mb (.slice none 0 0) cp FC sig sz [] col) {w6 : World} {v' : Value} {n : Nat} (hn : ids.length = n) (hk : Keep (fun _ => False) w w6) (ho : Own w6 w.heap.size 85 2 v' n (ids.flatMap idC)) (h24 : n ≤ 1024) :
    Tb (w6.setCell ⟨tp, 1, none⟩ v') tp mb v' cp FC sig sz ids col ∧ Keep (TF tp mb (.slice none 0 0) FC sig) w (w6.setCell ⟨tp, 1, none⟩ v') ∧ ∀ k, TF tp mb v' FC sig k → TF tp mb (.slice none 0 0) FC sig k ∨ w.heap.size ≤ k := by
  subst hn
  have hlt := h.lt
  have hkt : Keep (fun k => k = tp) w6 (w6.setCell ⟨tp, 1, none⟩ v') := Keep.setCell (S := fun k => k = tp) (p := ⟨tp, 1, none⟩) (Keep.refl _ _) (.inr rfl) _
  have hk2 : Keep (fun k => k = tp) w (w6.setCell ⟨tp, 1, none⟩ v') := (hk.mono (T := fun k => k = tp) (fun _ _ h => h.elim)).trans hkt (fun _ _ h => h)
  have hb6 : w6.heap[tp]? = _ := (hk.block tp (hlt tp (.inl rfl)) (fun h => h)).trans h.box
  obtain ⟨N, hN, hm⟩ := h.map
  refine ⟨⟨h.lt64, by rw [heap_setCell_same w6 tp 1 _ _ _ hb6]; rfl, ?_, ⟨N, hN, hm.keep hk2 (fun e => h.tp_mb e.symm)⟩, fun d hd => col_keep (h.cols d hd) hk2 (fun k e e2 => h.ntp d hd (by rw [← e2]; exact e)), h24, h.ntp, h.nmb, fun d k hd e e2 => ?_, h.apart⟩, hk2.mono (fun k _ e => .inl e), fun k hk => ?_⟩
  · exact (ho.mono (Nat.zero_le _)).keep hkt (fun k e e2 => by
      have h1 := (ho.ownB k e).1
      have h2 := hlt tp (.inl rfl)
      omega)
  · have h1 := (ho.ownB k e).1
    have h2 := hlt k (.inr (.inr (.inr ⟨d, hd, e2⟩)))
    omega
  · rcases hk with e | e | e | e
    · exact .inl (.inl e)
    · exact .inl (.inr (.inl e))
    · exact .inr (ho.ownB k e).1
    · exact .inl (.inr (.inr (.inr e)))
end
end Go.Proofs.YtdeifjnhbdkkgaaGreatDoor
namespace Go.Proofs.YtdeifjnhbdkkgaaGreatDoor
open Go.RowKit
set_option maxRecDepth 100000
set_option linter.unusedVariables false
set_option linter.unusedSimpArgs false

theorem idx_at : ∀ {L : List Nat}, L.Nodup → ∀ {j : Nat}, j < L.length → L.idxOf (L.getD j 0) = j
  | [], _, j, h => by simp at h
  | a :: L, hn, 0, h => by simp
  | a :: L, hn, j + 1, h => by
    have hn2 := List.nodup_cons.1 hn
    have hj : j < L.length := by simpa using h
    have ih := idx_at hn2.2 hj
    have hm := getD_mem hj
    rw [List.getD_cons_succ, List.idxOf_cons]
    have hne : ¬ a = L.getD j 0 := fun e => hn2.1 (by rw [e]; exact hm)
    rw [show (a == L.getD j 0) = false from beq_eq_false_iff_ne.2 hne]
    simp only [cond_false, ih]
/-- May these rows be loaded? -/
def goodL (L : List Nat) (sz : Nat → Nat) (n : Nat) (cols : List (List UInt8)) (i : Nat) : Prop := (cols.getD i []).length = n * sz (L.getD i 0)
def loadOk (l : List Cp) (sig n : Nat) (cols : List (List UInt8)) : Prop := sig &&& allOf l = sig ∧ cols.length = (bl sig 64).length ∧ n ≤ 1024 ∧ ∀ i, i < cols.length → goodL (bl sig 64) (szOf l) n cols i
def colL (L : List Nat) (sz : Nat → Nat) (n : Nat) (cols : List (List UInt8)) (D : List Nat) (d : Nat) : List (List UInt8) := if d ∈ D then rowsOf (cols.getD (L.idxOf d) []) n (sz d) else []
theorem bys_at {w : World} {F : Nat → Prop} {A : Option Addr} {n d : Nat} {R : List (List UInt8)} (h : Bys w F (.slice A n d) R) : ∀ k, k < n →
    ∃ b off A1 d1, A = some ⟨b, off, none⟩ ∧ w.cell? ⟨b, off + k, none⟩ = some (.slice A1 (R.getD k []).length d1) ∧ By w F (.slice A1 (R.getD k []).length d1) (R.getD k []) := fun k hk => by
  obtain ⟨A', c, e, _, _, hat⟩ := h.form
  injection e with e1 e2 e3
  subst e1 e2 e3
  obtain ⟨b, off, u, e, hc, hb⟩ := hat k hk
  have hb' := hb
  obtain ⟨A1, d1, rfl, -⟩ := hb'
  exact ⟨b, off, A1, d1, e, hc, hb⟩
end Go.Proofs.YtdeifjnhbdkkgaaGreatDoor
namespace Go.Proofs.YtdeifjnhbdkkgaaGreatDoor
open Go.RowKit
set_option maxRecDepth 100000
set_option linter.unusedVariables false
set_option linter.unusedSimpArgs false

theorem nil_sig (w : World) : Calls Tryz.prog 45 #[.pointer none] w fun e w' => e = .returned (.int .u64 0) ∧ w = w' := by
  go_enter Tryz.func45, Tryz.ntmps45
  go_wp2
  go_ret
  exact ⟨rfl, rfl⟩
theorem nil_len (w : World) : Calls Tryz.prog 44 #[.pointer none] w fun e w' => e = .returned (.int .i64 0) ∧ w = w' := by
  go_enter Tryz.func44, Tryz.ntmps44
  go_wp2
  go_ret
  exact ⟨rfl, rfl⟩
theorem nil_ids (w : World) : Calls Tryz.prog 46 #[.pointer none] w fun e w' => e = .returned (.slice none 0 0) ∧ w = w' := by
  go_enter Tryz.func46, Tryz.ntmps46
  go_wp2
  go_ret
  exact ⟨rfl, rfl⟩
theorem nil_at (row : Int) (w : World) : Calls Tryz.prog 62 #[.pointer none, .int .i64 row] w fun e w' => e = .returned (.int .i64 4) ∧ w = w' := by
  go_enter Tryz.func62, Tryz.ntmps62
  go_wp2
  go_ret
  exact ⟨rfl, rfl⟩
theorem nil_parts (row : Int) (w : World) : Calls Tryz.prog 41 #[.pointer none, .int .i64 row] w fun e w' => e = .returned (.tuple #[.slice none 0 0, .int .i64 4]) ∧ w = w' := by
  have AT := Lib.hid (nil_at row w)
  go_enter Tryz.func41, Tryz.ntmps41
  go_wp2_with fail
  with_reducible refine AT.out.mono ?_
  rintro e w1 ⟨rfl, rfl⟩
  go_wp2
  go_ret2
  exact ⟨rfl, rfl⟩
theorem nil_column (k : Int) (w : World) : Calls Tryz.prog 47 #[.pointer none, .int .i64 k] w fun e w' => e = .returned (.tuple #[.slice none 0 0, .bool false]) ∧ Keep (fun _ => False) w w' := by
  go_enter Tryz.func47, Tryz.ntmps47
  go_wp2
  go_ret2
  exact ⟨rfl, (by repeat first | (with_reducible assumption) | (with_reducible exact Keep.refl _ _) | (with_reducible refine Keep.alloc ?_ _) | (with_reducible refine Keep.drew ?_) | (with_reducible refine Keep.drewN ?_ _) | (with_reducible refine Keep.setCell ?_ (.inl (by first | omega | (simp; done) | (simp; omega) | fail)) _))⟩
end Go.Proofs.YtdeifjnhbdkkgaaGreatDoor

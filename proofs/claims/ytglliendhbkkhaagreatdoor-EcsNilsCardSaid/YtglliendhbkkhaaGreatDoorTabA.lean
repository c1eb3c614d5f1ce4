/- Contract of column.Load. -/
import Derived.Test.YtglliendhbkkhaaGreatDoorTab7
namespace Go.Proofs.YtglliendhbkkhaaGreatDoor
open Go.RowKit
set_option maxRecDepth 100000
set_option linter.unusedVariables false
set_option linter.unusedSimpArgs false

def ColMade (w : World) (size : Nat) (R : List (List UInt8)) (p : Nat) (w' : World) : Prop := ∃ Foot, Col w' p Foot size R ∧ Below w.heap.size w w' ∧ ∀ k, Foot k → w.heap.size ≤ k
/-- Bytes as rows of one size. -/
def rowsOf (b : List UInt8) (r z : Nat) : List (List UInt8) := (List.range r).map fun i => (b.drop (i * z)).take z
theorem rowsOf_len (b : List UInt8) (r z : Nat) : (rowsOf b r z).length = r := by simp [rowsOf]
theorem rowsOf_wide {b : List UInt8} {r z : Nat} (h : b.length = r * z) : ∀ x ∈ rowsOf b r z, x.length = z := fun x hx => by
  obtain ⟨i, hi, rfl⟩ := List.mem_map.1 hx
  have hi := List.mem_range.1 hi
  have : i * z + z ≤ r * z := by rw [← Nat.succ_mul]; exact Nat.mul_le_mul_right _ hi
  rw [List.length_take, List.length_drop]; omega
theorem rowsOf_flat : ∀ (r z : Nat) (b : List UInt8), b.length = r * z → (rowsOf b r z).flatten = b
  | 0, z, b, h => by
    have : b = [] := List.eq_nil_of_length_eq_zero (by omega)
    subst this; rfl
  | r + 1, z, b, h => by
    have hz : z ≤ b.length := by rw [h, Nat.succ_mul]; omega
    have ih := rowsOf_flat r z (b.drop z) (by rw [List.length_drop, h, Nat.succ_mul]; omega)
    have e : rowsOf b (r + 1) z = b.take z :: rowsOf (b.drop z) r z := by
      unfold rowsOf
      rw [List.range_succ_eq_map, List.map_cons, List.map_map]
      simp only [Nat.zero_mul, List.drop_zero]
      congr 1
      apply List.map_congr_left
      intro i _
      show (b.drop ((i + 1) * z)).take z = ((b.drop z).drop (i * z)).take z
      rw [List.drop_drop, Nat.succ_mul, Nat.add_comm]
    rw [e, List.flatten_cons, ih, List.take_append_drop]
theorem clampN_nat {n : Nat} (h : n ≤ 64) : clampN (n : Int) = n := by
  unfold clampN
  rw [if_neg (by omega), if_neg (by omega), Int.toNat_natCast]
theorem cload_any (size rows : Nat) (hs : size ≤ 64) (hr : rows ≤ 1024) (b : List UInt8) (hb : b.length ≤ 1099511627776) (v : Value) (F : Nat → Prop) (w : World) (hv : By w F v b) :
    Calls Tryz.prog 170 #[.int .i64 (size : Int), .int .i64 (rows : Int), v] w fun e w' => (b.length ≠ rows * size ∧ e = .returned (.tuple #[.pointer none, .int .i64 11]) ∧ Below w.heap.size w w') ∨ (b.length = rows * size ∧ ∃ p, e = .returned (.tuple #[.pointer (some ⟨p, 0, none⟩), .int .i64 0]) ∧ ColMade w size (rowsOf b rows size) p w') := by
  have NW := Lib.hid (col_new (size : Int) w)
  rw [clampN_nat hs] at NW
  have CL := Lib.hid (fun w' (hb' : Below w.heap.size w w') => clone_any b v F w' (hv.below hb') (by omega))
  obtain ⟨A, c, rfl, _, _, _, _⟩ := hv
  have hm : rows * size ≤ 65536 := Nat.mul_le_mul hr hs
  have e2 : IntKind.i64.wrap ((rows : Int) * (size : Int)) = ((rows * size : Nat) : Int) := by rw [← Int.natCast_mul]; exact IntWalk.i64_in _ (by omega)
  obtain ⟨q, hq⟩ : ∃ q, rows * size = q := ⟨_, rfl⟩
  have HQ := Lib.hid hq
  rw [hq] at e2 hm ⊢
  clear hq
  obtain ⟨n, hn⟩ : ∃ n, b.length = n := ⟨_, rfl⟩
  have HN := Lib.hid hn
  rw [hn] at CL hb ⊢
  clear hn
  have g1 : ¬ (rows : Int) < 0 := by omega
  have g2 : ¬ (1024 : Int) < (rows : Int) := by omega
  by_cases hnq : n = q
  · subst hnq
    have g3 : ((n : Int) != (n : Int)) = false := by simp
    go_enter Tryz.func170, Tryz.ntmps170
    go_wp2_with fail
    refine NW.out.mono ?_
    rintro e w1 ⟨p, Foot, rfl, hc, hb, hf⟩
    obtain ⟨vs, hp, hown, hfo⟩ := hc.ex
    have x0 : w1.cell? ⟨p, 0, none⟩ = some vs := by rw [cell_of_row w1 p 0 _ _ _ hp]; rfl
    have x1 : w1.cell? ⟨p, 1, none⟩ = some (.int .i64 0) := by rw [cell_of_row w1 p 1 _ _ _ hp]; rfl
    have x2 : w1.cell? ⟨p, 2, none⟩ = some (.int .i64 (size : Int)) := by rw [cell_of_row w1 p 2 _ _ _ hp]; rfl
    have C2 := Lib.hid (CL.out w1 hb)
    have HB := Lib.hid (And.intro hb (And.intro hp (hf p hc.at_)))
    clear hc hb hf hp hown hfo NW CL
    go_wp2_with fail
    refine C2.out.mono ?_
    rintro e w2 ⟨u, rfl, ho, hb2⟩
    have hp2 : w2.heap[p]? = _ := (hb2.block p (Array.getElem?_eq_some_iff.1 HB.out.2.1).1).trans HB.out.2.1
    have y0 : w2.cell? ⟨p, 0, none⟩ = some vs := by rw [cell_of_row w2 p 0 _ _ _ hp2]; rfl
    have y1 : w2.cell? ⟨p, 1, none⟩ = some (.int .i64 0) := by rw [cell_of_row w2 p 1 _ _ _ hp2]; rfl
    have yf := fun i => frozen_of_row w2 p i _ _ hp2
    obtain ⟨A3, c3, rfl, _⟩ := ho.form
    have FIN := Lib.hid (show ColMade w size (rowsOf b rows size) p ((w2.setCell ⟨p, 0, none⟩ (.slice A3 n c3)).setCell ⟨p, 1, none⟩ (.int .i64 (rows : Int))) from by
      have h2 := heap_setCell_same _ p 1 _ _ (.int .i64 (rows : Int)) (heap_setCell_same w2 p 0 _ _ (.slice A3 n c3) hp2)
      have ks : Keep (fun b => b = p) w2 ((w2.setCell ⟨p, 0, none⟩ (.slice A3 n c3)).setCell ⟨p, 1, none⟩ (.int .i64 (rows : Int))) := Keep.setCell (S := fun b => b = p) (p := ⟨p, 1, none⟩) (Keep.setCell (S := fun b => b = p) (p := ⟨p, 0, none⟩) (Keep.refl _ _) (.inr rfl) _) (.inr rfl) _
      have hsz := HB.out.1.size
      have hpl := (Array.getElem?_eq_some_iff.1 hp2).1
      have ho' : Own ((w2.setCell ⟨p, 0, none⟩ (.slice A3 n c3)).setCell ⟨p, 1, none⟩ (.int .i64 (rows : Int))) w1.heap.size 5 1 (.slice A3 n c3) n (bv b) := ho.keep ks (fun x hx e => (ho.ne_cells hp2 (by decide)) (by rw [hx, e]))
      refine ⟨fun b => b = p ∨ ownB (.slice A3 n c3) = some b, ⟨⟨.slice A3 n c3, ?_, ?_, fun k hk => .inr hk⟩, .inl rfl, ?_, rowsOf_wide (HN.out.trans HQ.out.symm), hs, by rw [rowsOf_len]; exact hr⟩, ?_, ?_⟩
      · rw [rowsOf_len, h2]; rfl
      · rw [rowsOf_len, rowsOf_flat rows size b (HN.out.trans HQ.out.symm), HQ.out]; exact ho'.mono (Nat.zero_le _)
      · intro k hk
        rcases hk with rfl | hk
        · exact Nat.lt_of_lt_of_le hpl ks.size
        · exact (ho'.ownB k hk).2
      · refine HB.out.1.trans ((hb2.mono hsz).trans ?_)
        exact ks.below (Nat.le_trans hsz hb2.size) (fun x hx e => by have := HB.out.2.2; omega)
      · intro k hk
        rcases hk with rfl | hk
        · exact HB.out.2.2
        · have := (ho.ownB k hk).1; omega)
    clear ho hb2 hp2 HB
    go_wp2
    go_ret2
    exact .inr ⟨trivial, _, rfl, FIN.out⟩
  · have g3 : ((n : Int) != (q : Int)) = true := by rw [bne_iff_ne]; omega
    have NE := Lib.hid hnq
    clear hnq
    go_enter Tryz.func170, Tryz.ntmps170
    go_wp2_with fail
    refine NW.out.mono ?_
    rintro e w1 ⟨p, Foot, rfl, hc, hb, hf⟩
    obtain ⟨vs, hp, hown, hfo⟩ := hc.ex
    have x2 : w1.cell? ⟨p, 2, none⟩ = some (.int .i64 (size : Int)) := by rw [cell_of_row w1 p 2 _ _ _ hp]; rfl
    have HB := Lib.hid hb
    clear hc hb hf hp hown hfo NW CL
    go_wp2
    go_ret2
    exact .inl ⟨NE.out, rfl, HB.out⟩
section
variable {w : World} {tp mb : Nat} {vs : Value} {cp : Nat → Nat} {FC : Nat → Nat → Prop} {sig : Nat} {sz : Nat → Nat} {ids : List IdZ} {col : Nat → List (List UInt8)}
/-- Another column in the map. -/
theorem Tb.putCol (h : Tb w tp mb vs cp FC sig sz ids col) {N : Nat} (hm : MapV w Tryz.prog 3 mb N (colF (bl sig 64) cp)) (hN : N + 1 ≤ 1000000) {c p : Nat} (hc : c ∈ bl sig 64) {w4 : World} {F : Nat → Prop} {R : List (List UInt8)} (hk : Keep (fun _ => False) w w4) (hcol : Col w4 p F (sz c) R) (hF : ∀ k, F k → w.heap.size ≤ k) :
    ∃ w5, (Instr.mapUpdate 198 (.map (some mb)) (.int .i64 (c : Int)) (.pointer (some ⟨p, 0, none⟩))).run Tryz.prog w4 = .ok () w5 ∧ Keep (fun x => x = mb) w4 w5 ∧
      ∃ cp' FC', Tb w5 tp mb vs cp' FC' sig sz ids (fun d => if d = c then R else col d) ∧ MapV w5 Tryz.prog 3 mb (N + 1) (colF (bl sig 64) cp') ∧ ∀ k, TF tp mb vs FC' sig k → TF tp mb vs FC sig k ∨ w.heap.size ≤ k := by
  have h4 := h.same hk
  have hlt := h.lt
  have hc64 := bl_lt hc
  obtain ⟨w5, r1, r2, r3⟩ := (hm.keep hk (fun h => h)).update keyedInt (g := colF (bl sig 64) (fun d => if d = c then p else cp d)) Tryz.underlying198 (by unfold maxLen; omega) (.pointer (some ⟨p, 0, none⟩)) (keyInt (c : Int) (by omega)) (colF_put (fun d => ⟨.inl, fun e => e.elim id (fun e => by rw [e]; exact hc)⟩))
  have hnF : ∀ k, TF tp mb vs FC sig k → ¬ F k := fun k hk e => by have := hlt k hk; have := hF k e; omega
  refine ⟨w5, r1, r3, (fun d => if d = c then p else cp d), (fun d => if d = c then F else FC d), ⟨h.lt64, (r3.block tp (h4.lt tp (.inl rfl)) h.tp_mb).trans h4.box, h4.own.keep r3 (fun k e e2 => h.mb_vs (by rw [← e2]; exact e)), ⟨N + 1, hN, r2⟩, fun d hd => ?_, h.few, fun d hd => ?_, fun d hd => ?_, fun d k hd e => ?_, fun d d' k hd hd' hne => ?_⟩, r2, fun k hk => ?_⟩
  · by_cases e : d = c
    · subst e; simp only [if_pos]; exact col_keep hcol r3 (fun k e e2 => hnF mb (.inr (.inl rfl)) (by rw [← e2]; exact e))
    · simp only [if_neg e]; exact col_keep (h4.cols d hd) r3 (fun k e' e2 => h.nmb d hd (by rw [← e2]; exact e'))
  · by_cases e : d = c
    · simp only [e, if_pos]; exact hnF tp (.inl rfl)
    · simp only [if_neg e]; exact h.ntp d hd
  · by_cases e : d = c
    · simp only [e, if_pos]; exact hnF mb (.inr (.inl rfl))
    · simp only [if_neg e]; exact h.nmb d hd
  · by_cases e' : d = c
    · simp only [e', if_pos]; exact hnF k (.inr (.inr (.inl e)))
    · simp only [if_neg e']; exact h.nvs d k hd e
  · by_cases e : d = c
    · have e' : ¬ d' = c := fun x => hne (e.trans x.symm)
      simp only [e, if_pos, if_neg e']
      exact fun hk hk' => hnF k (.inr (.inr (.inr ⟨d', hd', hk'⟩))) hk
    · simp only [if_neg e]
      by_cases e' : d' = c
      · simp only [e', if_pos]
        exact fun hk => hnF k (.inr (.inr (.inr ⟨d, hd, hk⟩)))
      · simp only [if_neg e']
        exact h.apart d d' k hd hd' hne
  · rcases hk with hk | hk | hk | ⟨d, hd, hk⟩
    · exact .inl (.inl hk)
    · exact .inl (.inr (.inl hk))
    · exact .inl (.inr (.inr (.inl hk)))
    · by_cases e : d = c
      · simp only [e, if_pos] at hk
        exact .inr (hF k hk)
      · simp only [if_neg e] at hk
        exact .inl (.inr (.inr (.inr ⟨d, hd, hk⟩)))
/-- Other names in place of none. -/
theorem Tb.names_ (h : Tb w tp mb (.slice none 0 0) cp FC sig sz [] col) {w6 : World} {v' : Value} {n : Nat} (hn : ids.length = n) (hk : Keep (fun _ => False) w w6) (ho : Own w6 w.heap.size 40 2 v' n (ids.flatMap idC)) (h24 : n ≤ 1024) :
    Tb (w6.setCell ⟨tp, 1, none⟩ v') tp mb v' cp FC sig sz ids col ∧ Keep (TF tp mb (.slice none 0 0) FC sig) w (w6.setCell ⟨tp, 1, none⟩ v') ∧ ∀ k, TF tp mb v' FC sig k → TF tp mb (.slice none 0 0) FC sig k ∨ w.heap.size ≤ k := by
  subst hn
  have hlt := h.lt
  have hkt : Keep (fun k => k = tp) w6 (w6.setCell ⟨tp, 1, none⟩ v') := Keep.setCell (S := fun k => k = tp) (p := ⟨tp, 1, none⟩) (Keep.refl _ _) (.inr rfl) _
  have hk2 : Keep (fun k => k = tp) w (w6.setCell ⟨tp, 1, none⟩ v') := (hk.mono (T := fun k => k = tp) (fun _ _ h => h.elim)).trans hkt (fun _ _ h => h)
  have hb6 : w6.heap[tp]? = _ := (hk.block tp (hlt tp (.inl rfl)) (fun h => h)).trans h.box
  obtain ⟨N, hN, hm⟩ := h.map
  refine ⟨⟨h.lt64, by rw [heap_setCell_same w6 tp 1 _ _ _ hb6]; rfl, ?_, ⟨N, hN, hm.keep hk2 (fun e => h.tp_mb e.symm)⟩, fun d hd => col_keep (h.cols d hd) hk2 (fun k e e2 => h.ntp d hd (by rw [← e2]; exact e)), h24, h.ntp, h.nmb, fun d k hd e e2 => ?_, h.apart⟩, hk2.mono (fun k _ e => .inl e), fun k hk => ?_⟩
  · exact (ho.mono (Nat.zero_le _)).keep hkt (fun k e e2 => by
      have h1 := (ho.ownB k e).1
      have h2 := hlt tp (.inl rfl)
      omega)
  · have h1 := (ho.ownB k e).1
    have h2 := hlt k (.inr (.inr (.inr ⟨d, hd, e2⟩)))
    omega
  · rcases hk with e | e | e | e
    · exact .inl (.inl e)
    · exact .inl (.inr (.inl e))
    · exact .inr (ho.ownB k e).1
    · exact .inl (.inr (.inr (.inr e)))
end
end Go.Proofs.YtglliendhbkkhaaGreatDoor
namespace Go.Proofs.YtglliendhbkkhaaGreatDoor
open Go.RowKit
set_option maxRecDepth 100000
set_option linter.unusedVariables false
set_option linter.unusedSimpArgs false

theorem idx_at : ∀ {L : List Nat}, L.Nodup → ∀ {j : Nat}, j < L.length → L.idxOf (L.getD j 0) = j
  | [], _, j, h => by simp at h
  | a :: L, hn, 0, h => by simp
  | a :: L, hn, j + 1, h => by
    have hn2 := List.nodup_cons.1 hn
    have hj : j < L.length := by simpa using h
    have ih := idx_at hn2.2 hj
    have hm := getD_mem hj
    rw [List.getD_cons_succ, List.idxOf_cons]
    have hne : ¬ a = L.getD j 0 := fun e => hn2.1 (by rw [e]; exact hm)
    rw [show (a == L.getD j 0) = false from beq_eq_false_iff_ne.2 hne]
    simp only [cond_false, ih]
/-- May these rows be loaded? -/
def goodL (L : List Nat) (sz : Nat → Nat) (n : Nat) (cols : List (List UInt8)) (i : Nat) : Prop := (cols.getD i []).length = n * sz (L.getD i 0)
def loadOk (l : List Cp) (sig n : Nat) (cols : List (List UInt8)) : Prop := sig &&& allOf l = sig ∧ cols.length = (bl sig 64).length ∧ n ≤ 1024 ∧ ∀ i, i < cols.length → goodL (bl sig 64) (szOf l) n cols i
def colL (L : List Nat) (sz : Nat → Nat) (n : Nat) (cols : List (List UInt8)) (D : List Nat) (d : Nat) : List (List UInt8) := if d ∈ D then rowsOf (cols.getD (L.idxOf d) []) n (sz d) else []
theorem bys_at {w : World} {F : Nat → Prop} {A : Option Addr} {n d : Nat} {R : List (List UInt8)} (h : Bys w F (.slice A n d) R) : ∀ k, k < n →
    ∃ b off A1 d1, A = some ⟨b, off, none⟩ ∧ w.cell? ⟨b, off + k, none⟩ = some (.slice A1 (R.getD k []).length d1) ∧ By w F (.slice A1 (R.getD k []).length d1) (R.getD k []) := fun k hk => by
  obtain ⟨A', c, e, _, _, hat⟩ := h.form
  injection e with e1 e2 e3
  subst e1 e2 e3
  obtain ⟨b, off, u, e, hc, hb⟩ := hat k hk
  have hb' := hb
  obtain ⟨A1, d1, rfl, -⟩ := hb'
  exact ⟨b, off, A1, d1, e, hc, hb⟩
set_option maxHeartbeats 1000000 in
theorem tload_any (c : Cf) (u : Value) (F : Nat → Prop) (sig : Nat) (hs : sig < 18446744073709551616) (ids : List IdZ) (vI : Value) (G : Nat → Prop) (cols : List (List UInt8)) (vC : Value) (H : Nat → Prop) (w : World) (hu : CL w F u c.l) (h40 : c.l.length ≤ 1000) (hI : Sl w G 2 vI ids.length (ids.flatMap idC)) (hC : Bys w H vC cols) (hw : ∀ x ∈ cols, x.length ≤ 1099511627776) (hT : Tab w) :
    Calls Tryz.prog 133 #[confV c u, .int .u64 (sig : Int), vI, vC] w fun e w' => (¬ loadOk c.l sig ids.length cols ∧ e = .returned (.tuple #[.pointer none, .int .i64 11]) ∧ Below w.heap.size w w') ∨ (loadOk c.l sig ids.length cols ∧ ∃ tp, e = .returned (.tuple #[.pointer (some ⟨tp, 0, none⟩), .int .i64 0]) ∧ TbNew w sig (szOf c.l) ids (colL (bl sig 64) (szOf c.l) ids.length cols (bl sig 64)) tp w') := by
  have hu0 := hu
  obtain ⟨A, cap, rfl, hnc, hcm, -⟩ := hu
  have B0 := Lib.hid (BF.first hu0)
  have HT := Lib.hid hT
  have HU := Lib.hid hu0
  have HI := Lib.hid hI
  have HC := Lib.hid hC
  unfold confV
  obtain ⟨log, pages, ents, gens, l⟩ := c
  simp only at hnc hu0 B0 h40 HU ⊢
  have H40 := Lib.hid h40
  obtain ⟨AI, cI, rfl, hI1, hI2, -⟩ := hI
  obtain ⟨AC, cC, rfl, hC1, hC2, -⟩ := hC.form
  unfold maxLen at hI2 hC2
  have HW := Lib.hid (show ∀ i, (cols.getD i []).length ≤ 1099511627776 from fun i => by
    by_cases h : i < cols.length
    · rw [List.getD_eq_getElem?_getD, List.getElem?_eq_getElem h]; exact hw _ (List.getElem_mem h)
    · rw [List.getD_eq_getElem?_getD, List.getElem?_eq_none (by omega)]; simp)
  obtain ⟨nc, hnc'⟩ : ∃ nc, nc = l.length := ⟨_, rfl⟩
  rw [← hnc'] at hnc hu0 B0 HU ⊢
  obtain ⟨OK, hOK⟩ : ∃ OK : Prop, OK = loadOk l sig ids.length cols := ⟨_, rfl⟩
  have HOK := Lib.hid hOK
  rw [← hOK]
  obtain ⟨n, hn⟩ : ∃ n, n = ids.length := ⟨_, rfl⟩
  have HN := Lib.hid hn
  rw [← hn] at hI1 HI HOK ⊢
  obtain ⟨m, hm⟩ : ∃ m, m = cols.length := ⟨_, rfl⟩
  have HM := Lib.hid hm
  rw [← hm] at hC1 HC ⊢
  clear hn hm hcm hT hC hw hOK hnc'
  go_enter Tryz.func133, Tryz.ntmps133
  go_upto_region 1 with fail
  refine wp_world (S := BF w F ⟨log, pages, ents, gens, l⟩ (.slice A nc cap)) B0.out ?_
  intro X hX
  have HX := Lib.hid hX
  clear hX hu0 B0
  obtain ⟨x0, x1, x2, x3, x4, xf⟩ := cells5 HX.out.1
  have K0 := Lib.hid (show Keep (fun _ => False) w X from Keep.of_below' HX.out.2.2)
  have CN := tnew_any ⟨log, pages, ents, gens, l⟩ (.slice A nc cap) F sig hs X HX.out.2.1 H40.out (HT.out.same K0.out)
  unfold confV at CN
  go_wp2_with fail
  with_reducible refine CN.mono ?_
  rintro e w1 ⟨tp, rfl, mb, cp, FC, ht, hmv, hb1, hf1⟩
  clear CN x0 x1 x2 x3 x4 xf
  have HT1 := Lib.hid ht
  have HMV := Lib.hid hmv
  have K1 := Lib.hid (K0.out.trans (Keep.of_below' hb1) (fun _ _ h => h))
  have HF1 := Lib.hid (show ∀ k, TF tp mb (.slice none 0 0) FC (sig &&& allOf l) k → w.heap.size ≤ k from fun k hk => Nat.le_trans K0.out.size (hf1 k hk))
  clear ht hmv hb1 hf1
  have hle : sig &&& allOf l ≤ sig := Nat.and_le_left
  have CT := Lib.hid (count_any sig hs)
  obtain ⟨c0, c1, c2, cf⟩ := cells3 HT1.out.box
  by_cases h1 : sig &&& allOf l = sig
  · by_cases h2 : m = (bl sig 64).length
    · by_cases h3 : n ≤ 1024
      · have hsE := h1
        have RSig := Lib.hid (show ∀ k, TF tp mb (.slice none 0 0) FC sig k → w.heap.size ≤ k from fun k hk => HF1.out k (by rw [hsE]; exact hk))
        have RT := Lib.hid (show Tb w1 tp mb (.slice none 0 0) cp FC sig (szOf l) [] (fun _ => []) from by have := HT1.out; rwa [hsE] at this)
        have RM := Lib.hid (show MapV w1 Tryz.prog 3 mb 64 (colF (bl sig 64) cp) from by have := HMV.out; rwa [hsE] at this)
        rw [h1] at c0
        have g1 : ((sig : Int) != (sig : Int)) = false := by simp
        have g2 : (((m : Nat) : Int) != (((bl sig 64).length : Nat) : Int)) = false := by rw [h2]; simp
        have g3 : decide ((1024 : Int) < (n : Int)) = false := decide_eq_false (by omega)
        have OKY := Lib.hid (show (∀ i, i < m → goodL (bl sig 64) (szOf l) n cols i) → OK from fun h => by rw [HOK.out]; exact ⟨hsE, by rw [← HM.out]; exact h2, h3, fun i hi => h i (by rw [HM.out]; exact hi)⟩)
        have OKN := Lib.hid (show ∀ i, i < m → ¬ goodL (bl sig 64) (szOf l) n cols i → ¬ OK from fun i hi hg h => by
          rw [HOK.out] at h
          exact hg (h.2.2.2 i (by rw [← HM.out]; exact hi)))
        have BL := Lib.hid (bitsList_any sig hs w1 (HT.out.same K1.out))
        have ME := Lib.hid (fun j (hj : j < (bl sig 64).length) => getD_mem hj)
        have L64 := bl_len sig 64
        have TM := Lib.hid (fun j (hj : j < (bl sig 64).length) => take_next_mem hj)
        have IX := Lib.hid (fun j (hj : j < (bl sig 64).length) => idx_at (bl_nodup sig 64) hj)
        have TN := Lib.hid (fun j (hj : j < (bl sig 64).length) => take_next_not hj (bl_nodup sig 64))
        have TL := Lib.hid (show (bl sig 64).take (bl sig 64).length = bl sig 64 from List.take_length)
        have LT64 := Lib.hid (fun c (hc : c ∈ bl sig 64) => bl_lt hc)
        clear HOK HT1 HMV HF1 h1 hle hsE
        obtain ⟨L, hL⟩ : ∃ L, bl sig 64 = L := ⟨_, rfl⟩
        have HL := Lib.hid hL
        rw [hL] at BL ME L64 TM TN TL LT64 IX OKY OKN CT g2 h2
        clear hL
        have HLM := Lib.hid h2.symm
        rw [← h2] at BL ME TM TN TL L64 IX CT g2
        clear h2
        go_wp2_with fail
        with_reducible refine (CT.out w1).mono ?_
        rintro e w2 ⟨rfl, rfl⟩
        go_wp2_with fail
        with_reducible refine BL.out.mono ?_
        rintro e w2 ⟨u1, rfl, ho1, hb2⟩
        obtain ⟨A1, d1, rfl, -⟩ := ho1.form
        have H2 := Lib.hid (show Sl w2 (fun k => w1.heap.size ≤ k) 1 (.slice A1 m d1) m (iv (ints L)) ∧ Keep (fun _ => False) w1 w2 from ⟨ho1.sl, Keep.of_below' hb2⟩)
        clear ho1 hb2 c0 c1 c2 cf BL CT
        have TLT := Lib.hid RT.out.lt
        go_wp2
        go_loopw [39] (fun i wr => ∃ j : Nat, j ≤ m ∧ i = .int .i64 (j : Int) ∧ Hid (∃ cp FC, Tb wr tp mb (.slice none 0 0) cp FC sig (szOf l) [] (colL L (szOf l) n cols (L.take j)) ∧ MapV wr Tryz.prog 3 mb (64 + j) (colF (bl sig 64) cp) ∧ ∀ k, TF tp mb (.slice none 0 0) FC sig k → w.heap.size ≤ k) ∧ Hid (Keep (fun x => x = mb) w2 wr) ∧ Hid (∀ i, i < j → goodL L (szOf l) n cols i)) (fun i _ => m - (intOf i).toNat)
        case atStart => exact ⟨0, by omega, rfl, Lib.hid ⟨cp, FC, (RT.out.same H2.out.2).congr (fun d hd => by unfold colL; rw [if_neg (by simp)]), RM.out.keep H2.out.2 (fun h => h), RSig.out⟩, Lib.hid (Keep.refl _ _), Lib.hid (fun i hi => absurd hi (by omega))⟩
        case round =>
          obtain ⟨j, hj, rfl, ⟨cpr, FCr, hst, hmr, hfr⟩, hkr, hgd⟩ := hrel
          have HS := Lib.hid hst
          have HMR := Lib.hid hmr
          have HFR := Lib.hid hfr
          have hmlt := TLT.out mb (.inr (.inl rfl))
          have KX := Lib.hid (show Keep (fun x => w.heap.size ≤ x) w wr from ((K1.out.trans H2.out.2 (fun _ _ h => h)).mono (T := fun x => w.heap.size ≤ x) (fun _ _ h => h.elim)).trans hkr.out (fun x _ e => by rw [e]; exact RSig.out mb (.inr (.inl rfl))))
          clear hst hmr hfr
          by_cases hlt : j < m
          · have f1 : (j : Int) < (m : Int) := by omega
            have f0 : (0 : Int) ≤ (j : Int) := by omega
            obtain ⟨b1, o1, rfl, hcl⟩ := ints_at (H2.out.1.keep hkr.out (fun k _ h e => by omega)) HLM.out hlt
            obtain ⟨b2, o2, A2, d2, rfl, hcc, hby⟩ := bys_at (HC.out.keep KX.out (fun b hb _ h => by omega)) j hlt
            have hcm := ME.out j hlt
            have TMj := Lib.hid (TM.out j hlt)
            have IXj := Lib.hid (IX.out j hlt)
            have TNj := Lib.hid (TN.out j hlt)
            have GJ := Lib.hid (show goodL L (szOf l) n cols j ↔ (cols.getD j []).length = n * szOf l (L.getD j 0) from Iff.rfl)
            generalize L.getD j 0 = c at *
            have hcm2 : c ∈ bl sig 64 := by rw [HL.out]; exact hcm
            have hcr : -9223372036854775808 ≤ (c : Int) ∧ (c : Int) ≤ 9223372036854775807 := by have := LT64.out c hcm; omega
            have hbl := HW.out j
            have CE := Lib.hid (show ∀ W', Keep (fun _ => False) wr W' → (W'.cell? ⟨tp, 2, none⟩ = some (.map (some mb)) ∧ (Instr.lookup 198 (.map (some mb)) (.int .i64 (c : Int)) false).run Tryz.prog W' = .ok (.pointer (some ⟨cpr c, 0, none⟩)) W' ∧ W'.cell? ⟨b2, o2 + j, none⟩ = some (.slice A2 (cols.getD j []).length d2)) from fun W' hk => ⟨(cells3 (HS.out.same hk).box).2.2.1, by
              have := (HS.out.look hk hcr).2
              rw [hasK_nat, decide_eq_true hcm2, if_pos rfl, Int.toNat_natCast] at this
              exact this, hk.cell (fun h => h) hcc⟩)
            have CS := Lib.hid (fun W' (hk : Keep (fun _ => False) wr W') => col_size ((HS.out.same hk).cols c hcm2))
            have hsz := (HS.out.cols c hcm2).small
            have LD := Lib.hid (fun W' (hk : Keep (fun _ => False) wr W') => cload_any (szOf l c) n hsz h3 (cols.getD j []) hbl _ H W' (hby.keep hk (fun _ _ _ h => h)))
            have hgd2 := Lib.hid hgd.out
            have NXT := Lib.hid (show goodL L (szOf l) n cols j → ∀ p F (W' w4 : World), Keep (fun _ => False) wr W' → (Col w4 p F (szOf l c) (rowsOf (cols.getD j []) n (szOf l c)) ∧ Below W'.heap.size W' w4 ∧ ∀ k, F k → W'.heap.size ≤ k) → ∃ w5, (Instr.mapUpdate 198 (.map (some mb)) (.int .i64 (c : Int)) (.pointer (some ⟨p, 0, none⟩))).run Tryz.prog w4 = .ok () w5 ∧ Hid (∃ cp FC, Tb w5 tp mb (.slice none 0 0) cp FC sig (szOf l) [] (colL L (szOf l) n cols (L.take (j + 1))) ∧ MapV w5 Tryz.prog 3 mb (64 + (j + 1)) (colF (bl sig 64) cp) ∧ ∀ k, TF tp mb (.slice none 0 0) FC sig k → w.heap.size ≤ k) ∧ Hid (Keep (fun x => x = mb) w2 w5) ∧ Hid (∀ i, i < j + 1 → goodL L (szOf l) n cols i) from fun hg p F W' w4 k1 hm4 => by
              have k4 := k1.trans (Keep.of_below' hm4.2.1) (fun _ _ h => h)
              obtain ⟨w5, r1, r2, cp', FC', r3, r4, r5⟩ := HS.out.putCol HMR.out (by omega) hcm2 k4 hm4.1 (fun k hk => Nat.le_trans k1.size (hm4.2.2 k hk))
              refine ⟨w5, r1, ⟨cp', FC', r3.congr (fun d hd => ?_), r4, fun k hk => (r5 k hk).elim (HFR.out k) (fun h => Nat.le_trans KX.out.size h)⟩, (hkr.out.trans (k4.mono (T := fun x => x = mb) (fun _ _ h => h.elim)) (fun _ _ h => h)).trans r2 (fun _ _ h => h), fun i hi => ?_⟩
              · by_cases e : d = c
                · subst e; rw [if_pos rfl]; unfold colL; rw [if_pos ((TMj.out d).2 (.inr rfl)), IXj.out]
                · rw [if_neg e]; unfold colL
                  by_cases e' : d ∈ L.take j
                  · rw [if_pos e', if_pos ((TMj.out d).2 (.inl e'))]
                  · rw [if_neg e', if_neg (fun x => ((TMj.out d).1 x).elim e' e)]
              · by_cases e : i = j
                · rw [e]; exact hg
                · exact hgd2.out i (by omega))
            obtain ⟨c0, c1, c2, cf⟩ := cells3 HS.out.box
            have ON := Lib.hid (OKN.out j hlt)
            clear hcm hcm2 hcr hby hgd
            by_cases hg : goodL L (szOf l) n cols j
            · have LG := Lib.hid (fun W' (hk : Keep (fun _ => False) wr W') => (LD.out W' hk).mono (R' := fun e w' => ∃ p, e = .returned (.tuple #[.pointer (some ⟨p, 0, none⟩), .int .i64 0]) ∧ ColMade W' (szOf l c) (rowsOf (cols.getD j []) n (szOf l c)) p w') (fun e w' h => h.elim (fun h => absurd (GJ.out.1 hg) h.1) (fun h => h.2)))
              have NX := Lib.hid (NXT.out hg)
              clear LD ON NXT GJ hg
              generalize rowsOf (cols.getD j []) n (szOf l c) = RR at *
              generalize (cols.getD j []).length = nj at *
              generalize szOf l c = z at *
              go_upto_region 7 with fail
              go_region_held3 (fun W' => W'.cell? ⟨tp, 2, none⟩ = some (.map (some mb)) ∧ (Instr.lookup 198 (.map (some mb)) (.int .i64 (c : Int)) false).run Tryz.prog W' = .ok (.pointer (some ⟨cpr c, 0, none⟩)) W' ∧ W'.cell? ⟨b2, o2 + j, none⟩ = some (.slice A2 nj d2)) (exact CE.out _ (by exact (by repeat first | (with_reducible assumption) | (with_reducible exact Keep.refl _ _) | (with_reducible refine Keep.alloc ?_ _) | (with_reducible refine Keep.drew ?_) | (with_reducible refine Keep.drewN ?_ _) | (with_reducible refine Keep.setCell ?_ (.inl (by first | omega | (simp; done) | (simp; omega) | fail)) _)))) (first
                | (go_at_call 171; (with_reducible refine (CS.out _ (by exact (by repeat first | (with_reducible assumption) | (with_reducible exact Keep.refl _ _) | (with_reducible refine Keep.alloc ?_ _) | (with_reducible refine Keep.drew ?_) | (with_reducible refine Keep.drewN ?_ _) | (with_reducible refine Keep.setCell ?_ (.inl (by first | omega | (simp; done) | (simp; omega) | fail)) _)))).mono ?_); rintro e w4 ⟨rfl, rfl⟩)
                | (go_at_call 170; (with_reducible refine (LG.out _ (by exact (by repeat first | (with_reducible assumption) | (with_reducible exact Keep.refl _ _) | (with_reducible refine Keep.alloc ?_ _) | (with_reducible refine Keep.drew ?_) | (with_reducible refine Keep.drewN ?_ _) | (with_reducible refine Keep.setCell ?_ (.inl (by first | omega | (simp; done) | (simp; omega) | fail)) _)))).mono ?_); rintro e w5 ⟨p, rfl, FT, hm5⟩; have k5 : Keep (fun _ => False) wr w5 := Keep.trans (by exact (by repeat first | (with_reducible assumption) | (with_reducible exact Keep.refl _ _) | (with_reducible refine Keep.alloc ?_ _) | (with_reducible refine Keep.drew ?_) | (with_reducible refine Keep.drewN ?_ _) | (with_reducible refine Keep.setCell ?_ (.inl (by first | omega | (simp; done) | (simp; omega) | fail)) _))) (Keep.of_below' hm5.2.1) (fun _ _ h => h); have H5 := Lib.hid (NX.out p FT _ w5 (by exact (by repeat first | (with_reducible assumption) | (with_reducible exact Keep.refl _ _) | (with_reducible refine Keep.alloc ?_ _) | (with_reducible refine Keep.drew ?_) | (with_reducible refine Keep.drewN ?_ _) | (with_reducible refine Keep.setCell ?_ (.inl (by first | omega | (simp; done) | (simp; omega) | fail)) _))) hm5); clear hm5)
                | fail)
              all_goals
                obtain ⟨w6, hrun, q1, q2, q3⟩ := H5.out
                obtain ⟨v2, -, -⟩ := CE.out w5 k5
                clear CE CS LG NX c0 c1 c2 cf hcl hcc H5
                go_wp2
                go_roundw
                case rel => exact ⟨j + 1, by omega, by go_num, q1, q2, q3⟩
                case measure => simp [intOf]; omega
            · have LG := Lib.hid (fun W' (hk : Keep (fun _ => False) wr W') => (LD.out W' hk).mono (R' := fun e w' => e = .returned (.tuple #[.pointer none, .int .i64 11]) ∧ Below W'.heap.size W' w') (fun e w' h => h.elim (fun h => h.2) (fun h => absurd (GJ.out.2 h.1) hg)))
              have NOK := Lib.hid (ON.out hg)
              clear LD ON NXT GJ hg
              generalize (cols.getD j []).length = nj at *
              generalize szOf l c = z at *
              go_upto_region 7 with fail
              go_region_held3 (fun W' => W'.cell? ⟨tp, 2, none⟩ = some (.map (some mb)) ∧ (Instr.lookup 198 (.map (some mb)) (.int .i64 (c : Int)) false).run Tryz.prog W' = .ok (.pointer (some ⟨cpr c, 0, none⟩)) W' ∧ W'.cell? ⟨b2, o2 + j, none⟩ = some (.slice A2 nj d2)) (exact CE.out _ (by exact (by repeat first | (with_reducible assumption) | (with_reducible exact Keep.refl _ _) | (with_reducible refine Keep.alloc ?_ _) | (with_reducible refine Keep.drew ?_) | (with_reducible refine Keep.drewN ?_ _) | (with_reducible refine Keep.setCell ?_ (.inl (by first | omega | (simp; done) | (simp; omega) | fail)) _)))) (first
                | (go_at_call 171; (with_reducible refine (CS.out _ (by exact (by repeat first | (with_reducible assumption) | (with_reducible exact Keep.refl _ _) | (with_reducible refine Keep.alloc ?_ _) | (with_reducible refine Keep.drew ?_) | (with_reducible refine Keep.drewN ?_ _) | (with_reducible refine Keep.setCell ?_ (.inl (by first | omega | (simp; done) | (simp; omega) | fail)) _)))).mono ?_); rintro e w4 ⟨rfl, rfl⟩)
                | (go_at_call 170; (with_reducible refine (LG.out _ (by exact (by repeat first | (with_reducible assumption) | (with_reducible exact Keep.refl _ _) | (with_reducible refine Keep.alloc ?_ _) | (with_reducible refine Keep.drew ?_) | (with_reducible refine Keep.drewN ?_ _) | (with_reducible refine Keep.setCell ?_ (.inl (by first | omega | (simp; done) | (simp; omega) | fail)) _)))).mono ?_); rintro e w5 ⟨rfl, hb5⟩; have k5 : Keep (fun _ => False) wr w5 := Keep.trans (by exact (by repeat first | (with_reducible assumption) | (with_reducible exact Keep.refl _ _) | (with_reducible refine Keep.alloc ?_ _) | (with_reducible refine Keep.drew ?_) | (with_reducible refine Keep.drewN ?_ _) | (with_reducible refine Keep.setCell ?_ (.inl (by first | omega | (simp; done) | (simp; omega) | fail)) _))) (Keep.of_below' hb5) (fun _ _ h => h); clear hb5)
                | fail)
              all_goals
                have KE := Lib.hid (show Below w.heap.size w w5 from (KX.out.trans k5 (fun _ _ h => h.elim)).to_below (Nat.le_refl _))
                clear CE CS LG c0 c1 c2 cf hcl hcc
                go_wp2
                go_ret2
                exact .inl ⟨NOK.out, rfl, KE.out⟩
          · obtain rfl : j = m := by omega
            have f1 : ¬ (j : Int) < (j : Int) := by omega
            have CI := Lib.hid (clone_ids ids (.slice AI n cI) G wr (by have := HI.out.keep KX.out (fun b hb _ h => by omega); rw [HN.out] at this ⊢; exact this) (by rw [← HN.out]; omega))
            rw [← HN.out] at CI
            have YES := Lib.hid (OKY.out hgd.out)
            obtain ⟨c0, c1, c2, cf⟩ := cells3 HS.out.box
            have hsT := HS.out
            rw [TL.out] at hsT
            have FIN := Lib.hid (show ∀ w6 v', Keep (fun _ => False) wr w6 → Own w6 wr.heap.size 40 2 v' n (ids.flatMap idC) → TbNew w sig (szOf l) ids (colL (bl sig 64) (szOf l) n cols (bl sig 64)) tp (w6.setCell ⟨tp, 1, none⟩ v') from fun w6 v' hk ho => by
              obtain ⟨t1, t2, t3⟩ := hsT.names_ HN.out.symm hk ho h3
              rw [HL.out]
              exact ⟨mb, v', cpr, FCr, t1, (KX.out.trans t2 (fun k _ e => HFR.out k e)).to_below (Nat.le_refl _), fun k hk => (t3 k hk).elim (HFR.out k) (fun h => Nat.le_trans KX.out.size h)⟩)
            have HB6 := Lib.hid (show ∀ w6, Keep (fun _ => False) wr w6 → w6.heap[tp]? = _ from fun w6 hk => (hk.block tp (HS.out.lt tp (.inl rfl)) (fun h => h)).trans HS.out.box)
            clear hsT hgd OKY OKN
            go_wp2_with fail
            with_reducible refine CI.out.mono ?_
            rintro e w6 ⟨u6, rfl, ho6, hb6⟩
            obtain ⟨A6, d6, rfl, -⟩ := ho6.form
            clear c0 c1 c2 cf
            obtain ⟨c0, c1, c2, cf⟩ := cells3 (HB6.out w6 (Keep.of_below' hb6))
            have FF := Lib.hid (FIN.out w6 _ (Keep.of_below' hb6) ho6)
            clear ho6 hb6 FIN HB6 CI
            go_wp2
            go_ret2
            exact .inr ⟨YES.out, _, rfl, FF.out⟩
      · have NOK := Lib.hid (show ¬ OK from fun h => h3 (by rw [HOK.out] at h; exact h.2.2.1))
        rw [h1] at c0
        have g1 : ((sig : Int) != (sig : Int)) = false := by simp
        have g2 : (((m : Nat) : Int) != (((bl sig 64).length : Nat) : Int)) = false := by rw [h2]; simp
        have g3 : (1024 : Int) < (n : Int) := by omega
        clear HOK HT1 HMV HF1 h3 h1 hle
        generalize (bl sig 64).length = q at *
        clear h2
        go_wp2_with fail
        with_reducible refine (CT.out w1).mono ?_
        rintro e w2 ⟨rfl, rfl⟩
        go_wp2
        go_ret2
        exact .inl ⟨NOK.out, rfl, K1.out.to_below'⟩
    · have NOK := Lib.hid (show ¬ OK from fun h => h2 (by rw [HOK.out] at h; rw [HM.out]; exact h.2.1))
      rw [h1] at c0
      have g1 : ((sig : Int) != (sig : Int)) = false := by simp
      have g2 : (((m : Nat) : Int) != (((bl sig 64).length : Nat) : Int)) = true := by rw [bne_iff_ne]; omega
      clear HOK HT1 HMV HF1 h1 hle
      generalize (bl sig 64).length = q at *
      clear h2
      go_wp2_with fail
      with_reducible refine (CT.out w1).mono ?_
      rintro e w2 ⟨rfl, rfl⟩
      go_wp2
      go_ret2
      exact .inl ⟨NOK.out, rfl, K1.out.to_below'⟩
  · have NOK := Lib.hid (show ¬ OK from fun h => h1 (by rw [HOK.out] at h; exact h.1))
    generalize sig &&& allOf l = s at *
    have g1 : ((s : Int) != (sig : Int)) = true := by rw [bne_iff_ne]; omega
    clear HOK HT1 HMV HF1 h1 hle CT
    go_wp2
    go_ret2
    exact .inl ⟨NOK.out, rfl, K1.out.to_below'⟩
end Go.Proofs.YtglliendhbkkhaaGreatDoor
namespace Go.Proofs.YtglliendhbkkhaaGreatDoor
open Go.RowKit
set_option maxRecDepth 100000
set_option linter.unusedVariables false
set_option linter.unusedSimpArgs false

theorem nil_sig (w : World) : Calls Tryz.prog 77 #[.pointer none] w fun e w' => e = .returned (.int .u64 0) ∧ w = w' := by
  go_enter Tryz.func77, Tryz.ntmps77
  go_wp2
  go_ret
  exact ⟨rfl, rfl⟩
theorem nil_len (w : World) : Calls Tryz.prog 76 #[.pointer none] w fun e w' => e = .returned (.int .i64 0) ∧ w = w' := by
  go_enter Tryz.func76, Tryz.ntmps76
  go_wp2
  go_ret
  exact ⟨rfl, rfl⟩
theorem nil_ids (w : World) : Calls Tryz.prog 70 #[.pointer none] w fun e w' => e = .returned (.slice none 0 0) ∧ w = w' := by
  go_enter Tryz.func70, Tryz.ntmps70
  go_wp2
  go_ret
  exact ⟨rfl, rfl⟩
theorem nil_at (row : Int) (w : World) : Calls Tryz.prog 116 #[.pointer none, .int .i64 row] w fun e w' => e = .returned (.int .i64 4) ∧ w = w' := by
  go_enter Tryz.func116, Tryz.ntmps116
  go_wp2
  go_ret
  exact ⟨rfl, rfl⟩
theorem nil_col (row k : Int) (w : World) : Calls Tryz.prog 140 #[.pointer none, .int .i64 row, .int .i64 k] w fun e w' => e = .returned (.tuple #[.pointer none, .int .i64 4]) ∧ w = w' := by
  have AT := Lib.hid (nil_at row w)
  go_enter Tryz.func140, Tryz.ntmps140
  go_wp2_with fail
  with_reducible refine AT.out.mono ?_
  rintro e w1 ⟨rfl, rfl⟩
  go_wp2
  go_ret2
  exact ⟨rfl, rfl⟩
theorem nil_get (row k : Int) (w : World) : Calls Tryz.prog 109 #[.pointer none, .int .i64 row, .int .i64 k] w fun e w' => e = .returned (.tuple #[.slice none 0 0, .int .i64 4]) ∧ w = w' := by
  have CO := Lib.hid (nil_col row k w)
  go_enter Tryz.func109, Tryz.ntmps109
  go_wp2_with fail
  with_reducible refine CO.out.mono ?_
  rintro e w1 ⟨rfl, rfl⟩
  go_wp2
  go_ret2
  exact ⟨rfl, rfl⟩
theorem nil_set (row k : Int) (A : Option Addr) (n c : Nat) (w : World) : Calls Tryz.prog 98 #[.pointer none, .int .i64 row, .int .i64 k, .slice A n c] w fun e w' => e = .returned (.int .i64 4) ∧ w = w' := by
  have CO := Lib.hid (nil_col row k w)
  go_enter Tryz.func98, Tryz.ntmps98
  go_wp2_with fail
  with_reducible refine CO.out.mono ?_
  rintro e w1 ⟨rfl, rfl⟩
  go_wp2
  go_ret
  exact ⟨rfl, rfl⟩
theorem nil_parts (row : Int) (w : World) : Calls Tryz.prog 67 #[.pointer none, .int .i64 row] w fun e w' => e = .returned (.tuple #[.slice none 0 0, .int .i64 4]) ∧ w = w' := by
  have AT := Lib.hid (nil_at row w)
  go_enter Tryz.func67, Tryz.ntmps67
  go_wp2_with fail
  with_reducible refine AT.out.mono ?_
  rintro e w1 ⟨rfl, rfl⟩
  go_wp2
  go_ret2
  exact ⟨rfl, rfl⟩
theorem nil_column (k : Int) (w : World) : Calls Tryz.prog 79 #[.pointer none, .int .i64 k] w fun e w' => e = .returned (.tuple #[.slice none 0 0, .bool false]) ∧ Keep (fun _ => False) w w' := by
  go_enter Tryz.func79, Tryz.ntmps79
  go_wp2
  go_ret2
  exact ⟨rfl, (by repeat first | (with_reducible assumption) | (with_reducible exact Keep.refl _ _) | (with_reducible refine Keep.alloc ?_ _) | (with_reducible refine Keep.drew ?_) | (with_reducible refine Keep.drewN ?_ _) | (with_reducible refine Keep.setCell ?_ (.inl (by first | omega | (simp; done) | (simp; omega) | fail)) _))⟩
theorem nil_add (i g : Int) (A : Option Addr) (n c : Nat) (w : World) : Calls Tryz.prog 138 #[.pointer none, .agg #[.int .i64 i, .int .i64 g], .slice A n c] w fun e w' => e = .returned (.int .i64 4) ∧ Keep (fun _ => False) w w' := by
  go_enter Tryz.func138, Tryz.ntmps138
  go_wp2
  go_ret
  exact ⟨rfl, (by repeat first | (with_reducible assumption) | (with_reducible exact Keep.refl _ _) | (with_reducible refine Keep.alloc ?_ _) | (with_reducible refine Keep.drew ?_) | (with_reducible refine Keep.drewN ?_ _) | (with_reducible refine Keep.setCell ?_ (.inl (by first | omega | (simp; done) | (simp; omega) | fail)) _))⟩
theorem nil_drop (row : Int) (w : World) : Calls Tryz.prog 143 #[.pointer none, .int .i64 row] w fun e w' => e = .returned (.tuple #[.agg #[.int .i64 0, .int .i64 0], .bool false, .int .i64 4]) ∧ Keep (fun _ => False) w w' := by
  have AT := Lib.hid (nil_at row (w.alloc (.cells #[.int .i64 0, .int .i64 0] 40)))
  go_enter Tryz.func143, Tryz.ntmps143
  go_wp2_with fail
  with_reducible refine AT.out.mono ?_
  rintro e w1 ⟨rfl, rfl⟩
  go_wp2
  exact bodyPost_ret (results_id Tryz.results143 _ _ w.heap.size _ _ (by rfl) (by exact heap_alloc_at _ _ _ rfl) _ (by rfl) _ (by rfl)) rfl ⟨rfl, (by repeat first | (with_reducible assumption) | (with_reducible exact Keep.refl _ _) | (with_reducible refine Keep.alloc ?_ _) | (with_reducible refine Keep.drew ?_) | (with_reducible refine Keep.drewN ?_ _) | (with_reducible refine Keep.setCell ?_ (.inl (by first | omega | (simp; done) | (simp; omega) | fail)) _))⟩
end Go.Proofs.YtglliendhbkkhaaGreatDoor

/- Contracts of slices.IndexFunc with data's test, table.data. -/
import Derived.Test.YtdeifjnhbdkkgaaGreatDoorTab1
import Derived.Test.YtdeifjnhbdkkgaaGreatDoorCompA
namespace Go.Proofs.YtdeifjnhbdkkgaaGreatDoor
open Go.RowKit
set_option maxRecDepth 100000
set_option linter.unusedVariables false
set_option linter.unusedSimpArgs false

/-- The first part of a component. -/
def fstP (P : List PtZ) (k : Int) : Nat := P.findIdx fun p => decide (p.comp = k)
def noneP (P : List PtZ) (k : Int) (j : Nat) : Prop := ∀ i x, i < j → P[i]? = some x → x.comp ≠ k
theorem fstP_at {P : List PtZ} {k : Int} {j : Nat} {x : PtZ} (h : noneP P k j) (hx : P[j]? = some x) (hk : x.comp = k) : fstP P k = j := by
  obtain ⟨hj, e⟩ := List.getElem?_eq_some_iff.1 hx
  unfold fstP
  rw [List.findIdx_eq hj]
  refine ⟨by rw [e]; exact decide_eq_true hk, fun i hi => ?_⟩
  exact decide_eq_false (h i _ hi (List.getElem?_eq_getElem (by omega)))
theorem fstP_no {P : List PtZ} {k : Int} (h : noneP P k P.length) : fstP P k = P.length := by
  unfold fstP
  rw [List.findIdx_eq_length]
  intro x hx
  obtain ⟨i, hi, e⟩ := List.mem_iff_getElem.1 hx
  exact decide_eq_false (h i x hi (by rw [List.getElem?_eq_getElem hi, e]))
theorem noneP_next {P : List PtZ} {k : Int} {j : Nat} {x : PtZ} (h : noneP P k j) (hx : P[j]? = some x) (hk : x.comp ≠ k) : noneP P k (j + 1) := fun i y hi hy => by
  by_cases e : i = j
  · subst e
    rw [hx] at hy
    exact (Option.some.inj hy) ▸ hk
  · exact h i y (by omega) hy
/-- A component's data of parts. -/
def dataT (P : List PtZ) (k : Int) (size : Nat) : List UInt8 := match P[fstP P k]? with
  | some x => x.data
  | none => List.replicate size 0
theorem run_makeB (n : Nat) (hn : n ≤ 65536) (W : World) : (Instr.makeSlice 28 (.int .i64 (n : Int)) (.int .i64 (n : Int))).run Tryz.prog W = .ok (.slice (some ⟨W.heap.size, 0, none⟩) n n) (W.alloc (.cells (bv (List.replicate n 0)).toArray 5)) := by
  obtain ⟨i0, hi0, hz0, hz1, hz2⟩ := info_parts info_byte
  have := run_makeSlice (P := Tryz.prog) W 28 5 i0 _ Tryz.underlying28 hi0 hz0 .i64 .i64 n n (by omega) (by omega) (by rw [hz1]; omega) (by rw [hz2]; omega) (by omega)
  rw [this, hz1]
  rw [Int.toNat_natCast, Nat.mul_one]
  have e : madeCells (Value.int .u8 0).cells n = (bv (List.replicate n 0)).toArray := Array.ext' (bv_zeros n)
  rw [e]
theorem by_made (w : World) (n : Nat) (hn : n ≤ 65536) : By (w.alloc (.cells (bv (List.replicate n 0)).toArray 5)) (fun b => w.heap.size ≤ b) (.slice (some ⟨w.heap.size, 0, none⟩) n n) (List.replicate n 0) := by
  have h := (Own.made (base := w.heap.size) (e := 5) (size := 1) w (bv (List.replicate n 0)).toArray n n (Nat.le_refl _) (Nat.le_refl _) (by unfold maxLen; omega) (by simp [bv])).sl
  rw [List.take_of_length_le (by simp [bv])] at h
  exact sl_by h
end Go.Proofs.YtdeifjnhbdkkgaaGreatDoor
namespace Go.Proofs.YtdeifjnhbdkkgaaGreatDoor
open Go.RowKit
set_option maxRecDepth 100000
set_option linter.unusedVariables false
set_option linter.unusedSimpArgs false

theorem step_name {ops : Array Oper} {o : Oper} {a : Act} {w : World} {K : Act → World → Prop} {Q : Exit → Act → World → Prop} {E : Prop} (hgd : Region.wanted o (yielded ops a.tmps) = true) (s x : Operand)
    (ho : o.op = .call { callee := .builtin .append, args := #[s, x], argTypes := #[60, 60] }) (v : Value) (n : Nat) (ids : List IdZ) (hn : ids.length = n) (hv : a.eval s = v) (hown : Own w 0 85 2 v n (ids.flatMap idC)) (g c : Nat) (y : IdZ)
    (hy : a.eval x = .slice (some ⟨g, 0, none⟩) 1 c) (h0 : w.cell? ⟨g, 0, none⟩ = some (.int .i64 y.ix)) (h1 : w.cell? ⟨g, 1, none⟩ = some (.int .i64 y.gen)) (hk : n ≤ 1024)
    (h : ∀ A c w', Own w' 0 85 2 (.slice A (n + 1) c) (n + 1) ((ids ++ [y]).flatMap idC) → Keep (fun k => ownB v = some k) w w' → (∀ k', ownB (.slice A (n + 1) c) = some k' → ownB v = some k' ∨ w.heap.size ≤ k') → K (a.put o.dst (.slice A (n + 1) c)) w') :
    if Region.wanted o (yielded ops a.tmps) = true then Oper.wp Tryz.prog o a w K Q else E := by
  obtain ⟨is, his, hs0, hs1, hs2⟩ := info_parts info_id
  have hsrc : Src Tryz.prog 2 60 (.slice (some ⟨g, 0, none⟩) 1 c) 1 (idC y) w := Src.ofSlice _ Tryz.underlying60 _ 1 c (idC y) rfl (fun j u hu => by
    match j, hu with
    | 0, hu => cases hu; simpa [Addr.add] using h0
    | 1, hu => cases hu; simpa [Addr.add] using h1) (fun u hu => by
    simp only [idC, List.mem_cons, List.not_mem_nil, or_false] at hu
    rcases hu with rfl | rfl <;> rfl)
  refine step_append_gen w hgd s x _ _ ho 0 85 is _ 2 16 Tryz.underlying60 his hs0 hs1 hs2 rfl v n _ hv hown _ 1 _ hy hsrc (by unfold maxLen; omega) (by omega) (Nat.zero_le _) ?_
  intro v' w' ho' hk' hn'
  obtain ⟨A, c', rfl, _⟩ := ho'.form
  refine h A c' w' ?_ hk' hn'
  rw [List.flatMap_append]
  simpa using ho'
/-- What an add says. -/
def addOk (sig : Nat) (sz : Nat → Nat) (P : List PtZ) : Bool := (bl sig 64).all fun c => decide ((dataT P (c : Int) (sz c)).length = sz c)
def addC (n sig : Nat) (sz : Nat → Nat) (P : List PtZ) : Int := if n = 1024 then 9 else if addOk sig sz P = true then 0 else 7
def colA (P : List PtZ) (sz : Nat → Nat) (col : Nat → List (List UInt8)) (D : List Nat) (d : Nat) : List (List UInt8) := if d ∈ D then col d ++ [dataT P (d : Int) (sz d)] else col d
def addI (sig : Nat) (sz : Nat → Nat) (ids : List IdZ) (x : IdZ) (P : List PtZ) : List IdZ := if addC ids.length sig sz P = 0 then ids ++ [x] else ids
def addK (n sig : Nat) (sz : Nat → Nat) (col : Nat → List (List UInt8)) (P : List PtZ) : Nat → List (List UInt8) := if addC n sig sz P = 0 then colA P sz col (bl sig 64) else col
section
variable {w : World} {tp mb : Nat} {vs : Value} {cp : Nat → Nat} {FC : Nat → Nat → Prop} {sig : Nat} {sz : Nat → Nat} {ids : List IdZ} {col : Nat → List (List UInt8)}
/-- One name more. -/
theorem Tb.grow (h : Tb w tp mb vs cp FC sig sz ids col) {w6 wX : World} {v' : Value} {n : Nat} (x : IdZ) (hn : ids.length = n) (hk1 : Keep (fun _ => False) w wX) (ho : Own w6 0 85 2 v' (n + 1) ((ids ++ [x]).flatMap idC)) (hk2 : Keep (fun k => ownB vs = some k) wX w6) (hn' : ∀ k, ownB v' = some k → ownB vs = some k ∨ wX.heap.size ≤ k) (h24 : n + 1 ≤ 1024) :
    Tb (w6.setCell ⟨tp, 1, none⟩ v') tp mb v' cp FC sig sz (ids ++ [x]) col ∧ Keep (TF tp mb vs FC sig) w (w6.setCell ⟨tp, 1, none⟩ v') ∧ ∀ k, TF tp mb v' FC sig k → TF tp mb vs FC sig k ∨ w.heap.size ≤ k := by
  subst hn
  have hkw : Keep (fun k => ownB vs = some k) w w6 := (hk1.mono (T := fun k => ownB vs = some k) (fun _ _ h => h.elim)).trans hk2 (fun _ _ h => h)
  have hkt : Keep (fun k => k = tp) w6 (w6.setCell ⟨tp, 1, none⟩ v') := Keep.setCell (S := fun k => k = tp) (p := ⟨tp, 1, none⟩) (Keep.refl _ _) (.inr rfl) _
  have hk : Keep (fun k => k = tp ∨ ownB vs = some k) w (w6.setCell ⟨tp, 1, none⟩ v') := (hkw.mono (T := fun k => k = tp ∨ ownB vs = some k) (fun _ _ h => .inr h)).trans hkt (fun _ _ h => .inl h)
  have hlt := h.lt
  have hnv : ∀ k, k < w.heap.size → ownB v' = some k → ownB vs = some k := fun k hk e => by
    rcases hn' k e with e | e
    · exact e
    · have := hk1.size; omega
  have hb6 : w6.heap[tp]? = _ := (hkw.block tp (hlt tp (.inl rfl)) h.tp_vs).trans h.box
  obtain ⟨N, hN, hm⟩ := h.map
  refine ⟨⟨h.lt64, by rw [heap_setCell_same w6 tp 1 _ _ _ hb6]; rfl, ?_, ⟨N, hN, hm.keep hk (fun e => e.elim (fun e => h.tp_mb e.symm) h.mb_vs)⟩, fun d hd => col_keep (h.cols d hd) hk (fun k e e2 => e2.elim (fun e2 => h.ntp d hd (by rw [← e2]; exact e)) (fun e2 => h.nvs d k hd e2 e)), by rw [List.length_append]; simpa using h24, h.ntp, h.nmb, fun d k hd e e2 => ?_, h.apart⟩, hk.mono (fun k _ e => e.elim (fun e => .inl e) (fun e => .inr (.inr (.inl e)))), fun k hk => ?_⟩
  · rw [List.length_append]
    exact ho.keep hkt (fun k e e2 => by
      rw [e2] at e
      exact h.tp_vs (hnv tp (hlt tp (.inl rfl)) e))
  · exact h.nvs d k hd (hnv k (hlt k (.inr (.inr (.inr ⟨d, hd, e2⟩)))) e) e2
  · rcases hk with e | e | e | e
    · exact .inl (.inl e)
    · exact .inl (.inr (.inl e))
    · rcases hn' k e with e | e
      · exact .inl (.inr (.inr (.inl e)))
      · exact .inr (Nat.le_trans hk1.size e)
    · exact .inl (.inr (.inr (.inr e)))
end
end Go.Proofs.YtdeifjnhbdkkgaaGreatDoor
namespace Go.Proofs.YtdeifjnhbdkkgaaGreatDoor
open Go.RowKit
open Go.Maps (Keyed)
set_option maxRecDepth 100000
set_option linter.unusedVariables false
set_option linter.unusedSimpArgs false

section
variable {P : Program} {k : TypeId} {b n : Nat} {f g : Value → Option Value} {w : World} {ops : Array Oper}
theorem step_mapUpdate {o : Oper} {a : Act} {K : Act → World → Prop} {Q : Exit → Act → World → Prop} {E : Prop} (hgd : Region.wanted o (yielded ops a.tmps) = true) (m x v : Operand) (t : TypeId) (ho : o.op = .mapUpdate t m x v)
    (h : MapV w P k b n f) (KK : Keyed P k) {e : TypeId}
    (ht : P.underlying t = some (.map k e)) (hn : n < maxLen) {key : Value} (val : Value) {kl : Lit} (hkey : keyOf P k key = some kl) (hm : a.eval m = .map (some b)) (hx : a.eval x = key) (hv : a.eval v = val)
    (hg : ∀ v l, keyOf P k v = some l → (v = key → g v = some val) ∧ (v ≠ key → g v = f v))
    (hK : ∀ w', MapV w' P k b (n + 1) g → Keep (fun x => x = b) w w' → K (a.put o.dst undef) w') : if Region.wanted o (yielded ops a.tmps) = true then Oper.wp P o a w K Q else E := by
  rw [if_pos hgd]
  exact wp_mapUpdate_gen m x v t ho h KK ht hn val hkey hm hx hv hg hK
end
/-- One column more in the map. -/
theorem colF_put {D D' : List Nat} {cp : Nat → Nat} {c p : Nat} (hD : ∀ d, d ∈ D' ↔ d ∈ D ∨ d = c) : ∀ v l, keyOf Tryz.prog 3 v = some l → (v = .int .i64 (c : Int) → colF D' (fun d => if d = c then p else cp d) v = some (.pointer (some ⟨p, 0, none⟩))) ∧ (v ≠ .int .i64 (c : Int) → colF D' (fun d => if d = c then p else cp d) v = colF D cp v) := by
  intro v l hv
  obtain ⟨z, rfl⟩ := keyInt_inv hv
  refine ⟨fun e => ?_, fun e => ?_⟩
  · injection e with _ e
    subst e
    show (if 0 ≤ (c : Int) ∧ (c : Int).toNat ∈ D' then _ else _) = _
    rw [if_pos ⟨by omega, by rw [Int.toNat_natCast]; exact (hD c).2 (.inr rfl)⟩, Int.toNat_natCast]
    simp only [if_pos]
  · have hz : ¬ (0 ≤ z ∧ z.toNat = c) := fun h => e (by rw [show z = (c : Int) by omega])
    show (if 0 ≤ z ∧ z.toNat ∈ D' then _ else _) = (if 0 ≤ z ∧ z.toNat ∈ D then _ else _)
    by_cases h : 0 ≤ z ∧ z.toNat ∈ D
    · rw [if_pos h, if_pos ⟨h.1, (hD _).2 (.inl h.2)⟩]
      simp only [if_neg (show ¬ z.toNat = c from fun e => hz ⟨h.1, e⟩)]
    · rw [if_neg h, if_neg (fun h' => h ⟨h'.1, ((hD _).1 h'.2).resolve_right (fun e => hz ⟨h'.1, e⟩)⟩)]
/-- A table that is made: the columns of D are there. -/
structure TbN (w : World) (lo tp mb : Nat) (cp : Nat → Nat) (FC : Nat → Nat → Prop) (s : Nat) (sz : Nat → Nat) (D : List Nat) : Prop where
  lo1 : lo ≤ tp
  lo2 : lo ≤ mb
  box : w.heap[tp]? = some (.cells #[.int .u64 (s : Int), .slice none 0 0, .map (some mb)] 120 (0, 0))
  map : ∃ N, N ≤ D.length ∧ MapV w Tryz.prog 3 mb N (colF D cp)
  cols : ∀ c, c ∈ D → Col w (cp c) (FC c) (sz c) []
  ntp : ∀ c k, c ∈ D → FC c k → lo ≤ k ∧ k ≠ tp ∧ k ≠ mb
  apart : ∀ c d k, c ∈ D → d ∈ D → c ≠ d → FC c k → ¬ FC d k
section
variable {w w' : World} {lo tp mb : Nat} {cp : Nat → Nat} {FC : Nat → Nat → Prop} {s : Nat} {sz : Nat → Nat} {D : List Nat}
theorem TbN.tplt (h : TbN w lo tp mb cp FC s sz D) : tp < w.heap.size := (Array.getElem?_eq_some_iff.1 h.box).1
theorem TbN.mblt (h : TbN w lo tp mb cp FC s sz D) : mb < w.heap.size := by obtain ⟨N, _, hm⟩ := h.map; exact hm.lt
theorem TbN.same (h : TbN w lo tp mb cp FC s sz D) (hk : Keep (fun _ => False) w w') : TbN w' lo tp mb cp FC s sz D := by
  obtain ⟨N, hN, hm⟩ := h.map
  exact ⟨h.lo1, h.lo2, (hk.block tp h.tplt (fun h => h)).trans h.box, ⟨N, hN, hm.keep hk (fun h => h)⟩, fun c hc => col_keep (h.cols c hc) hk (fun _ _ h => h), h.ntp, h.apart⟩
theorem TbN.tp_mb (h : TbN w lo tp mb cp FC s sz D) : tp ≠ mb := by obtain ⟨N, _, hm⟩ := h.map; exact hm.ne_cells h.box
theorem TbN.map_ (h : TbN w lo tp mb cp FC s sz D) : MapV w Tryz.prog 3 mb D.length (colF D cp) := by obtain ⟨N, hN, hm⟩ := h.map; exact hm.mono hN
/-- One column more. -/
theorem TbN.next (h : TbN w lo tp mb cp FC s sz D) {wX w5 : World} {c p : Nat} {F : Nat → Prop} (hlo : lo ≤ w.heap.size) (hk : Keep (fun _ => False) w wX) (hcol : Col wX p F (sz c) []) (hF : ∀ k, F k → w.heap.size ≤ k) (hc : c ∉ D) {D' : List Nat} (hD : ∀ d, d ∈ D' ↔ d ∈ D ∨ d = c) (hlen : D'.length = D.length + 1)
    (hm : MapV w5 Tryz.prog 3 mb (D.length + 1) (colF D' (fun d => if d = c then p else cp d))) (hk5 : Keep (fun x => x = mb) wX w5) : TbN w5 lo tp mb (fun d => if d = c then p else cp d) (fun d => if d = c then F else FC d) s sz D' := by
  have h1 := h.same hk
  have hsz := hk.size
  refine ⟨h.lo1, h.lo2, (hk5.block tp h1.tplt h.tp_mb).trans h1.box, ⟨_, by omega, hm⟩, fun d hd => ?_, fun d k hd e => ?_, fun d d' k hd hd' hne e => ?_⟩
  · by_cases e : d = c
    · subst e; simp only [if_pos]; exact col_keep hcol hk5 (fun k e e2 => by have := hF k e; have := h.mblt; omega)
    · simp only [if_neg e]
      exact col_keep (h1.cols d (((hD d).1 hd).resolve_right e)) hk5 (fun k e' => (h.ntp d k (((hD d).1 hd).resolve_right e) e').2.2)
  · by_cases e' : d = c
    · simp only [e', if_pos] at e
      have := hF k e
      have := h.tplt
      have := h.mblt
      exact ⟨by omega, by omega, by omega⟩
    · simp only [if_neg e'] at e
      exact h.ntp d k (((hD d).1 hd).resolve_right e') e
  · by_cases e1 : d = c
    · have e2 : ¬ d' = c := fun x => hne (e1.trans x.symm)
      simp only [e1, if_pos] at e
      simp only [if_neg e2]
      intro e3
      have := hF k e
      have := (h.cols d' (((hD d').1 hd').resolve_right e2)).lt k e3
      omega
    · simp only [if_neg e1] at e
      have hd1 := ((hD d).1 hd).resolve_right e1
      by_cases e2 : d' = c
      · simp only [e2, if_pos]
        intro e3
        have := hF k e3
        have := (h.cols d hd1).lt k e
        omega
      · simp only [if_neg e2]
        exact h.apart d d' k hd1 (((hD d').1 hd').resolve_right e2) hne e
/-- It is a table. -/
theorem TbN.tb (h : TbN w lo tp mb cp FC s sz (bl s 64)) (hs : s < 18446744073709551616) : Tb w tp mb (.slice none 0 0) cp FC s sz [] (fun _ => []) ∧ MapV w Tryz.prog 3 mb 64 (colF (bl s 64) cp) ∧ ∀ k, TF tp mb (.slice none 0 0) FC s k → lo ≤ k := by
  have hl := bl_len s 64
  refine ⟨⟨hs, h.box, Own.none_ _ _ _ _ _, ⟨_, by omega, h.map_⟩, h.cols, by simp, fun c hc e => (h.ntp c tp hc e).2.1 rfl, fun c hc e => (h.ntp c mb hc e).2.2 rfl, fun c k hc e => (by cases e), h.apart⟩, h.map_.mono hl, fun k hk => ?_⟩
  rcases hk with e | e | e | ⟨c, hc, e⟩
  · rw [e]; exact h.lo1
  · rw [e]; exact h.lo2
  · cases e
  · exact (h.ntp c k hc e).1
end
/-- The table that a call makes. -/
def TbNew (w : World) (sig : Nat) (sz : Nat → Nat) (ids : List IdZ) (col : Nat → List (List UInt8)) (tp : Nat) (w' : World) : Prop :=
  ∃ mb vs cp FC, Tb w' tp mb vs cp FC sig sz ids col ∧ Below w.heap.size w w' ∧ ∀ k, TF tp mb vs FC sig k → w.heap.size ≤ k
/-- A table with no rows, just made. -/
def TbFresh (w : World) (sig : Nat) (sz : Nat → Nat) (tp : Nat) (w' : World) : Prop :=
  ∃ mb cp FC, Tb w' tp mb (.slice none 0 0) cp FC sig sz [] (fun _ => []) ∧ MapV w' Tryz.prog 3 mb 64 (colF (bl sig 64) cp) ∧ Below w.heap.size w w' ∧ ∀ k, TF tp mb (.slice none 0 0) FC sig k → w.heap.size ≤ k
theorem TbFresh.new {w w' : World} {sig tp : Nat} {sz : Nat → Nat} (h : TbFresh w sig sz tp w') : TbNew w sig sz [] (fun _ => []) tp w' := by
  obtain ⟨mb, cp, FC, h1, _, h2, h3⟩ := h
  exact ⟨mb, _, cp, FC, h1, h2, h3⟩
def szOf (l : List Cp) (c : Nat) : Nat := clampN (szAt l c)
def allOf (l : List Cp) : Nat := orL (idxL l.length) 0
theorem allOf_lt (l : List Cp) : allOf l < 18446744073709551616 := orL_lt _ 0 (by decide)
theorem bl_all {l : List Cp} {s c : Nat} (h : c ∈ bl (s &&& allOf l) 64) : c < l.length := by
  have h1 := ((bl_mem _ 64 c).1 h).2
  rw [Nat.testBit_and, Bool.and_eq_true] at h1
  have h2 := h1.2
  unfold allOf at h2
  rw [orL_testBit] at h2
  simp [idxL] at h2
  obtain ⟨-, x, h3, h4⟩ := h2
  omega
set_option maxHeartbeats 1000000 in
theorem tnew_any (c : Cf) (u : Value) (F : Nat → Prop) (sig : Nat) (hs : sig < 18446744073709551616) (w : World) (hu : CL w F u c.l) (h40 : c.l.length ≤ 1000) (hT : Tab w) :
    Calls Tryz.prog 34 #[confV c u, .int .u64 (sig : Int)] w fun e w' => ∃ tp, e = .returned (.pointer (some ⟨tp, 0, none⟩)) ∧ TbFresh w (sig &&& allOf c.l) (szOf c.l) tp w' := by
  have hmm := @run_makeMap Tryz.prog
  have hu0 := hu
  obtain ⟨A, cap, rfl, hnc, hcm, -⟩ := hu
  have B0 := Lib.hid (BF.first hu0)
  have HT := Lib.hid hT
  have HU := Lib.hid hu0
  unfold confV
  obtain ⟨log, pages, ents, gens, l⟩ := c
  simp only at hnc hu0 B0 h40 HU ⊢
  have H40 := Lib.hid h40
  obtain ⟨n, hn⟩ : ∃ n, n = l.length := ⟨_, rfl⟩
  have HN := Lib.hid hn
  rw [← hn] at hnc hu0 B0 HU ⊢
  clear hn hcm hT
  go_enter Tryz.func34, Tryz.ntmps34
  go_upto_region 1 with fail
  refine wp_world (S := BF w F ⟨log, pages, ents, gens, l⟩ (.slice A n cap)) B0.out ?_
  intro X hX
  have HX := Lib.hid hX
  clear hX hu0 B0
  obtain ⟨x0, x1, x2, x3, x4, xf⟩ := cells5 HX.out.1
  go_wp2_with fail
  have CA := call_any ⟨log, pages, ents, gens, l⟩ (.slice A n cap) F X HX.out.2.1 H40.out
  unfold confV at CA
  with_reducible refine CA.mono ?_
  rintro e w1 ⟨rfl, hb1⟩
  have HB1 := Lib.hid hb1
  clear hb1 x0 x1 x2 x3 x4 xf
  have hall := allOf_lt l
  have EA := Lib.hid (show orL (idxL l.length) 0 = allOf l from rfl)
  rw [EA.out]
  go_upto_region 2 with fail
  have AN := u64_and_nat sig (allOf l) hs hall
  have hsz1 : w.heap.size < w1.heap.size := by have h1 := HB1.out.size; have h2 := (Array.getElem?_eq_some_iff.1 HX.out.1).1; omega
  have hltS : sig &&& allOf l < 18446744073709551616 := Nat.lt_of_le_of_lt Nat.and_le_left hs
  have BALL := Lib.hid (fun c (hc : c ∈ bl (sig &&& allOf l) 64) => bl_all hc)
  rw [AN]
  obtain ⟨s, hse⟩ : ∃ s, sig &&& allOf l = s := ⟨_, rfl⟩
  rw [hse] at hltS BALL ⊢
  have HSE := Lib.hid hse
  clear hse AN
  refine wp_world (S := fun W => TbN W w.heap.size (w1.heap.size + 1) w1.heap.size (fun _ => 0) (fun _ _ => False) s (szOf l) [] ∧ Keep (fun _ => False) w1 W) ?c0 ?_
  case c0 =>
    have hm0 := MapV.made w1 Tryz.prog 3
    have hm1 := hm0.keep (S := fun _ => False) ((Keep.refl _ _).alloc (.cells #[.int .u64 (s : Int), .slice none 0 0, .map (some w1.heap.size)] 120)) (fun h => h)
    exact ⟨⟨by omega, by omega, heap_alloc_at _ _ _ (by simp), ⟨0, by simp, hm1.congr (fun v l hv => by obtain ⟨z, rfl⟩ := keyInt_inv hv; show none = (if 0 ≤ z ∧ z.toNat ∈ ([] : List Nat) then _ else _); rw [if_neg (by simp)])⟩, fun c hc => by simp at hc, fun c k hc => by simp at hc, fun c d k hc => by simp at hc⟩, ((Keep.refl _ w1).alloc _).alloc _⟩
  intro W2 hW2
  have H2 := Lib.hid hW2
  clear hW2
  have K02 := Lib.hid (show Keep (fun _ => False) w W2 from ((Keep.of_below' HX.out.2.2).trans (Keep.of_below' HB1.out) (fun _ _ h => h)).trans H2.out.2 (fun _ _ h => h))
  have HC2 := Lib.hid (show W2.heap[w.heap.size]? = some (.cells #[.int .i64 log, .int .i64 pages, .int .i64 ents, .int .i64 gens, .slice A n cap] 42 (0, 0)) from (H2.out.2.block _ hsz1 (fun h => h)).trans ((HB1.out.block _ (Array.getElem?_eq_some_iff.1 HX.out.1).1).trans HX.out.1))
  have BL := Lib.hid (bitsList_any s hltS W2 (HT.out.same K02.out))
  obtain ⟨c0, c1, c2, cf⟩ := cells3 H2.out.1.box
  go_wp2_with fail
  with_reducible refine BL.out.mono ?_
  rintro e w3 ⟨u1, rfl, ho1, hb3⟩
  obtain ⟨A1, d1, rfl, -⟩ := ho1.form
  have H3 := Lib.hid (show Sl w3 (fun k => W2.heap.size ≤ k) 1 (.slice A1 (bl s 64).length d1) (bl s 64).length (iv (ints (bl s 64))) ∧ Keep (fun _ => False) W2 w3 from ⟨ho1.sl, Keep.of_below' hb3⟩)
  clear ho1 hb3 c0 c1 c2 cf BL CA
  have KW3 := Lib.hid (show TbN w3 w.heap.size (w1.heap.size + 1) w1.heap.size (fun _ => 0) (fun _ _ => False) s (szOf l) [] from H2.out.1.same H3.out.2)
  have hsz3 : w1.heap.size + 2 ≤ w3.heap.size := by have := KW3.out.tplt; omega
  have hsz2 : w1.heap.size + 2 ≤ W2.heap.size := by have := H2.out.1.tplt; omega
  have ME := Lib.hid (fun j (hj : j < (bl s 64).length) => getD_mem hj)
  have L64 := bl_len s 64
  have TM := Lib.hid (fun j (hj : j < (bl s 64).length) => take_next_mem hj)
  have TN := Lib.hid (fun j (hj : j < (bl s 64).length) => take_next_not hj (bl_nodup s 64))
  have TL := Lib.hid (show (bl s 64).take (bl s 64).length = bl s 64 from List.take_length)
  have LT64 := Lib.hid (fun c (hc : c ∈ bl s 64) => bl_lt hc)
  obtain ⟨L, hL⟩ : ∃ L, bl s 64 = L := ⟨_, rfl⟩
  have HL := Lib.hid hL
  rw [hL] at H3 ME L64 TM TN TL LT64 BALL ⊢
  clear hL
  obtain ⟨m, hm⟩ : ∃ m, L.length = m := ⟨_, rfl⟩
  have HM := Lib.hid hm
  rw [hm] at H3 ME TM TN TL L64 ⊢
  clear hm
  go_wp2
  go_loopw [23] (fun i wr => ∃ j : Nat, j ≤ m ∧ i = .int .i64 (j : Int) ∧ Hid (∃ cp FC, TbN wr w.heap.size (w1.heap.size + 1) w1.heap.size cp FC s (szOf l) (L.take j)) ∧ Hid (Keep (fun x => x = w1.heap.size) w3 wr)) (fun i _ => m - (intOf i).toNat)
  case atStart => exact ⟨0, by omega, rfl, Lib.hid ⟨_, _, KW3.out⟩, Lib.hid (Keep.refl _ _)⟩
  case round =>
    obtain ⟨j, hj, rfl, ⟨cp, FC, hst⟩, hkr⟩ := hrel
    have HS := Lib.hid hst
    have hzr := hkr.out.size
    have hszw := hkr.out.size
    by_cases hlt : j < m
    · have f1 : (j : Int) < (m : Int) := by omega
      have f0 : (0 : Int) ≤ (j : Int) := by omega
      obtain ⟨b1, o1, rfl, hcl⟩ := ints_at (H3.out.1.keep hkr.out (fun k _ h e => by omega)) HM.out hlt
      have hcm := ME.out j hlt
      have TMj := Lib.hid (TM.out j hlt)
      have TNj := Lib.hid (TN.out j hlt)
      generalize L.getD j 0 = c at *
      have hcn := BALL.out c hcm
      have hc64 := LT64.out c hcm
      have KX := Lib.hid (show Keep (fun x => w.heap.size ≤ x) w wr from ((K02.out.trans H3.out.2 (fun _ _ h => h)).mono (T := fun x => w.heap.size ≤ x) (fun _ _ h => h.elim)).trans hkr.out (fun x _ e => by omega))
      have CLr := HU.out.keep KX.out (fun b hb _ h => by omega)
      have hcr : wr.heap[w.heap.size]? = some (.cells #[.int .i64 log, .int .i64 pages, .int .i64 ents, .int .i64 gens, .slice A n cap] 42 (0, 0)) := (hkr.out.block _ (by omega) (fun e => by omega)).trans ((H3.out.2.block _ (by omega) (fun h => h)).trans HC2.out)
      obtain ⟨x0, x1, x2, x3, x4, xf⟩ := cells5 hcr
      have CS := csize_any ⟨log, pages, ents, gens, l⟩ _ F (c : Int) wr CLr (by omega) (by omega)
      unfold confV at CS
      simp only at CS
      rw [if_pos ⟨by omega, by omega⟩, decide_eq_true (show 0 ≤ (c : Int) ∧ (c : Int) < (l.length : Int) by omega), Int.toNat_natCast] at CS
      have CS := Lib.hid CS
      clear hst CLr hcr
      have SZ := Lib.hid (show clampN (szAt l c) = szOf l c from rfl)
      generalize szAt l c = z at *
      go_wp2_with fail
      with_reducible refine CS.out.mono ?_
      rintro e w4 ⟨rfl, hb4⟩
      have K4 := Lib.hid (show Keep (fun _ => False) wr w4 from Keep.of_below' hb4)
      clear hb4 CS x0 x1 x2 x3 x4 xf hcl
      have CE := Lib.hid (show ∀ W', Keep (fun _ => False) w4 W' → W'.cell? ⟨w1.heap.size + 1, 2, none⟩ = some (.map (some w1.heap.size)) from fun W' hk => (cells3 ((HS.out.same (K4.out.trans hk (fun _ _ h => h))).box)).2.2.1)
      have NWc := Lib.hid (fun W => col_new z W)
      rw [SZ.out] at NWc
      have hcr2 : -9223372036854775808 ≤ (c : Int) ∧ (c : Int) ≤ 9223372036854775807 := by omega
      have KI := Lib.hid (keyInt (c : Int) hcr2)
      have LJ := Lib.hid (show (L.take j).length = j by rw [List.length_take, HM.out]; omega)
      have LJ1 := Lib.hid (show (L.take (j + 1)).length = (L.take j).length + 1 by rw [List.length_take, List.length_take, HM.out]; omega)
      have LMX := Lib.hid (show (L.take j).length < maxLen by rw [LJ.out]; unfold maxLen; omega)
      have NXX := Lib.hid (show ∀ (p : Nat) (F : Nat → Prop) (wX w6 : World), Keep (fun _ => False) w4 wX → Col wX p F (szOf l c) [] → (∀ k, F k → w4.heap.size ≤ k) → MapV w6 Tryz.prog 3 w1.heap.size ((L.take j).length + 1) (colF (L.take (j + 1)) (fun d => if d = c then p else cp d)) → Keep (fun x => x = w1.heap.size) wX w6 → Hid (∃ cp FC, TbN w6 w.heap.size (w1.heap.size + 1) w1.heap.size cp FC s (szOf l) (L.take (j + 1))) ∧ Hid (Keep (fun x => x = w1.heap.size) w3 w6) ∧ w6.cell? ⟨w1.heap.size + 1, 2, none⟩ = some (.map (some w1.heap.size)) from fun p F wX w6 k1 hc hf hm k2 => by
        have T4 := (HS.out.same K4.out).next (D' := L.take (j + 1)) (by have := K4.out.size; omega) k1 hc hf TNj.out TMj.out LJ1.out hm k2
        exact ⟨⟨_, _, T4⟩, (hkr.out.trans ((K4.out.trans k1 (fun _ _ h => h)).mono (T := fun x => x = w1.heap.size) (fun _ _ h => h.elim)) (fun _ _ h => h)).trans k2 (fun _ _ h => h), (cells3 T4.box).2.2.1⟩)
      have MV := Lib.hid (show ∀ W', Keep (fun _ => False) w4 W' → MapV W' Tryz.prog 3 w1.heap.size (L.take j).length (colF (L.take j) cp) from fun W' hk => (HS.out.same (K4.out.trans hk (fun _ _ h => h))).map_)
      have PUT := Lib.hid (fun p => colF_put (cp := cp) (p := p) TMj.out)
      go_upto_region 6 with fail
      go_region_held3 (fun W' => W'.cell? ⟨w1.heap.size + 1, 2, none⟩ = some (.map (some w1.heap.size))) (first | exact H6.out.2.2 | exact CE.out _ (by exact (by repeat first | (with_reducible assumption) | (with_reducible exact Keep.refl _ _) | (with_reducible refine Keep.alloc ?_ _) | (with_reducible refine Keep.drew ?_) | (with_reducible refine Keep.drewN ?_ _) | (with_reducible refine Keep.setCell ?_ (.inl (by first | omega | (simp; done) | (simp; omega) | fail)) _)))) (first
        | (go_at_call 56; (with_reducible refine (NWc.out _).mono ?_); rintro e w5 ⟨p, Foot, rfl, hcol, hb5, hf5⟩; have k45 : Keep (fun _ => False) w4 _ := (by repeat first | (with_reducible assumption) | (with_reducible exact Keep.refl _ _) | (with_reducible refine Keep.alloc ?_ _) | (with_reducible refine Keep.drew ?_) | (with_reducible refine Keep.drewN ?_ _) | (with_reducible refine Keep.setCell ?_ (.inl (by first | omega | (simp; done) | (simp; omega) | fail)) _)); have k5 : Keep (fun _ => False) w4 w5 := Keep.trans (by exact (by repeat first | (with_reducible assumption) | (with_reducible exact Keep.refl _ _) | (with_reducible refine Keep.alloc ?_ _) | (with_reducible refine Keep.drew ?_) | (with_reducible refine Keep.drewN ?_ _) | (with_reducible refine Keep.setCell ?_ (.inl (by first | omega | (simp; done) | (simp; omega) | fail)) _))) (Keep.of_below' hb5) (fun _ _ h => h); have H5 := Lib.hid (And.intro hcol (show ∀ k, Foot k → w4.heap.size ≤ k from fun k hk => hf5 k hk)); clear hcol hb5 hf5)
        | (obtain ⟨w6, hrun, hm6, hk6⟩ := (MV.out w5 k5).update keyedInt (g := colF (L.take (j + 1)) (fun d => if d = c then p else cp d)) Tryz.underlying118 LMX.out (.pointer (some ⟨p, 0, none⟩)) KI.out (PUT.out p); rw [hrun]; have H6 := Lib.hid (NXX.out p Foot _ w6 k5 H5.out.1 H5.out.2 hm6 hk6); clear hrun hm6 hk6; go_simp)
        | fail)
      all_goals
        have H7 := Lib.hid (And.intro H6.out.1 H6.out.2.1)
        clear CE NWc MV NXX PUT
        go_wp2
        go_roundw
        case rel => exact ⟨j + 1, by omega, by go_num, H7.out.1, H7.out.2⟩
        case measure => simp [intOf]; omega
    · obtain rfl : j = m := by omega
      have f1 : ¬ (j : Int) < (j : Int) := by omega
      rw [TL.out] at hst
      have HF := Lib.hid (show TbFresh w (sig &&& allOf l) (szOf l) (w1.heap.size + 1) wr from by
        rw [HSE.out]
        rw [← HL.out] at hst
        obtain ⟨t1, t0, t2⟩ := hst.tb hltS
        exact ⟨_, _, _, t1, t0, ((K02.out.trans H3.out.2 (fun _ _ h => h)).mono (T := fun x => w.heap.size ≤ x) (fun _ _ h => h.elim)).trans hkr.out (fun x _ e => by omega) |>.to_below (Nat.le_refl _), t2⟩)
      go_wp2
      go_ret
      exact ⟨_, rfl, HF.out⟩
end Go.Proofs.YtdeifjnhbdkkgaaGreatDoor

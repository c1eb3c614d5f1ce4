/- Contracts of slices.IndexFunc with data's test, table.data. -/
import Derived.Test.YtglliendhbkkhaaGreatDoorTab1
import Derived.Test.YtglliendhbkkhaaGreatDoorCompA
namespace Go.Proofs.YtglliendhbkkhaaGreatDoor
open Go.RowKit
set_option maxRecDepth 100000
set_option linter.unusedVariables false
set_option linter.unusedSimpArgs false

/-- The first part of a component. -/
def fstP (P : List PtZ) (k : Int) : Nat := P.findIdx fun p => decide (p.comp = k)
def noneP (P : List PtZ) (k : Int) (j : Nat) : Prop := ∀ i x, i < j → P[i]? = some x → x.comp ≠ k
theorem fstP_at {P : List PtZ} {k : Int} {j : Nat} {x : PtZ} (h : noneP P k j) (hx : P[j]? = some x) (hk : x.comp = k) : fstP P k = j := by
  obtain ⟨hj, e⟩ := List.getElem?_eq_some_iff.1 hx
  unfold fstP
  rw [List.findIdx_eq hj]
  refine ⟨by rw [e]; exact decide_eq_true hk, fun i hi => ?_⟩
  exact decide_eq_false (h i _ hi (List.getElem?_eq_getElem (by omega)))
theorem fstP_no {P : List PtZ} {k : Int} (h : noneP P k P.length) : fstP P k = P.length := by
  unfold fstP
  rw [List.findIdx_eq_length]
  intro x hx
  obtain ⟨i, hi, e⟩ := List.mem_iff_getElem.1 hx
  exact decide_eq_false (h i x hi (by rw [List.getElem?_eq_getElem hi, e]))
theorem noneP_next {P : List PtZ} {k : Int} {j : Nat} {x : PtZ} (h : noneP P k j) (hx : P[j]? = some x) (hk : x.comp ≠ k) : noneP P k (j + 1) := fun i y hi hy => by
  by_cases e : i = j
  · subst e
    rw [hx] at hy
    exact (Option.some.inj hy) ▸ hk
  · exact h i y (by omega) hy
/-- A component's data of parts. -/
def dataT (P : List PtZ) (k : Int) (size : Nat) : List UInt8 := match P[fstP P k]? with
  | some x => x.data
  | none => List.replicate size 0
theorem run_makeB (n : Nat) (hn : n ≤ 65536) (W : World) : (Instr.makeSlice 43 (.int .i64 (n : Int)) (.int .i64 (n : Int))).run Tryz.prog W = .ok (.slice (some ⟨W.heap.size, 0, none⟩) n n) (W.alloc (.cells (bv (List.replicate n 0)).toArray 5)) := by
  obtain ⟨i0, hi0, hz0, hz1, hz2⟩ := info_parts info_byte
  have := run_makeSlice (P := Tryz.prog) W 43 5 i0 _ Tryz.underlying43 hi0 hz0 .i64 .i64 n n (by omega) (by omega) (by rw [hz1]; omega) (by rw [hz2]; omega) (by omega)
  rw [this, hz1]
  rw [Int.toNat_natCast, Nat.mul_one]
  have e : madeCells (Value.int .u8 0).cells n = (bv (List.replicate n 0)).toArray := Array.ext' (bv_zeros n)
  rw [e]
theorem by_made (w : World) (n : Nat) (hn : n ≤ 65536) : By (w.alloc (.cells (bv (List.replicate n 0)).toArray 5)) (fun b => w.heap.size ≤ b) (.slice (some ⟨w.heap.size, 0, none⟩) n n) (List.replicate n 0) := by
  have h := (Own.made (base := w.heap.size) (e := 5) (size := 1) w (bv (List.replicate n 0)).toArray n n (Nat.le_refl _) (Nat.le_refl _) (by unfold maxLen; omega) (by simp [bv])).sl
  rw [List.take_of_length_le (by simp [bv])] at h
  exact sl_by h
theorem ptest_any (a k : Int) (A : Option Addr) (n c : Nat) (p : Nat) (w : World) (hp : w.cell? ⟨p, 0, none⟩ = some (.int .i64 k)) :
    Calls Tryz.prog 188 #[.agg #[.int .i64 a, .slice A n c], .pointer (some ⟨p, 0, none⟩)] w fun e w' => e = .returned (.bool (decide (a = k))) ∧ Below w.heap.size w w' := by
  have hlt := World.block_lt_of_cell? w _ hp
  have h1 : (w.alloc (.cells #[.int .i64 a, .slice A n c] 91 (0, 0))).cell? ⟨p, 0, none⟩ = some (.int .i64 k) := ((Keep.refl (fun _ => False) w).alloc _).cell (fun h => h) hp
  obtain ⟨x0, x1, xf⟩ := cells2 (heap_alloc_new w (.cells #[.int .i64 a, .slice A n c] 91 (0, 0)))
  have ST : (a == k) = decide (a = k) := by
    by_cases h : a = k
    · rw [decide_eq_true h]; simpa using h
    · rw [decide_eq_false h]; simpa using h
  generalize decide (a = k) = r at *
  go_enter Tryz.func188, Tryz.ntmps188
  go_wp2
  go_ret
  exact ⟨by first | rfl | rw [ST], by exact (by repeat first | exact Below.refl _ _ | refine Below.setCell ?_ (by first | omega | (simp; done) | (simp; omega)) _ | refine Below.alloc ?_ (by first | omega | (simp; done) | (simp; omega)) _ | refine Below.drew ?_ | refine below_drewN ?_ _ | assumption)⟩
theorem indexp_any (P : List PtZ) (u : Value) (F : Nat → Prop) (k : Int) (p : Nat) (w : World) (hu : NS parN w F u P) (h40 : P.length ≤ 1000) (hp : w.cell? ⟨p, 0, none⟩ = some (.int .i64 k)) :
    Calls Tryz.prog 187 #[u, .func (.func 188) #[] #[.pointer (some ⟨p, 0, none⟩)]] w fun e w' => (fstP P k < P.length ∧ e = .returned (.int .i64 (fstP P k : Nat)) ∨ fstP P k = P.length ∧ e = .returned (.int .i64 (-1))) ∧ Below w.heap.size w w' := by
  have HU := Lib.hid hu
  obtain ⟨A, cap, rfl, hcm, hnc⟩ := hu.form
  obtain ⟨n, hn⟩ : ∃ n, n = P.length := ⟨_, rfl⟩
  have HN := Lib.hid hn
  rw [← hn] at hnc HU h40 ⊢
  have HP := Lib.hid hp
  clear hn hcm hp hu
  go_enter Tryz.func187, Tryz.ntmps187
  go_wp2
  go_loopw [8] (fun i wr => ∃ j : Nat, j ≤ n ∧ i = .int .i64 j ∧ Hid (Keep (fun _ => False) w wr) ∧ Hid (noneP P k j)) (fun i _ => n - (intOf i).toNat)
  case atStart => exact ⟨0, by omega, rfl, Lib.hid (Keep.refl _ w), Lib.hid (fun i x hi => absurd hi (by omega))⟩
  case round =>
    obtain ⟨j, hj, rfl, hkw, ht⟩ := hrel
    by_cases hlt : j < n
    · have hi : (j : Int) < (n : Int) := by omega
      obtain ⟨b, off, x, v, rfl, -, hx, hin, hc⟩ := NS.at_ (HU.out.same hkw.out) hlt
      have e0 := hc 0 _ rfl
      have e1 := hc 1 _ rfl
      have e2 : v.oneCell' = true := parN.one hin v (by simp [parN])
      obtain ⟨A2, c2, rfl, -⟩ := hin
      have FN : x.comp = k → Hid (fstP P k = j) := fun h => Lib.hid (fstP_at ht.out hx h)
      have NT : x.comp ≠ k → Hid (noneP P k (j + 1)) := fun h => Lib.hid (noneP_next ht.out hx h)
      have HL := Lib.hid hlt
      simp only [show parN.m = 2 from rfl, Nat.add_zero] at e0 e1
      clear hc hx
      generalize x.data.length = n2 at *
      generalize x.comp = a at *
      have TS := Lib.hid (fun W (hk : W.cell? ⟨p, 0, none⟩ = some (.int .i64 k)) => ptest_any a k A2 n2 c2 p W hk)
      by_cases hq : a = k
      · rw [decide_eq_true hq] at TS
        have FN := FN hq
        clear hq NT
        go_wp2_with (go_at_call 188; (with_reducible refine (TS.out _ (hkw.out.cell (fun h => h) HP.out)).mono ?_); rintro e w1 ⟨rfl, hb1⟩)
        go_ret
        exact ⟨.inl ⟨by rw [FN.out]; exact HL.out, by rw [FN.out]; rfl⟩, (hkw.out.trans (Keep.of_below' hb1) (fun _ _ h => h)).to_below'⟩
      · rw [decide_eq_false hq] at TS
        have NT := NT hq
        clear hq FN
        go_wp2_with (go_at_call 188; (with_reducible refine (TS.out _ (hkw.out.cell (fun h => h) HP.out)).mono ?_); rintro e w1 ⟨rfl, hb1⟩)
        go_roundw
        case rel => exact ⟨j + 1, by omega, by go_num, Lib.hid (hkw.out.trans (Keep.of_below' hb1) (fun _ _ h => h)), NT⟩
        case measure => simp [intOf]; omega
    · have FN := Lib.hid (show fstP P k = P.length from fstP_no (by have := HN.out; rw [show P.length = j by omega]; exact ht.out))
      have hi : ¬ (j : Int) < (n : Int) := by omega
      go_wp2
      go_ret
      exact ⟨.inr ⟨by rw [FN.out]; exact HN.out.symm, rfl⟩, hkw.out.to_below'⟩
theorem tb_data (P : List PtZ) (u : Value) (F : Nat → Prop) (k : Int) (size : Nat) (w : World) (hu : NS parN w F u P) (h40 : P.length ≤ 1000) (hs : size ≤ 65536) :
    Calls Tryz.prog 173 #[u, .int .i64 k, .int .i64 (size : Nat)] w fun e w' => ∃ A c, e = .returned (.slice A (dataT P k size).length c) ∧ By w' (fun b => F b ∨ w.heap.size ≤ b) (.slice A (dataT P k size).length c) (dataT P k size) ∧ Below w.heap.size w w' := by
  have hmf : ∀ (fn : Fn) (first cap : Array Value) (w : World), (Instr.makeFunc fn first cap).run Tryz.prog w = .ok (.func fn first cap) w := fun _ _ _ _ => rfl
  have MK := run_makeB size hs
  have BMD := Lib.hid (fun W => by_made W size hs)
  have HU := Lib.hid hu
  obtain ⟨A, cap, rfl, hcm, hnc⟩ := hu.form
  have IX := Lib.hid (indexp_any P _ F k w.heap.size (w.alloc (.cells #[.int .i64 k] 3 (0, 0))) (hu.same ((Keep.refl _ w).alloc _)) h40 (cells1 (heap_alloc_new w _)).1)
  obtain ⟨n, hn⟩ : ∃ n, n = P.length := ⟨_, rfl⟩
  have HN := Lib.hid hn
  rw [← hn] at hnc HU h40 IX ⊢
  clear hn hcm hu
  go_enter Tryz.func173, Tryz.ntmps173
  go_wp2_with fail
  with_reducible refine IX.out.mono ?_
  rintro e w1 ⟨h1 | h1, hb1⟩
  · obtain ⟨h1, rfl⟩ := h1
    have hsz := hb1.size
    have K1 := Lib.hid (((Keep.refl (fun _ => False) w).alloc (.cells #[.int .i64 k] 3 (0, 0))).trans (Keep.of_below' hb1) (fun _ _ h => h))
    obtain ⟨b, off, x, v, rfl, hF, hx, hin, hc⟩ := NS.at_ (HU.out.same K1.out) h1
    have DT : dataT P k size = x.data := by unfold dataT; rw [hx]
    have e1 := hc 1 _ rfl
    have DT := Lib.hid DT
    clear hx hc IX hb1 hsz
    obtain ⟨A2, c2, rfl, hr⟩ := hin
    have HIN := Lib.hid (show By w1 F (.slice A2 x.data.length c2) x.data from ⟨A2, c2, rfl, hr⟩)
    clear hr
    simp only [show parN.m = 2 from rfl] at e1
    generalize fstP P k = q at *
    have h0 : ¬ (q : Int) < 0 := by omega
    have h2 : (q : Int) < (n : Int) := by omega
    have h3 : (0 : Int) ≤ (q : Int) := by omega
    generalize x.data = l at *
    obtain ⟨m, hm⟩ : ∃ m, l.length = m := ⟨_, rfl⟩
    have HM := Lib.hid hm
    rw [hm] at HIN e1
    clear hm
    go_wp2
    go_ret
    exact ⟨A2, c2, by rw [DT.out, HM.out]; rfl, by rw [DT.out, HM.out]; exact HIN.out.mono (fun _ _ h => .inl h), K1.out.to_below'⟩
  · obtain ⟨h1, rfl⟩ := h1
    have K1 := Lib.hid (((Keep.refl (fun _ => False) w).alloc (.cells #[.int .i64 k] 3 (0, 0))).trans (Keep.of_below' hb1) (fun _ _ h => h))
    have DT : dataT P k size = List.replicate size 0 := by unfold dataT; rw [h1, HN.out, List.getElem?_eq_none (Nat.le_refl _)]
    have DT := Lib.hid DT
    clear IX hb1 h1
    have HK := Lib.hid (List.length_replicate (n := size) (a := (0 : UInt8)))
    go_wp2
    go_ret
    exact ⟨some ⟨w1.heap.size, 0, none⟩, size, by rw [DT.out, HK.out]; rfl, by rw [DT.out, HK.out]; exact (BMD.out w1).mono (fun _ _ h => .inr (Nat.le_trans K1.out.size h)), (K1.out.alloc _).to_below'⟩
end Go.Proofs.YtglliendhbkkhaaGreatDoor
namespace Go.Proofs.YtglliendhbkkhaaGreatDoor
open Go.RowKit
set_option maxRecDepth 100000
set_option linter.unusedVariables false
set_option linter.unusedSimpArgs false

theorem step_name {ops : Array Oper} {o : Oper} {a : Act} {w : World} {K : Act → World → Prop} {Q : Exit → Act → World → Prop} {E : Prop} (hgd : Region.wanted o (yielded ops a.tmps) = true) (s x : Operand)
    (ho : o.op = .call { callee := .builtin .append, args := #[s, x], argTypes := #[67, 67] }) (v : Value) (n : Nat) (ids : List IdZ) (hn : ids.length = n) (hv : a.eval s = v) (hown : Own w 0 40 2 v n (ids.flatMap idC)) (g c : Nat) (y : IdZ)
    (hy : a.eval x = .slice (some ⟨g, 0, none⟩) 1 c) (h0 : w.cell? ⟨g, 0, none⟩ = some (.int .i64 y.ix)) (h1 : w.cell? ⟨g, 1, none⟩ = some (.int .i64 y.gen)) (hk : n ≤ 1024)
    (h : ∀ A c w', Own w' 0 40 2 (.slice A (n + 1) c) (n + 1) ((ids ++ [y]).flatMap idC) → Keep (fun k => ownB v = some k) w w' → (∀ k', ownB (.slice A (n + 1) c) = some k' → ownB v = some k' ∨ w.heap.size ≤ k') → K (a.put o.dst (.slice A (n + 1) c)) w') :
    if Region.wanted o (yielded ops a.tmps) = true then Oper.wp Tryz.prog o a w K Q else E := by
  obtain ⟨is, his, hs0, hs1, hs2⟩ := info_parts info_id
  have hsrc : Src Tryz.prog 2 67 (.slice (some ⟨g, 0, none⟩) 1 c) 1 (idC y) w := Src.ofSlice _ Tryz.underlying67 _ 1 c (idC y) rfl (fun j u hu => by
    match j, hu with
    | 0, hu => cases hu; simpa [Addr.add] using h0
    | 1, hu => cases hu; simpa [Addr.add] using h1) (fun u hu => by
    simp only [idC, List.mem_cons, List.not_mem_nil, or_false] at hu
    rcases hu with rfl | rfl <;> rfl)
  refine step_append_gen w hgd s x _ _ ho 0 40 is _ 2 16 Tryz.underlying67 his hs0 hs1 hs2 rfl v n _ hv hown _ 1 _ hy hsrc (by unfold maxLen; omega) (by omega) (Nat.zero_le _) ?_
  intro v' w' ho' hk' hn'
  obtain ⟨A, c', rfl, _⟩ := ho'.form
  refine h A c' w' ?_ hk' hn'
  rw [List.flatMap_append]
  simpa using ho'
/-- What an add says. -/
def addOk (sig : Nat) (sz : Nat → Nat) (P : List PtZ) : Bool := (bl sig 64).all fun c => decide ((dataT P (c : Int) (sz c)).length = sz c)
def addC (n sig : Nat) (sz : Nat → Nat) (P : List PtZ) : Int := if n = 1024 then 9 else if addOk sig sz P = true then 0 else 7
def colA (P : List PtZ) (sz : Nat → Nat) (col : Nat → List (List UInt8)) (D : List Nat) (d : Nat) : List (List UInt8) := if d ∈ D then col d ++ [dataT P (d : Int) (sz d)] else col d
def addI (sig : Nat) (sz : Nat → Nat) (ids : List IdZ) (x : IdZ) (P : List PtZ) : List IdZ := if addC ids.length sig sz P = 0 then ids ++ [x] else ids
def addK (n sig : Nat) (sz : Nat → Nat) (col : Nat → List (List UInt8)) (P : List PtZ) : Nat → List (List UInt8) := if addC n sig sz P = 0 then colA P sz col (bl sig 64) else col
section
variable {w : World} {tp mb : Nat} {vs : Value} {cp : Nat → Nat} {FC : Nat → Nat → Prop} {sig : Nat} {sz : Nat → Nat} {ids : List IdZ} {col : Nat → List (List UInt8)}
/-- One name more. -/
theorem Tb.grow (h : Tb w tp mb vs cp FC sig sz ids col) {w6 wX : World} {v' : Value} {n : Nat} (x : IdZ) (hn : ids.length = n) (hk1 : Keep (fun _ => False) w wX) (ho : Own w6 0 40 2 v' (n + 1) ((ids ++ [x]).flatMap idC)) (hk2 : Keep (fun k => ownB vs = some k) wX w6) (hn' : ∀ k, ownB v' = some k → ownB vs = some k ∨ wX.heap.size ≤ k) (h24 : n + 1 ≤ 1024) :
    Tb (w6.setCell ⟨tp, 1, none⟩ v') tp mb v' cp FC sig sz (ids ++ [x]) col ∧ Keep (TF tp mb vs FC sig) w (w6.setCell ⟨tp, 1, none⟩ v') ∧ ∀ k, TF tp mb v' FC sig k → TF tp mb vs FC sig k ∨ w.heap.size ≤ k := by
  subst hn
  have hkw : Keep (fun k => ownB vs = some k) w w6 := (hk1.mono (T := fun k => ownB vs = some k) (fun _ _ h => h.elim)).trans hk2 (fun _ _ h => h)
  have hkt : Keep (fun k => k = tp) w6 (w6.setCell ⟨tp, 1, none⟩ v') := Keep.setCell (S := fun k => k = tp) (p := ⟨tp, 1, none⟩) (Keep.refl _ _) (.inr rfl) _
  have hk : Keep (fun k => k = tp ∨ ownB vs = some k) w (w6.setCell ⟨tp, 1, none⟩ v') := (hkw.mono (T := fun k => k = tp ∨ ownB vs = some k) (fun _ _ h => .inr h)).trans hkt (fun _ _ h => .inl h)
  have hlt := h.lt
  have hnv : ∀ k, k < w.heap.size → ownB v' = some k → ownB vs = some k := fun k hk e => by
    rcases hn' k e with e | e
    · exact e
    · have := hk1.size; omega
  have hb6 : w6.heap[tp]? = _ := (hkw.block tp (hlt tp (.inl rfl)) h.tp_vs).trans h.box
  obtain ⟨N, hN, hm⟩ := h.map
  refine ⟨⟨h.lt64, by rw [heap_setCell_same w6 tp 1 _ _ _ hb6]; rfl, ?_, ⟨N, hN, hm.keep hk (fun e => e.elim (fun e => h.tp_mb e.symm) h.mb_vs)⟩, fun d hd => col_keep (h.cols d hd) hk (fun k e e2 => e2.elim (fun e2 => h.ntp d hd (by rw [← e2]; exact e)) (fun e2 => h.nvs d k hd e2 e)), by rw [List.length_append]; simpa using h24, h.ntp, h.nmb, fun d k hd e e2 => ?_, h.apart⟩, hk.mono (fun k _ e => e.elim (fun e => .inl e) (fun e => .inr (.inr (.inl e)))), fun k hk => ?_⟩
  · rw [List.length_append]
    exact ho.keep hkt (fun k e e2 => by
      rw [e2] at e
      exact h.tp_vs (hnv tp (hlt tp (.inl rfl)) e))
  · exact h.nvs d k hd (hnv k (hlt k (.inr (.inr (.inr ⟨d, hd, e2⟩)))) e) e2
  · rcases hk with e | e | e | e
    · exact .inl (.inl e)
    · exact .inl (.inr (.inl e))
    · rcases hn' k e with e | e
      · exact .inl (.inr (.inr (.inl e)))
      · exact .inr (Nat.le_trans hk1.size e)
    · exact .inl (.inr (.inr (.inr e)))
set_option maxHeartbeats 1000000 in
theorem tb_add (h : Tb w tp mb vs cp FC sig sz ids col) (hl : ∀ c, c ∈ bl sig 64 → (col c).length = ids.length) (hT : Tab w) (x : IdZ) (P : List PtZ) (u : Value) (F : Nat → Prop) (hu : NS parN w F u P) (hP : P.length ≤ 1000) (hF : ∀ b, F b → ¬ TF tp mb vs FC sig b) :
    Calls Tryz.prog 138 #[.pointer (some ⟨tp, 0, none⟩), .agg #[.int .i64 x.ix, .int .i64 x.gen], u] w fun e w' => e = .returned (.int .i64 (addC ids.length sig sz P)) ∧ TbTo w (TF tp mb vs FC sig) tp sig sz (addI sig sz ids x P) (addK ids.length sig sz col P) w' := by
  have SAME := Lib.hid (fun (h0 : addC ids.length sig sz P ≠ 0) w' (hk : Keep (fun _ => False) w w') => show TbTo w (TF tp mb vs FC sig) tp sig sz (addI sig sz ids x P) (addK ids.length sig sz col P) w' from by
    unfold addI addK
    rw [if_neg h0, if_neg h0]
    exact ⟨mb, vs, cp, FC, h.same hk, hk.mono (fun _ _ e => e.elim), fun k hk => .inl hk⟩)
  obtain ⟨AP, cP, rfl, -, -⟩ := hu.form
  obtain ⟨nP, hnP⟩ : ∃ nP, P.length = nP := ⟨_, rfl⟩
  rw [hnP] at hP hu ⊢
  have HNP := Lib.hid hnP
  clear hnP
  obtain ⟨AI, cI, rfl, -⟩ := h.own.form
  obtain ⟨c0, c1, c2, cf⟩ := cells3 ((((Keep.refl (fun _ => False) w).alloc (.cells #[.int .i64 x.ix, .int .i64 x.gen] 40)).block tp (h.lt tp (.inl rfl)) (fun h => h)).trans h.box)
  by_cases hfull : ids.length = 1024
  · have hz : addC ids.length sig sz P = 9 := by unfold addC; rw [if_pos hfull]
    have HT := Lib.hid (SAME.out (by rw [hz]; decide))
    rw [hz]
    have hfi : ((ids.length : Nat) : Int) = 1024 := by omega
    clear h hl SAME hz
    generalize ids.length = n at *
    subst hfull
    go_enter Tryz.func138, Tryz.ntmps138
    go_wp2
    go_ret
    exact ⟨rfl, HT.out _ (by repeat first | (with_reducible assumption) | (with_reducible exact Keep.refl _ _) | (with_reducible refine Keep.alloc ?_ _) | (with_reducible refine Keep.drew ?_) | (with_reducible refine Keep.drewN ?_ _) | (with_reducible refine Keep.setCell ?_ (.inl (by first | omega | (simp; done) | (simp; omega) | fail)) _))⟩
  · have hn24 : ids.length ≤ 1023 := by have := h.few; omega
    have ADDZ := Lib.hid (show addC ids.length sig sz P = if addOk sig sz P = true then 0 else 7 by unfold addC; rw [if_neg hfull])
    have FIN := Lib.hid (fun (h0 : addC ids.length sig sz P = 0) (w' : World) (ht : TbTo w (TF tp mb (.slice AI ids.length cI) FC sig) tp sig sz (ids ++ [x]) (colA P sz col (bl sig 64)) w') => show TbTo w (TF tp mb (.slice AI ids.length cI) FC sig) tp sig sz (addI sig sz ids x P) (addK ids.length sig sz col P) w' from by
      unfold addI addK
      rw [if_pos h0, if_pos h0]
      exact ht)
    have BL := Lib.hid (bitsList_any sig h.lt64 (w.alloc (.cells #[.int .i64 x.ix, .int .i64 x.gen] 40)) (hT.same ((Keep.refl _ w).alloc _)))
    have HH := Lib.hid (And.intro h hl)
    have TLT := Lib.hid h.lt
    have HU := Lib.hid hu
    have HF := Lib.hid hF
    have ME := Lib.hid (fun j (hj : j < (bl sig 64).length) => getD_mem hj)
    have L64 := bl_len sig 64
    have TM := Lib.hid (fun j (hj : j < (bl sig 64).length) => take_next_mem hj)
    have TN := Lib.hid (fun j (hj : j < (bl sig 64).length) => take_next_not hj (bl_nodup sig 64))
    have TL := Lib.hid (show (bl sig 64).take (bl sig 64).length = bl sig 64 from List.take_length)
    have LT64 := Lib.hid (fun c (hc : c ∈ bl sig 64) => bl_lt hc)
    have OK1 := Lib.hid (show (∀ c, c ∈ bl sig 64 → (dataT P (c : Int) (sz c)).length = sz c) → addOk sig sz P = true from fun hh => List.all_eq_true.2 fun c hc => decide_eq_true (hh c hc))
    have OK0 := Lib.hid (show ∀ c, c ∈ bl sig 64 → (dataT P (c : Int) (sz c)).length ≠ sz c → addOk sig sz P = false from fun c hc hne => by
      unfold addOk
      rw [List.all_eq_false]
      exact ⟨c, hc, by simpa using hne⟩)
    have hlt64 := h.lt64
    have hlw := h.lt tp (.inl rfl)
    clear h hl hu hF
    have hfu : (((ids.length : Nat) : Int) == 1024) = false := by rw [beq_eq_false_iff_ne]; omega
    obtain ⟨L, hL⟩ : ∃ L, bl sig 64 = L := ⟨_, rfl⟩
    have HL := Lib.hid hL
    rw [hL] at BL ME L64 TM TN TL LT64 OK1 OK0
    clear hL
    obtain ⟨m, hm⟩ : ∃ m, L.length = m := ⟨_, rfl⟩
    have HM := Lib.hid hm
    rw [hm] at BL ME TM TN TL L64
    clear hm
    obtain ⟨n, hn⟩ : ∃ n, ids.length = n := ⟨_, rfl⟩
    have HN := Lib.hid hn
    rw [hn] at hn24 SAME ADDZ FIN HH TLT HF c1 hfu ⊢
    clear hn hfull
    go_enter Tryz.func138, Tryz.ntmps138
    go_wp2_with fail
    with_reducible refine BL.out.mono ?_
    rintro e w1 ⟨u1, rfl, ho1, hb1⟩
    obtain ⟨A1, d1, rfl, -⟩ := ho1.form
    have hsz1 : w.heap.size + 1 ≤ w1.heap.size := by have := hb1.size; simpa using this
    have H1 := Lib.hid (show Sl w1 (fun k => w.heap.size + 1 ≤ k) 1 (.slice A1 m d1) m (iv (ints L)) ∧ w1.heap[w.heap.size]? = some (.cells #[.int .i64 x.ix, .int .i64 x.gen] 40 (0, 0)) ∧ Keep (fun _ => False) w w1 from
      ⟨ho1.sl.mono (fun k _ h => by rw [World.size_alloc] at h; exact h), (hb1.block _ (by simp)).trans (heap_alloc_at _ _ _ rfl), ((Keep.refl _ w).alloc _).trans (Keep.of_below' hb1) (fun _ _ h => h)⟩)
    clear ho1 hb1 c0 c1 c2 cf BL
    go_wp2
    go_loopw [30] (fun i wr => ∃ (j : Nat), j ≤ m ∧ i = .int .i64 (j : Int) ∧ Hid (Keep (fun _ => False) w1 wr) ∧ Hid (∀ c, c ∈ L.take j → (dataT P (c : Int) (sz c)).length = sz c)) (fun i _ => m - (intOf i).toNat)
    case atStart => exact ⟨0, by omega, rfl, Lib.hid (Keep.refl _ _), Lib.hid (fun c hc => by simp at hc)⟩
    case round =>
      obtain ⟨j, hj, rfl, hkr, hgd⟩ := hrel
      have KW := Lib.hid (H1.out.2.2.trans hkr.out (fun _ _ h => h))
      by_cases hlt : j < m
      · have f1 : (j : Int) < (m : Int) := by omega
        have f0 : (0 : Int) ≤ (j : Int) := by omega
        obtain ⟨b1, o1, rfl, hcl⟩ := ints_at (H1.out.1.keep hkr.out (fun _ _ _ h => h)) HM.out hlt
        have hcm := ME.out j hlt
        have TMj := Lib.hid (TM.out j hlt)
        generalize L.getD j 0 = c at *
        have hcm2 : c ∈ bl sig 64 := by rw [HL.out]; exact hcm
        have HTB := Lib.hid (HH.out.1.same KW.out)
        have LK := (HTB.out.look (Keep.refl _ wr) (k := (c : Int)) (by have := LT64.out c hcm; omega)).2
        rw [hasK_nat, decide_eq_true hcm2, if_pos rfl, Int.toNat_natCast] at LK
        obtain ⟨c0, c1, c2, cf⟩ := cells3 HTB.out.box
        have CS := Lib.hid (col_size (HTB.out.cols c hcm2))
        have hsz := (HTB.out.cols c hcm2).small
        have DA := Lib.hid (tb_data P _ F (c : Int) (sz c) wr (HU.out.same KW.out) (by rw [HNP.out]; exact hP) (by omega))
        clear HTB
        have GD := Lib.hid (show (dataT P (c : Int) (sz c)).length = sz c → ∀ c', c' ∈ L.take (j + 1) → (dataT P (c' : Int) (sz c')).length = sz c' from fun e c' hc' => ((TMj.out c').1 hc').elim (hgd.out c') (fun e' => by rw [e']; exact e))
        have BD := Lib.hid (show (dataT P (c : Int) (sz c)).length ≠ sz c → addC n sig sz P = 7 from fun e => by rw [ADDZ.out, OK0.out c hcm e]; rfl)
        generalize hz : sz c = z at *
        generalize (dataT P (c : Int) z) = D at *
        obtain ⟨nd, hnd⟩ : ∃ nd, D.length = nd := ⟨_, rfl⟩
        rw [hnd] at DA GD BD
        by_cases hq : nd = z
        · have hq2 : ((nd : Int) != (z : Int)) = false := by rw [hq]; simp
          have GD2 := Lib.hid (GD.out hq)
          clear hq GD BD hnd hcm hcm2
          go_wp2_with fail
          with_reducible refine CS.out.mono ?_
          rintro e w3 ⟨rfl, rfl⟩
          go_wp2_with fail
          with_reducible refine DA.out.mono ?_
          rintro e w4 ⟨A4, d4, rfl, -, hb4⟩
          have hk4 := Lib.hid (hkr.out.trans (Keep.of_below' hb4) (fun _ _ h => h))
          clear hb4 c0 c1 c2 cf LK CS DA
          go_wp2
          go_roundw
          case rel => exact ⟨j + 1, by omega, by go_num, hk4, GD2⟩
          case measure => simp [intOf]; omega
        · have hq2 : ((nd : Int) != (z : Int)) = true := by rw [bne_iff_ne]; omega
          have h7 := BD.out hq
          have HT := Lib.hid (SAME.out (by rw [h7]; decide))
          have H7 := Lib.hid h7
          clear hq GD BD hnd hcm hcm2 h7
          go_wp2_with fail
          with_reducible refine CS.out.mono ?_
          rintro e w3 ⟨rfl, rfl⟩
          go_wp2_with fail
          with_reducible refine DA.out.mono ?_
          rintro e w4 ⟨A4, d4, rfl, -, hb4⟩
          have hk4 := Lib.hid (KW.out.trans (Keep.of_below' hb4) (fun _ _ h => h))
          clear hb4 c0 c1 c2 cf LK CS DA
          go_wp2
          go_ret
          exact ⟨by rw [H7.out]; rfl, HT.out _ hk4.out⟩
      · obtain rfl : j = m := by omega
        have f1 : ¬ (j : Int) < (j : Int) := by omega
        have hgd2 := hgd.out
        rw [TL.out] at hgd2
        have HZ := Lib.hid (show addC n sig sz P = 0 by rw [ADDZ.out, OK1.out hgd2]; rfl)
        have GOOD := Lib.hid hgd2
        have HW := Lib.hid (show wr.heap[w.heap.size]? = some (.cells #[.int .i64 x.ix, .int .i64 x.gen] 40 (0, 0)) from (hkr.out.block _ (by omega) (fun h => h)).trans H1.out.2.1)
        clear hgd2 hgd
        go_wp2
        obtain ⟨w2, hw2⟩ : ∃ w2, w2 = wr := ⟨_, rfl⟩
        subst hw2
        go_loopw [51] (fun i wr2 => ∃ (j2 : Nat), j2 ≤ j ∧ i = .int .i64 (j2 : Int) ∧ Hid (∃ FCr, Tb wr2 tp mb (.slice AI n cI) cp FCr sig sz ids (colA P sz col (L.take j2)) ∧ Keep (TF tp mb (.slice AI n cI) FC sig) w2 wr2 ∧ ∀ k, TF tp mb (.slice AI n cI) FCr sig k → TF tp mb (.slice AI n cI) FC sig k ∨ w2.heap.size ≤ k)) (fun i _ => j - (intOf i).toNat)
        case atStart => exact ⟨0, by omega, rfl, Lib.hid ⟨FC, (HH.out.1.same KW.out).congr (fun d hd => by unfold colA; rw [if_neg (by simp)]), Keep.refl _ _, fun k hk => .inl hk⟩⟩
        case round =>
          obtain ⟨j2, hj2, rfl, ⟨FCr, hst, hkr2, hfr⟩⟩ := hrel
          have hfr := Lib.hid hfr
          have hkr2 := Lib.hid hkr2
          have hz2 := hkr2.out.size
          have hz1 := hkr.out.size
          have KX := Lib.hid ((KW.out.mono (T := TF tp mb (.slice AI n cI) FC sig) (fun _ _ h => h.elim)).trans hkr2.out (fun _ _ h => h))
          by_cases hlt2 : j2 < j
          · have f1 : (j2 : Int) < (j : Int) := by omega
            have f0 : (0 : Int) ≤ (j2 : Int) := by omega
            obtain ⟨b1, o1, rfl, hcl⟩ := ints_at ((H1.out.1.keep hkr.out (fun _ _ _ h => h)).keep hkr2.out (fun k _ h e => by have := TLT.out k e; omega)) HM.out hlt2
            have hcm := ME.out j2 hlt2
            have TMj := Lib.hid (TM.out j2 hlt2)
            have TNj := Lib.hid (TN.out j2 hlt2)
            generalize L.getD j2 0 = c at *
            have hcm2 : c ∈ bl sig 64 := by rw [HL.out]; exact hcm
            have hcr : -9223372036854775808 ≤ (c : Int) ∧ (c : Int) ≤ 9223372036854775807 := by have := LT64.out c hcm; omega
            have HS := Lib.hid hst
            have CE := Lib.hid (show ∀ W', Keep (fun _ => False) wr W' → (W'.cell? ⟨tp, 2, none⟩ = some (.map (some mb)) ∧ (Instr.lookup 198 (.map (some mb)) (.int .i64 (c : Int)) false).run Tryz.prog W' = .ok (.pointer (some ⟨cp c, 0, none⟩)) W') from fun W' hk => ⟨(cells3 (HS.out.same hk).box).2.2.1, by
              have := (HS.out.look hk hcr).2
              rw [hasK_nat, decide_eq_true hcm2, if_pos rfl, Int.toNat_natCast] at this
              exact this⟩)
            have C6 := Lib.hid (show ∀ W' FC' col', Tb W' tp mb (.slice AI n cI) cp FC' sig sz ids col' → (W'.cell? ⟨tp, 2, none⟩ = some (.map (some mb)) ∧ (Instr.lookup 198 (.map (some mb)) (.int .i64 (c : Int)) false).run Tryz.prog W' = .ok (.pointer (some ⟨cp c, 0, none⟩)) W') from fun W' FC' col' ht => ⟨(cells3 ht.box).2.2.1, by
              have := (ht.look (Keep.refl _ _) hcr).2
              rw [hasK_nat, decide_eq_true hcm2, if_pos rfl, Int.toNat_natCast] at this
              exact this⟩)
            have CS := Lib.hid (fun W' (hk : Keep (fun _ => False) wr W') => col_size ((HS.out.same hk).cols c hcm2))
            have hsz := (HS.out.cols c hcm2).small
            have DA := Lib.hid (fun W' (hk : Keep (fun _ => False) wr W') => tb_data P _ F (c : Int) (sz c) W' ((HU.out.keep KX.out (fun b _ h e => HF.out b h e)).same hk) (by rw [HNP.out]; exact hP) (by omega))
            have CA := Lib.hid (fun W' (hk : Keep (fun _ => False) wr W') v G (hv : By W' G v (dataT P (c : Int) (sz c))) => col_add ((HS.out.same hk).cols c hcm2) _ v G hv)
            have GDc := Lib.hid (GOOD.out c hcm)
            have AC : Hid (addCode (sz c) (colA P sz col (L.take j2) c) (dataT P (c : Int) (sz c)) = 0) := by
              show addCode _ _ _ = 0
              unfold addCode colA
              rw [if_neg TNj.out, if_neg (fun h => h GDc.out), HH.out.2 c hcm2, if_neg (by omega)]
            rw [GDc.out] at DA
            have NX := Lib.hid (show ∀ W' W'', Keep (fun _ => False) wr W' → ColTo W' (cp c) (FCr c) (sz c) (if addCode (sz c) (colA P sz col (L.take j2) c) (dataT P (c : Int) (sz c)) = 0 then colA P sz col (L.take j2) c ++ [dataT P (c : Int) (sz c)] else colA P sz col (L.take j2) c) W'' → ∃ FCr, Tb W'' tp mb (.slice AI n cI) cp FCr sig sz ids (colA P sz col (L.take (j2 + 1))) ∧ Keep (TF tp mb (.slice AI n cI) FC sig) w2 W'' ∧ ∀ k, TF tp mb (.slice AI n cI) FCr sig k → TF tp mb (.slice AI n cI) FC sig k ∨ w2.heap.size ≤ k from fun W' W'' hk ht => by
              have hsW := hk.size
              obtain ⟨FC', t1, t2, t3⟩ := (HS.out.same hk).colTo hcm2 ht
              refine ⟨FC', t1.congr (fun d hd => ?_), (hkr2.out.trans (hk.mono (T := TF tp mb (.slice AI n cI) FCr sig) (fun _ _ h => h.elim)) (fun k hk e => (hfr.out k e).resolve_right (by omega))).trans t2 (fun k hk e => (hfr.out k e).resolve_right (by omega)), fun k hk => ?_⟩
              · rw [if_pos AC.out]
                by_cases e : d = c
                · subst e; rw [if_pos rfl]; unfold colA; rw [if_pos ((TMj.out d).2 (.inr rfl)), if_neg TNj.out]
                · rw [if_neg e]; unfold colA
                  by_cases e' : d ∈ L.take j2
                  · rw [if_pos e', if_pos ((TMj.out d).2 (.inl e'))]
                  · rw [if_neg e', if_neg (fun x => ((TMj.out d).1 x).elim e' e)]
              · rcases t3 k hk with e | e
                · exact hfr.out k e
                · exact .inr (by omega))
            obtain ⟨c0, c1, c2, cf⟩ := cells3 HS.out.box
            clear hst hcm hcm2 hcr
            generalize sz c = z at *
            generalize (dataT P (c : Int) z) = D at *
            go_upto_region 16 with fail
            go_region_held3 (fun W' => W'.cell? ⟨tp, 2, none⟩ = some (.map (some mb)) ∧ (Instr.lookup 198 (.map (some mb)) (.int .i64 (c : Int)) false).run Tryz.prog W' = .ok (.pointer (some ⟨cp c, 0, none⟩)) W') (first | exact C6.out _ _ _ H6.out.choose_spec.1 | exact CE.out _ (by exact (by repeat first | (with_reducible assumption) | (with_reducible exact Keep.refl _ _) | (with_reducible refine Keep.alloc ?_ _) | (with_reducible refine Keep.drew ?_) | (with_reducible refine Keep.drewN ?_ _) | (with_reducible refine Keep.setCell ?_ (.inl (by first | omega | (simp; done) | (simp; omega) | fail)) _)))) (first
              | (go_at_call 171; (with_reducible refine (CS.out _ (by exact (by repeat first | (with_reducible assumption) | (with_reducible exact Keep.refl _ _) | (with_reducible refine Keep.alloc ?_ _) | (with_reducible refine Keep.drew ?_) | (with_reducible refine Keep.drewN ?_ _) | (with_reducible refine Keep.setCell ?_ (.inl (by first | omega | (simp; done) | (simp; omega) | fail)) _)))).mono ?_); rintro e w4 ⟨rfl, rfl⟩)
              | (go_at_call 173; (with_reducible refine (DA.out _ (by exact (by repeat first | (with_reducible assumption) | (with_reducible exact Keep.refl _ _) | (with_reducible refine Keep.alloc ?_ _) | (with_reducible refine Keep.drew ?_) | (with_reducible refine Keep.drewN ?_ _) | (with_reducible refine Keep.setCell ?_ (.inl (by first | omega | (simp; done) | (simp; omega) | fail)) _)))).mono ?_); rintro e w5 ⟨A5, d5, rfl, hby5, hb5⟩; have k5 : Keep (fun _ => False) wr w5 := Keep.trans (by exact (by repeat first | (with_reducible assumption) | (with_reducible exact Keep.refl _ _) | (with_reducible refine Keep.alloc ?_ _) | (with_reducible refine Keep.drew ?_) | (with_reducible refine Keep.drewN ?_ _) | (with_reducible refine Keep.setCell ?_ (.inl (by first | omega | (simp; done) | (simp; omega) | fail)) _))) (Keep.of_below' hb5) (fun _ _ h => h); have HY := Lib.hid (show By w5 _ (.slice A5 z d5) D from hby5); clear hby5 hb5)
              | (go_at_call 174; (refine (CA.out _ (by exact (by repeat first | (with_reducible assumption) | (with_reducible exact Keep.refl _ _) | (with_reducible refine Keep.alloc ?_ _) | (with_reducible refine Keep.drew ?_) | (with_reducible refine Keep.drewN ?_ _) | (with_reducible refine Keep.setCell ?_ (.inl (by first | omega | (simp; done) | (simp; omega) | fail)) _))) _ _ HY.out).mono ?_); rintro e w6 ⟨rfl, ht⟩; have H6 := Lib.hid (NX.out _ _ (by exact (by repeat first | (with_reducible assumption) | (with_reducible exact Keep.refl _ _) | (with_reducible refine Keep.alloc ?_ _) | (with_reducible refine Keep.drew ?_) | (with_reducible refine Keep.drewN ?_ _) | (with_reducible refine Keep.setCell ?_ (.inl (by first | omega | (simp; done) | (simp; omega) | fail)) _))) ht); clear ht)
              | fail)
            all_goals
              clear c0 c1 c2 cf CE CS DA CA NX C6 HS hcl
              go_wp2
              go_roundw
              case rel => exact ⟨j2 + 1, by omega, by go_num, H6⟩
              case measure => simp [intOf]; omega
          · obtain rfl : j2 = j := by omega
            have f1 : ¬ (j2 : Int) < (j2 : Int) := by omega
            rw [TL.out] at hst
            obtain ⟨b0, b1, bf⟩ := cells2 ((hkr2.out.block w.heap.size (by omega) (fun e => by have := TLT.out _ e; omega)).trans HW.out)
            obtain ⟨c0, c1, c2, cf⟩ := cells3 hst.box
            have OW := Lib.hid (show Own wr 0 40 2 (.slice AI n cI) n (ids.flatMap idC) from by have := hst.own; rwa [HN.out] at this)
            have DONE := Lib.hid (show ∀ (w6 wX W' : World) (A : Option Addr) (c : Nat), Keep (fun _ => False) wr wX → Own w6 0 40 2 (.slice A (n + 1) c) (n + 1) ((ids ++ [x]).flatMap idC) → Keep (fun k => ownB (.slice AI n cI) = some k) wX w6 → (∀ k, ownB (.slice A (n + 1) c) = some k → ownB (.slice AI n cI) = some k ∨ wX.heap.size ≤ k) → Keep (fun _ => False) (w6.setCell ⟨tp, 1, none⟩ (.slice A (n + 1) c)) W' → TbTo w (TF tp mb (.slice AI n cI) FC sig) tp sig sz (addI sig sz ids x P) (addK n sig sz col P) W' from fun w6 wX W' A c k1 ho k2 hn' k3 => FIN.out HZ.out W' (by
              obtain ⟨t1, t2, t3⟩ := hst.grow x HN.out k1 ho k2 hn' (by omega)
              rw [HL.out]
              have hw : w.heap.size ≤ w2.heap.size := by omega
              refine ⟨mb, _, cp, FCr, t1.same k3, (KX.out.trans t2 (fun k hk e => (hfr.out k e).resolve_right (by omega))).trans k3 (fun _ _ h => h.elim), fun k hk => ?_⟩
              rcases t3 k hk with e | e
              · rcases hfr.out k e with e | e
                · exact .inl e
                · exact .inr (by omega)
              · exact .inr (by omega)))
            have HB6 := Lib.hid (show ∀ (w6 wX : World), Keep (fun _ => False) wr wX → Keep (fun k => ownB (.slice AI n cI) = some k) wX w6 → w6.heap[tp]? = _ from fun w6 wX k1 k2 => (((k1.mono (T := fun k => ownB (.slice AI n cI) = some k) (fun _ _ h => h.elim)).trans k2 (fun _ _ h => h)).block tp (hst.lt tp (.inl rfl)) hst.tp_vs).trans hst.box)
            have ER := Lib.hid (show (Value.int .i64 0) = .int .i64 (addC n sig sz P) by rw [HZ.out])
            have ha1 : ∀ o, (wr.alloc o).cell? ⟨tp, 1, none⟩ = some (.slice AI n cI) := fun o => ((Keep.refl (fun _ => False) wr).alloc o).cell (fun h => h) c1
            have ha2 : ∀ o, (wr.drew.alloc o).cell? ⟨tp, 1, none⟩ = some (.slice AI n cI) := fun o => ((Keep.refl (fun _ => False) wr.drew).alloc o).cell (fun h => h) c1
            clear hst c0 c2 cf
            go_upto_region 18 with fail
            go_region_law (first
              | ((refine step_name (by rfl) _ _ (by rfl) _ n ids HN.out (by rfl) (OW.out.keep (S := fun _ => False) (by exact (by repeat first | (with_reducible assumption) | (with_reducible exact Keep.refl _ _) | (with_reducible refine Keep.alloc ?_ _) | (with_reducible refine Keep.drew ?_) | (with_reducible refine Keep.drewN ?_ _) | (with_reducible refine Keep.setCell ?_ (.inl (by first | omega | (simp; done) | (simp; omega) | fail)) _))) (fun _ _ h => h)) _ _ x (by rfl) (by first | exact lit_cells _ _ _ 0 _ rfl | (rw [World.cell?_drew]; exact lit_cells _ _ _ 0 _ rfl)) (by first | exact lit_cells _ _ _ 1 _ rfl | (rw [World.cell?_drew]; exact lit_cells _ _ _ 1 _ rfl)) (by omega) ?_); intro A6 c6 w6 ho6 hk6 hn6; obtain ⟨y0, y1, y2, yf⟩ := cells3 (HB6.out w6 _ (by exact (by repeat first | (with_reducible assumption) | (with_reducible exact Keep.refl _ _) | (with_reducible refine Keep.alloc ?_ _) | (with_reducible refine Keep.drew ?_) | (with_reducible refine Keep.drewN ?_ _) | (with_reducible refine Keep.setCell ?_ (.inl (by first | omega | (simp; done) | (simp; omega) | fail)) _))) hk6); have HE := Lib.hid (fun W' => DONE.out w6 _ W' A6 c6 (by exact (by repeat first | (with_reducible assumption) | (with_reducible exact Keep.refl _ _) | (with_reducible refine Keep.alloc ?_ _) | (with_reducible refine Keep.drew ?_) | (with_reducible refine Keep.drewN ?_ _) | (with_reducible refine Keep.setCell ?_ (.inl (by first | omega | (simp; done) | (simp; omega) | fail)) _))) ho6 hk6 hn6); clear ho6 hk6 hn6)
              | fail)
            all_goals
              go_wp2
              go_ret
              exact ⟨by rw [← ER.out]; rfl, HE.out _ (by repeat first | (with_reducible assumption) | (with_reducible exact Keep.refl _ _) | (with_reducible refine Keep.alloc ?_ _) | (with_reducible refine Keep.drew ?_) | (with_reducible refine Keep.drewN ?_ _) | (with_reducible refine Keep.setCell ?_ (.inl (by first | omega | (simp; done) | (simp; omega) | fail)) _))⟩
end
end Go.Proofs.YtglliendhbkkhaaGreatDoor
namespace Go.Proofs.YtglliendhbkkhaaGreatDoor
open Go.RowKit
open Go.Maps (Keyed)
set_option maxRecDepth 100000
set_option linter.unusedVariables false
set_option linter.unusedSimpArgs false

section
variable {P : Program} {k : TypeId} {b n : Nat} {f g : Value → Option Value} {w : World} {ops : Array Oper}
end
/-- One column more in the map. -/
theorem colF_put {D D' : List Nat} {cp : Nat → Nat} {c p : Nat} (hD : ∀ d, d ∈ D' ↔ d ∈ D ∨ d = c) : ∀ v l, keyOf Tryz.prog 3 v = some l → (v = .int .i64 (c : Int) → colF D' (fun d => if d = c then p else cp d) v = some (.pointer (some ⟨p, 0, none⟩))) ∧ (v ≠ .int .i64 (c : Int) → colF D' (fun d => if d = c then p else cp d) v = colF D cp v) := by
  intro v l hv
  obtain ⟨z, rfl⟩ := keyInt_inv hv
  refine ⟨fun e => ?_, fun e => ?_⟩
  · injection e with _ e
    subst e
    show (if 0 ≤ (c : Int) ∧ (c : Int).toNat ∈ D' then _ else _) = _
    rw [if_pos ⟨by omega, by rw [Int.toNat_natCast]; exact (hD c).2 (.inr rfl)⟩, Int.toNat_natCast]
    simp only [if_pos]
  · have hz : ¬ (0 ≤ z ∧ z.toNat = c) := fun h => e (by rw [show z = (c : Int) by omega])
    show (if 0 ≤ z ∧ z.toNat ∈ D' then _ else _) = (if 0 ≤ z ∧ z.toNat ∈ D then _ else _)
    by_cases h : 0 ≤ z ∧ z.toNat ∈ D
    · rw [if_pos h, if_pos ⟨h.1, (hD _).2 (.inl h.2)⟩]
      simp only [if_neg (show ¬ z.toNat = c from fun e => hz ⟨h.1, e⟩)]
    · rw [if_neg h, if_neg (fun h' => h ⟨h'.1, ((hD _).1 h'.2).resolve_right (fun e => hz ⟨h'.1, e⟩)⟩)]
/-- A table that is made: the columns of D are there. -/
structure TbN (w : World) (lo tp mb : Nat) (cp : Nat → Nat) (FC : Nat → Nat → Prop) (s : Nat) (sz : Nat → Nat) (D : List Nat) : Prop where
  lo1 : lo ≤ tp
  lo2 : lo ≤ mb
  box : w.heap[tp]? = some (.cells #[.int .u64 (s : Int), .slice none 0 0, .map (some mb)] 200 (0, 0))
  map : ∃ N, N ≤ D.length ∧ MapV w Tryz.prog 3 mb N (colF D cp)
  cols : ∀ c, c ∈ D → Col w (cp c) (FC c) (sz c) []
  ntp : ∀ c k, c ∈ D → FC c k → lo ≤ k ∧ k ≠ tp ∧ k ≠ mb
  apart : ∀ c d k, c ∈ D → d ∈ D → c ≠ d → FC c k → ¬ FC d k
section
variable {w w' : World} {lo tp mb : Nat} {cp : Nat → Nat} {FC : Nat → Nat → Prop} {s : Nat} {sz : Nat → Nat} {D : List Nat}
theorem TbN.tplt (h : TbN w lo tp mb cp FC s sz D) : tp < w.heap.size := (Array.getElem?_eq_some_iff.1 h.box).1
theorem TbN.mblt (h : TbN w lo tp mb cp FC s sz D) : mb < w.heap.size := by obtain ⟨N, _, hm⟩ := h.map; exact hm.lt
theorem TbN.same (h : TbN w lo tp mb cp FC s sz D) (hk : Keep (fun _ => False) w w') : TbN w' lo tp mb cp FC s sz D := by
  obtain ⟨N, hN, hm⟩ := h.map
  exact ⟨h.lo1, h.lo2, (hk.block tp h.tplt (fun h => h)).trans h.box, ⟨N, hN, hm.keep hk (fun h => h)⟩, fun c hc => col_keep (h.cols c hc) hk (fun _ _ h => h), h.ntp, h.apart⟩
theorem TbN.tp_mb (h : TbN w lo tp mb cp FC s sz D) : tp ≠ mb := by obtain ⟨N, _, hm⟩ := h.map; exact hm.ne_cells h.box
theorem TbN.map_ (h : TbN w lo tp mb cp FC s sz D) : MapV w Tryz.prog 3 mb D.length (colF D cp) := by obtain ⟨N, hN, hm⟩ := h.map; exact hm.mono hN
/-- One column more. -/
theorem TbN.next (h : TbN w lo tp mb cp FC s sz D) {wX w5 : World} {c p : Nat} {F : Nat → Prop} (hlo : lo ≤ w.heap.size) (hk : Keep (fun _ => False) w wX) (hcol : Col wX p F (sz c) []) (hF : ∀ k, F k → w.heap.size ≤ k) (hc : c ∉ D) {D' : List Nat} (hD : ∀ d, d ∈ D' ↔ d ∈ D ∨ d = c) (hlen : D'.length = D.length + 1)
    (hm : MapV w5 Tryz.prog 3 mb (D.length + 1) (colF D' (fun d => if d = c then p else cp d))) (hk5 : Keep (fun x => x = mb) wX w5) : TbN w5 lo tp mb (fun d => if d = c then p else cp d) (fun d => if d = c then F else FC d) s sz D' := by
  have h1 := h.same hk
  have hsz := hk.size
  refine ⟨h.lo1, h.lo2, (hk5.block tp h1.tplt h.tp_mb).trans h1.box, ⟨_, by omega, hm⟩, fun d hd => ?_, fun d k hd e => ?_, fun d d' k hd hd' hne e => ?_⟩
  · by_cases e : d = c
    · subst e; simp only [if_pos]; exact col_keep hcol hk5 (fun k e e2 => by have := hF k e; have := h.mblt; omega)
    · simp only [if_neg e]
      exact col_keep (h1.cols d (((hD d).1 hd).resolve_right e)) hk5 (fun k e' => (h.ntp d k (((hD d).1 hd).resolve_right e) e').2.2)
  · by_cases e' : d = c
    · simp only [e', if_pos] at e
      have := hF k e
      have := h.tplt
      have := h.mblt
      exact ⟨by omega, by omega, by omega⟩
    · simp only [if_neg e'] at e
      exact h.ntp d k (((hD d).1 hd).resolve_right e') e
  · by_cases e1 : d = c
    · have e2 : ¬ d' = c := fun x => hne (e1.trans x.symm)
      simp only [e1, if_pos] at e
      simp only [if_neg e2]
      intro e3
      have := hF k e
      have := (h.cols d' (((hD d').1 hd').resolve_right e2)).lt k e3
      omega
    · simp only [if_neg e1] at e
      have hd1 := ((hD d).1 hd).resolve_right e1
      by_cases e2 : d' = c
      · simp only [e2, if_pos]
        intro e3
        have := hF k e3
        have := (h.cols d hd1).lt k e
        omega
      · simp only [if_neg e2]
        exact h.apart d d' k hd1 (((hD d').1 hd').resolve_right e2) hne e
/-- It is a table. -/
theorem TbN.tb (h : TbN w lo tp mb cp FC s sz (bl s 64)) (hs : s < 18446744073709551616) : Tb w tp mb (.slice none 0 0) cp FC s sz [] (fun _ => []) ∧ MapV w Tryz.prog 3 mb 64 (colF (bl s 64) cp) ∧ ∀ k, TF tp mb (.slice none 0 0) FC s k → lo ≤ k := by
  have hl := bl_len s 64
  refine ⟨⟨hs, h.box, Own.none_ _ _ _ _ _, ⟨_, by omega, h.map_⟩, h.cols, by simp, fun c hc e => (h.ntp c tp hc e).2.1 rfl, fun c hc e => (h.ntp c mb hc e).2.2 rfl, fun c k hc e => (by cases e), h.apart⟩, h.map_.mono hl, fun k hk => ?_⟩
  rcases hk with e | e | e | ⟨c, hc, e⟩
  · rw [e]; exact h.lo1
  · rw [e]; exact h.lo2
  · cases e
  · exact (h.ntp c k hc e).1
end
/-- The table that a call makes. -/
def TbNew (w : World) (sig : Nat) (sz : Nat → Nat) (ids : List IdZ) (col : Nat → List (List UInt8)) (tp : Nat) (w' : World) : Prop :=
  ∃ mb vs cp FC, Tb w' tp mb vs cp FC sig sz ids col ∧ Below w.heap.size w w' ∧ ∀ k, TF tp mb vs FC sig k → w.heap.size ≤ k
/-- A table with no rows, just made. -/
def TbFresh (w : World) (sig : Nat) (sz : Nat → Nat) (tp : Nat) (w' : World) : Prop :=
  ∃ mb cp FC, Tb w' tp mb (.slice none 0 0) cp FC sig sz [] (fun _ => []) ∧ MapV w' Tryz.prog 3 mb 64 (colF (bl sig 64) cp) ∧ Below w.heap.size w w' ∧ ∀ k, TF tp mb (.slice none 0 0) FC sig k → w.heap.size ≤ k
theorem TbFresh.new {w w' : World} {sig tp : Nat} {sz : Nat → Nat} (h : TbFresh w sig sz tp w') : TbNew w sig sz [] (fun _ => []) tp w' := by
  obtain ⟨mb, cp, FC, h1, _, h2, h3⟩ := h
  exact ⟨mb, _, cp, FC, h1, h2, h3⟩
def szOf (l : List Cp) (c : Nat) : Nat := clampN (szAt l c)
def allOf (l : List Cp) : Nat := orL (idxL l.length) 0
theorem allOf_lt (l : List Cp) : allOf l < 18446744073709551616 := orL_lt _ 0 (by decide)
theorem bl_all {l : List Cp} {s c : Nat} (h : c ∈ bl (s &&& allOf l) 64) : c < l.length := by
  have h1 := ((bl_mem _ 64 c).1 h).2
  rw [Nat.testBit_and, Bool.and_eq_true] at h1
  have h2 := h1.2
  unfold allOf at h2
  rw [orL_testBit] at h2
  simp [idxL] at h2
  obtain ⟨-, x, h3, h4⟩ := h2
  omega
set_option maxHeartbeats 1000000 in
theorem tnew_any (c : Cf) (u : Value) (F : Nat → Prop) (sig : Nat) (hs : sig < 18446744073709551616) (w : World) (hu : CL w F u c.l) (h40 : c.l.length ≤ 1000) (hT : Tab w) :
    Calls Tryz.prog 53 #[confV c u, .int .u64 (sig : Int)] w fun e w' => ∃ tp, e = .returned (.pointer (some ⟨tp, 0, none⟩)) ∧ TbFresh w (sig &&& allOf c.l) (szOf c.l) tp w' := by
  have hmm := @run_makeMap Tryz.prog
  have hu0 := hu
  obtain ⟨A, cap, rfl, hnc, hcm, -⟩ := hu
  have B0 := Lib.hid (BF.first hu0)
  have HT := Lib.hid hT
  have HU := Lib.hid hu0
  unfold confV
  obtain ⟨log, pages, ents, gens, l⟩ := c
  simp only at hnc hu0 B0 h40 HU ⊢
  have H40 := Lib.hid h40
  obtain ⟨n, hn⟩ : ∃ n, n = l.length := ⟨_, rfl⟩
  have HN := Lib.hid hn
  rw [← hn] at hnc hu0 B0 HU ⊢
  clear hn hcm hT
  go_enter Tryz.func53, Tryz.ntmps53
  go_upto_region 1 with fail
  refine wp_world (S := BF w F ⟨log, pages, ents, gens, l⟩ (.slice A n cap)) B0.out ?_
  intro X hX
  have HX := Lib.hid hX
  clear hX hu0 B0
  obtain ⟨x0, x1, x2, x3, x4, xf⟩ := cells5 HX.out.1
  go_wp2_with fail
  have CA := call_any ⟨log, pages, ents, gens, l⟩ (.slice A n cap) F X HX.out.2.1 H40.out
  unfold confV at CA
  with_reducible refine CA.mono ?_
  rintro e w1 ⟨rfl, hb1⟩
  have HB1 := Lib.hid hb1
  clear hb1 x0 x1 x2 x3 x4 xf
  have hall := allOf_lt l
  have EA := Lib.hid (show orL (idxL l.length) 0 = allOf l from rfl)
  rw [EA.out]
  go_upto_region 2 with fail
  have AN := u64_and_nat sig (allOf l) hs hall
  have hsz1 : w.heap.size < w1.heap.size := by have h1 := HB1.out.size; have h2 := (Array.getElem?_eq_some_iff.1 HX.out.1).1; omega
  have hltS : sig &&& allOf l < 18446744073709551616 := Nat.lt_of_le_of_lt Nat.and_le_left hs
  have BALL := Lib.hid (fun c (hc : c ∈ bl (sig &&& allOf l) 64) => bl_all hc)
  rw [AN]
  obtain ⟨s, hse⟩ : ∃ s, sig &&& allOf l = s := ⟨_, rfl⟩
  rw [hse] at hltS BALL ⊢
  have HSE := Lib.hid hse
  clear hse AN
  refine wp_world (S := fun W => TbN W w.heap.size (w1.heap.size + 1) w1.heap.size (fun _ => 0) (fun _ _ => False) s (szOf l) [] ∧ Keep (fun _ => False) w1 W) ?c0 ?_
  case c0 =>
    have hm0 := MapV.made w1 Tryz.prog 3
    have hm1 := hm0.keep (S := fun _ => False) ((Keep.refl _ _).alloc (.cells #[.int .u64 (s : Int), .slice none 0 0, .map (some w1.heap.size)] 200)) (fun h => h)
    exact ⟨⟨by omega, by omega, heap_alloc_at _ _ _ (by simp), ⟨0, by simp, hm1.congr (fun v l hv => by obtain ⟨z, rfl⟩ := keyInt_inv hv; show none = (if 0 ≤ z ∧ z.toNat ∈ ([] : List Nat) then _ else _); rw [if_neg (by simp)])⟩, fun c hc => by simp at hc, fun c k hc => by simp at hc, fun c d k hc => by simp at hc⟩, ((Keep.refl _ w1).alloc _).alloc _⟩
  intro W2 hW2
  have H2 := Lib.hid hW2
  clear hW2
  have K02 := Lib.hid (show Keep (fun _ => False) w W2 from ((Keep.of_below' HX.out.2.2).trans (Keep.of_below' HB1.out) (fun _ _ h => h)).trans H2.out.2 (fun _ _ h => h))
  have HC2 := Lib.hid (show W2.heap[w.heap.size]? = some (.cells #[.int .i64 log, .int .i64 pages, .int .i64 ents, .int .i64 gens, .slice A n cap] 24 (0, 0)) from (H2.out.2.block _ hsz1 (fun h => h)).trans ((HB1.out.block _ (Array.getElem?_eq_some_iff.1 HX.out.1).1).trans HX.out.1))
  have BL := Lib.hid (bitsList_any s hltS W2 (HT.out.same K02.out))
  obtain ⟨c0, c1, c2, cf⟩ := cells3 H2.out.1.box
  go_wp2_with fail
  with_reducible refine BL.out.mono ?_
  rintro e w3 ⟨u1, rfl, ho1, hb3⟩
  obtain ⟨A1, d1, rfl, -⟩ := ho1.form
  have H3 := Lib.hid (show Sl w3 (fun k => W2.heap.size ≤ k) 1 (.slice A1 (bl s 64).length d1) (bl s 64).length (iv (ints (bl s 64))) ∧ Keep (fun _ => False) W2 w3 from ⟨ho1.sl, Keep.of_below' hb3⟩)
  clear ho1 hb3 c0 c1 c2 cf BL CA
  have KW3 := Lib.hid (show TbN w3 w.heap.size (w1.heap.size + 1) w1.heap.size (fun _ => 0) (fun _ _ => False) s (szOf l) [] from H2.out.1.same H3.out.2)
  have hsz3 : w1.heap.size + 2 ≤ w3.heap.size := by have := KW3.out.tplt; omega
  have hsz2 : w1.heap.size + 2 ≤ W2.heap.size := by have := H2.out.1.tplt; omega
  have ME := Lib.hid (fun j (hj : j < (bl s 64).length) => getD_mem hj)
  have L64 := bl_len s 64
  have TM := Lib.hid (fun j (hj : j < (bl s 64).length) => take_next_mem hj)
  have TN := Lib.hid (fun j (hj : j < (bl s 64).length) => take_next_not hj (bl_nodup s 64))
  have TL := Lib.hid (show (bl s 64).take (bl s 64).length = bl s 64 from List.take_length)
  have LT64 := Lib.hid (fun c (hc : c ∈ bl s 64) => bl_lt hc)
  obtain ⟨L, hL⟩ : ∃ L, bl s 64 = L := ⟨_, rfl⟩
  have HL := Lib.hid hL
  rw [hL] at H3 ME L64 TM TN TL LT64 BALL ⊢
  clear hL
  obtain ⟨m, hm⟩ : ∃ m, L.length = m := ⟨_, rfl⟩
  have HM := Lib.hid hm
  rw [hm] at H3 ME TM TN TL L64 ⊢
  clear hm
  go_wp2
  go_loopw [23] (fun i wr => ∃ j : Nat, j ≤ m ∧ i = .int .i64 (j : Int) ∧ Hid (∃ cp FC, TbN wr w.heap.size (w1.heap.size + 1) w1.heap.size cp FC s (szOf l) (L.take j)) ∧ Hid (Keep (fun x => x = w1.heap.size) w3 wr)) (fun i _ => m - (intOf i).toNat)
  case atStart => exact ⟨0, by omega, rfl, Lib.hid ⟨_, _, KW3.out⟩, Lib.hid (Keep.refl _ _)⟩
  case round =>
    obtain ⟨j, hj, rfl, ⟨cp, FC, hst⟩, hkr⟩ := hrel
    have HS := Lib.hid hst
    have hzr := hkr.out.size
    have hszw := hkr.out.size
    by_cases hlt : j < m
    · have f1 : (j : Int) < (m : Int) := by omega
      have f0 : (0 : Int) ≤ (j : Int) := by omega
      obtain ⟨b1, o1, rfl, hcl⟩ := ints_at (H3.out.1.keep hkr.out (fun k _ h e => by omega)) HM.out hlt
      have hcm := ME.out j hlt
      have TMj := Lib.hid (TM.out j hlt)
      have TNj := Lib.hid (TN.out j hlt)
      generalize L.getD j 0 = c at *
      have hcn := BALL.out c hcm
      have hc64 := LT64.out c hcm
      have KX := Lib.hid (show Keep (fun x => w.heap.size ≤ x) w wr from ((K02.out.trans H3.out.2 (fun _ _ h => h)).mono (T := fun x => w.heap.size ≤ x) (fun _ _ h => h.elim)).trans hkr.out (fun x _ e => by omega))
      have CLr := HU.out.keep KX.out (fun b hb _ h => by omega)
      have hcr : wr.heap[w.heap.size]? = some (.cells #[.int .i64 log, .int .i64 pages, .int .i64 ents, .int .i64 gens, .slice A n cap] 24 (0, 0)) := (hkr.out.block _ (by omega) (fun e => by omega)).trans ((H3.out.2.block _ (by omega) (fun h => h)).trans HC2.out)
      obtain ⟨x0, x1, x2, x3, x4, xf⟩ := cells5 hcr
      have CS := csize_any ⟨log, pages, ents, gens, l⟩ _ F (c : Int) wr CLr (by omega) (by omega)
      unfold confV at CS
      simp only at CS
      rw [if_pos ⟨by omega, by omega⟩, decide_eq_true (show 0 ≤ (c : Int) ∧ (c : Int) < (l.length : Int) by omega), Int.toNat_natCast] at CS
      have CS := Lib.hid CS
      clear hst CLr hcr
      have SZ := Lib.hid (show clampN (szAt l c) = szOf l c from rfl)
      generalize szAt l c = z at *
      go_wp2_with fail
      with_reducible refine CS.out.mono ?_
      rintro e w4 ⟨rfl, hb4⟩
      have K4 := Lib.hid (show Keep (fun _ => False) wr w4 from Keep.of_below' hb4)
      clear hb4 CS x0 x1 x2 x3 x4 xf hcl
      have CE := Lib.hid (show ∀ W', Keep (fun _ => False) w4 W' → W'.cell? ⟨w1.heap.size + 1, 2, none⟩ = some (.map (some w1.heap.size)) from fun W' hk => (cells3 ((HS.out.same (K4.out.trans hk (fun _ _ h => h))).box)).2.2.1)
      have NWc := Lib.hid (fun W => col_new z W)
      rw [SZ.out] at NWc
      have hcr2 : -9223372036854775808 ≤ (c : Int) ∧ (c : Int) ≤ 9223372036854775807 := by omega
      have KI := Lib.hid (keyInt (c : Int) hcr2)
      have LJ := Lib.hid (show (L.take j).length = j by rw [List.length_take, HM.out]; omega)
      have LJ1 := Lib.hid (show (L.take (j + 1)).length = (L.take j).length + 1 by rw [List.length_take, List.length_take, HM.out]; omega)
      have LMX := Lib.hid (show (L.take j).length < maxLen by rw [LJ.out]; unfold maxLen; omega)
      have NXX := Lib.hid (show ∀ (p : Nat) (F : Nat → Prop) (wX w6 : World), Keep (fun _ => False) w4 wX → Col wX p F (szOf l c) [] → (∀ k, F k → w4.heap.size ≤ k) → MapV w6 Tryz.prog 3 w1.heap.size ((L.take j).length + 1) (colF (L.take (j + 1)) (fun d => if d = c then p else cp d)) → Keep (fun x => x = w1.heap.size) wX w6 → Hid (∃ cp FC, TbN w6 w.heap.size (w1.heap.size + 1) w1.heap.size cp FC s (szOf l) (L.take (j + 1))) ∧ Hid (Keep (fun x => x = w1.heap.size) w3 w6) ∧ w6.cell? ⟨w1.heap.size + 1, 2, none⟩ = some (.map (some w1.heap.size)) from fun p F wX w6 k1 hc hf hm k2 => by
        have T4 := (HS.out.same K4.out).next (D' := L.take (j + 1)) (by have := K4.out.size; omega) k1 hc hf TNj.out TMj.out LJ1.out hm k2
        exact ⟨⟨_, _, T4⟩, (hkr.out.trans ((K4.out.trans k1 (fun _ _ h => h)).mono (T := fun x => x = w1.heap.size) (fun _ _ h => h.elim)) (fun _ _ h => h)).trans k2 (fun _ _ h => h), (cells3 T4.box).2.2.1⟩)
      have MV := Lib.hid (show ∀ W', Keep (fun _ => False) w4 W' → MapV W' Tryz.prog 3 w1.heap.size (L.take j).length (colF (L.take j) cp) from fun W' hk => (HS.out.same (K4.out.trans hk (fun _ _ h => h))).map_)
      have PUT := Lib.hid (fun p => colF_put (cp := cp) (p := p) TMj.out)
      go_upto_region 6 with fail
      go_region_held3 (fun W' => W'.cell? ⟨w1.heap.size + 1, 2, none⟩ = some (.map (some w1.heap.size))) (first | exact H6.out.2.2 | exact CE.out _ (by exact (by repeat first | (with_reducible assumption) | (with_reducible exact Keep.refl _ _) | (with_reducible refine Keep.alloc ?_ _) | (with_reducible refine Keep.drew ?_) | (with_reducible refine Keep.drewN ?_ _) | (with_reducible refine Keep.setCell ?_ (.inl (by first | omega | (simp; done) | (simp; omega) | fail)) _)))) (first
        | (go_at_call 106; (with_reducible refine (NWc.out _).mono ?_); rintro e w5 ⟨p, Foot, rfl, hcol, hb5, hf5⟩; have k45 : Keep (fun _ => False) w4 _ := (by repeat first | (with_reducible assumption) | (with_reducible exact Keep.refl _ _) | (with_reducible refine Keep.alloc ?_ _) | (with_reducible refine Keep.drew ?_) | (with_reducible refine Keep.drewN ?_ _) | (with_reducible refine Keep.setCell ?_ (.inl (by first | omega | (simp; done) | (simp; omega) | fail)) _)); have k5 : Keep (fun _ => False) w4 w5 := Keep.trans (by exact (by repeat first | (with_reducible assumption) | (with_reducible exact Keep.refl _ _) | (with_reducible refine Keep.alloc ?_ _) | (with_reducible refine Keep.drew ?_) | (with_reducible refine Keep.drewN ?_ _) | (with_reducible refine Keep.setCell ?_ (.inl (by first | omega | (simp; done) | (simp; omega) | fail)) _))) (Keep.of_below' hb5) (fun _ _ h => h); have H5 := Lib.hid (And.intro hcol (show ∀ k, Foot k → w4.heap.size ≤ k from fun k hk => hf5 k hk)); clear hcol hb5 hf5)
        | (obtain ⟨w6, hrun, hm6, hk6⟩ := (MV.out w5 k5).update keyedInt (g := colF (L.take (j + 1)) (fun d => if d = c then p else cp d)) Tryz.underlying198 LMX.out (.pointer (some ⟨p, 0, none⟩)) KI.out (PUT.out p); rw [hrun]; have H6 := Lib.hid (NXX.out p Foot _ w6 k5 H5.out.1 H5.out.2 hm6 hk6); clear hrun hm6 hk6; go_simp)
        | fail)
      all_goals
        have H7 := Lib.hid (And.intro H6.out.1 H6.out.2.1)
        clear CE NWc MV NXX PUT
        go_wp2
        go_roundw
        case rel => exact ⟨j + 1, by omega, by go_num, H7.out.1, H7.out.2⟩
        case measure => simp [intOf]; omega
    · obtain rfl : j = m := by omega
      have f1 : ¬ (j : Int) < (j : Int) := by omega
      rw [TL.out] at hst
      have HF := Lib.hid (show TbFresh w (sig &&& allOf l) (szOf l) (w1.heap.size + 1) wr from by
        rw [HSE.out]
        rw [← HL.out] at hst
        obtain ⟨t1, t0, t2⟩ := hst.tb hltS
        exact ⟨_, _, _, t1, t0, ((K02.out.trans H3.out.2 (fun _ _ h => h)).mono (T := fun x => w.heap.size ≤ x) (fun _ _ h => h.elim)).trans hkr.out (fun x _ e => by omega) |>.to_below (Nat.le_refl _), t2⟩)
      go_wp2
      go_ret
      exact ⟨_, rfl, HF.out⟩
end Go.Proofs.YtglliendhbkkhaaGreatDoor

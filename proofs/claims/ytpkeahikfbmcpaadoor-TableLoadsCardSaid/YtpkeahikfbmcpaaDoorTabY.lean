/- Contract of vivariumlaw09.same. -/
import Derived.Test.YtpkeahikfbmcpaaDoorTabU
import Derived.Test.YtpkeahikfbmcpaaDoorBits6
import Derived.Deep.DeepCutAuto
namespace Go.Proofs.YtpkeahikfbmcpaaDoor
open Go.RowKit
set_option maxRecDepth 100000
set_option linter.unusedVariables false
set_option linter.unusedSimpArgs false

theorem sl_rd {W : World} {F : Nat → Prop} {A : Option Addr} {n c : Nat} {xs : List Value} (h : Sl W F 1 (.slice A n c) n xs) : Rd W F A n xs := by
  obtain ⟨A9, c9, e9, _, _, _, h9⟩ := h
  injection e9 with e91 e92 e93
  subst e91
  rwa [Nat.mul_one] at h9
section
variable {sig : Nat} {sz : Nat → Nat} {ids : List IdZ} {col : Nat → List (List UInt8)}
theorem map_getD_range {α : Type} (d : α) (l : List α) {n : Nat} (h : l.length = n) : (List.range n).map (fun i => l.getD i d) = l := by
  apply List.ext_getElem?
  intro i
  rw [List.getElem?_map]
  by_cases hi : i < n
  · rw [List.getElem?_range hi]
    show some (l.getD i d) = _
    rw [List.getD_eq_getElem?_getD, List.getElem?_eq_getElem (by omega)]; rfl
  · rw [List.getElem?_eq_none (by simpa using hi), List.getElem?_eq_none (by omega)]; rfl
theorem rowsT_ids : (rowsT sig ids col).map (·.id) = ids := by
  unfold rowsT
  rw [List.map_map]
  exact map_getD_range default ids rfl
theorem idxOf_ixL {L : List Nat} {c : Nat} : L.idxOf c = ixL L (c : Int) := by
  unfold ixL List.idxOf
  congr 1
  funext x
  by_cases h : x = c
  · subst h; simp
  · have h2 : ¬ ((x : Int) = (c : Int)) := by omega
    rw [decide_eq_false h2]
    exact beq_eq_false_iff_ne.2 h
theorem rowsT_col (hl : ∀ c, c ∈ bl sig 64 → (col c).length = ids.length) {c : Nat} (hc : c ∈ bl sig 64) : colR (rowsT sig ids col) ((bl sig 64).idxOf c) = (col c).flatten := by
  unfold colR rowsT
  rw [List.map_map, idxOf_ixL]
  have hk : ixL (bl sig 64) (c : Int) < (bl sig 64).length := ixL_mem.2 ⟨by omega, by simpa using hc⟩
  congr 1
  have e : ((fun r : EnZ => (r.parts.getD (ixL (bl sig 64) (c : Int)) default).data) ∘ fun i => (⟨ids.getD i default, rowT sig col i⟩ : EnZ)) = fun i => (col c).getD i [] := by
    funext i
    simp only [Function.comp]
    rw [rowT_at hk]
    simp only [Int.toNat_natCast]
  rw [e]
  exact map_getD_range [] (col c) (hl c hc)
theorem rowsT_small {w : World} {tp mb : Nat} {vs : Value} {cp : Nat → Nat} {FC : Nat → Nat → Prop} (h : Tb w tp mb vs cp FC sig sz ids col) (r : EnZ) (hr : r ∈ rowsT sig ids col) (p : PtZ) (hp : p ∈ r.parts) : p.data.length ≤ 65536 := by
  unfold rowsT at hr
  obtain ⟨i, _, e⟩ := List.mem_map.1 hr
  subst e
  dsimp only at hp
  unfold rowT at hp
  obtain ⟨c, hc, e⟩ := List.mem_map.1 hp
  subst e
  have hcol := h.cols c hc
  by_cases hi : i < (col c).length
  · have e : (col c).getD i [] = (col c)[i] := by rw [List.getD_eq_getElem?_getD, List.getElem?_eq_getElem hi]; rfl
    show ((col c).getD i []).length ≤ 65536
    rw [e, hcol.wide _ (List.getElem_mem hi)]
    have := hcol.small
    omega
  · have e : (col c).getD i [] = [] := by rw [List.getD_eq_getElem?_getD, List.getElem?_eq_none (by omega)]; rfl
    show ((col c).getD i []).length ≤ 65536
    rw [e]; simp
end
section
variable {w : World} {tp mb : Nat} {vs : Value} {cp : Nat → Nat} {FC : Nat → Nat → Prop} {sig : Nat} {sz : Nat → Nat} {ids : List IdZ} {col : Nat → List (List UInt8)}
set_option maxHeartbeats 1000000 in
theorem same09 (h : Tb w tp mb vs cp FC sig sz ids col) (hl : ∀ c, c ∈ bl sig 64 → (col c).length = ids.length) (u : Value) (G : Nat → Prop) (hr : RT w G u (bl sig 64) sz (rowsT sig ids col)) (k : Int) (hk : -9223372036854775808 ≤ k ∧ k ≤ 9223372036854775807) :
    Calls Tryd.prog 14 #[.pointer (some ⟨tp, 0, none⟩), u, .int .i64 k] w fun e w' => e = .returned (.bool true) ∧ Below w.heap.size w w' := by
  have hlt64 := h.lt64
  have hfew := h.few
  have TC := Lib.hid (fun W (hk' : Keep (fun _ => False) w W) => tb_column (h.same hk') k hk)
  have TS := Lib.hid (fun W (hk' : Keep (fun _ => False) w W) => tb_sig (h.same hk'))
  have TL := Lib.hid (fun W (hk' : Keep (fun _ => False) w W) => tb_len (h.same hk'))
  have TI := Lib.hid (fun W (hk' : Keep (fun _ => False) w W) => tb_ids (h.same hk'))
  have RC := Lib.hid (fun W (hk' : Keep (fun _ => False) w W) => ref_column (hr.same hk') (bl_nodup sig 64) (fun c hc => bl_lt hc) (bl_len sig 64) (by rw [rowsT_len]; omega) (rowsT_parts rfl) (rowsT_small h) k)
  have RI := Lib.hid (fun W (hk' : Keep (fun _ => False) w W) => ref_ids (hr.same hk') (by rw [rowsT_len]; omega))
  rw [rowsT_len, rowsT_ids] at RI
  have EB : (if 0 ≤ k ∧ k.toNat ∈ bl sig 64 then colR (rowsT sig ids col) ((bl sig 64).idxOf k.toNat) else []) = (if hasK sig k = true then (col k.toNat).flatten else []) := by
    unfold hasK
    by_cases e : 0 ≤ k ∧ k.toNat ∈ bl sig 64
    · rw [if_pos e, decide_eq_true e, if_pos rfl, rowsT_col hl e.2]
    · rw [if_neg e, decide_eq_false e, if_neg (by decide)]
  have EK : decide (0 ≤ k ∧ k.toNat ∈ bl sig 64) = hasK sig k := by unfold hasK; with_reducible rfl
  rw [EB, EK] at RC
  clear EB EK
  obtain ⟨Ac, cc, As, cs, Ar, cr, rfl, hc1, hc2, hs1, hs2, hr1, hr2, k1, k2, k3⟩ := hr.form
  rw [rowsT_len] at RI RC hr1 ⊢
  have OF := Lib.hid (fun W (hk' : Keep (fun _ => False) w W) => refOf_any (ints (bl sig 64)) Ac (bl sig 64).length cc G W (sl_rd (k1.keep hk' (fun _ _ _ h => h))) (by have := bl_len sig 64; omega))
  rw [of_bl sig hlt64] at OF
  unfold maxLen at hr2
  clear h hl hr k1 k2 k3 hc1 hc2 hs1 hs2
  generalize (if hasK sig k = true then (col k.toNat).flatten else []) = bb at *
  generalize hasK sig k = ok at *
  generalize (bl sig 64).length = m at *
  obtain ⟨n, hn⟩ : ∃ n, ids.length = n := ⟨_, rfl⟩
  have HN := Lib.hid hn
  rw [hn] at TI RI TL hfew hr1 RC ⊢
  clear hn
  go_enter Tryd.func14, Tryd.ntmps14
  go_wp2_with fail
  with_reducible refine (TC.out _ (by exact (by repeat first | (with_reducible assumption) | (with_reducible exact Keep.refl _ _) | (with_reducible refine Keep.alloc ?_ _) | (with_reducible refine Keep.drew ?_) | (with_reducible refine Keep.drewN ?_ _) | (with_reducible refine Keep.setCell ?_ (.inl (by first | omega | (simp; done) | (simp; omega) | fail)) _)))).mono ?_
  rintro e w1 ⟨A1, n1, c1, rfl, hby1, hb1⟩
  have hz1 := hb1.size
  have B1 := Lib.hid (show Keep (fun _ => False) w w1 ∧ w1.heap[w.heap.size]? = some (.cells #[.slice Ac m cc, .slice As m cs, .slice Ar n cr] 35 (0, 0)) from ⟨((Keep.refl (fun _ => False) w).alloc _).trans (Keep.of_below' hb1) (fun _ _ h => h), (hb1.block w.heap.size (by simp)).trans (heap_alloc_new w _)⟩)
  have HB1 := Lib.hid hby1
  clear hby1 hb1
  obtain ⟨x0, x1, x2, xf⟩ := cells3 B1.out.2
  go_wp2_with fail
  with_reducible refine (RC.out _ (by exact B1.out.1.trans (T := fun _ => False) (by exact (by repeat first | (with_reducible assumption) | (with_reducible exact Keep.refl _ _) | (with_reducible refine Keep.alloc ?_ _) | (with_reducible refine Keep.drew ?_) | (with_reducible refine Keep.drewN ?_ _) | (with_reducible refine Keep.setCell ?_ (.inl (by first | omega | (simp; done) | (simp; omega) | fail)) _))) (fun _ _ h => h))).mono ?_
  rintro e w2 ⟨A2, n2, c2, rfl, hby2, hb2⟩
  have hz2 := hb2.size
  have B2 := Lib.hid (show Keep (fun _ => False) w w2 ∧ w2.heap[w.heap.size]? = some (.cells #[.slice Ac m cc, .slice As m cs, .slice Ar n cr] 35 (0, 0)) from ⟨B1.out.1.trans (Keep.of_below' hb2) (fun _ _ h => h), (hb2.block w.heap.size (by have := (Array.getElem?_eq_some_iff.1 B1.out.2).1; omega)).trans B1.out.2⟩)
  have HS := Lib.hid (fun W (hk' : Keep (fun _ => False) w2 W) => same_any bb bb _ _ _ _ W (By.keep (By.keep HB1.out (Keep.of_below' hb2) (fun _ _ _ h => h)) hk' (fun _ _ _ h => h)) (By.keep hby2 hk' (fun _ _ _ h => h)))
  clear hby2 hb2 x0 x1 x2 xf
  have SM := Lib.hid (fun W (hk' : Keep (fun _ => False) w2 W) => by have := HS.out W hk'; rw [decide_eq_true rfl] at this; exact this)
  clear HS
  obtain ⟨x0, x1, x2, xf⟩ := cells3 B2.out.2
  have CE := Lib.hid (show ∀ W', Keep (fun _ => False) w2 W' → ((W'.cell? ⟨w.heap.size, 0, none⟩ = some (.slice Ac m cc) ∧ W'.cell? ⟨w.heap.size, 1, none⟩ = some (.slice As m cs) ∧ W'.cell? ⟨w.heap.size, 2, none⟩ = some (.slice Ar n cr)) ∧ Keep (fun _ => False) w2 W') from fun W' hk => ⟨⟨hk.cell (fun h => h) x0, hk.cell (fun h => h) x1, hk.cell (fun h => h) x2⟩, hk⟩)
  have es : ((sig : Int) == (sig : Int)) = true := by simp
  have en : ((n : Int) == (n : Int)) = true := by simp
  have eo : (ok == ok) = true := by simp
  go_upto_region 3 with fail
  go_region_held3 (fun W' => (W'.cell? ⟨w.heap.size, 0, none⟩ = some (.slice Ac m cc) ∧ W'.cell? ⟨w.heap.size, 1, none⟩ = some (.slice As m cs) ∧ W'.cell? ⟨w.heap.size, 2, none⟩ = some (.slice Ar n cr)) ∧ Keep (fun _ => False) w2 W') (exact CE.out _ (by exact (by repeat first | (with_reducible assumption) | (with_reducible exact Keep.refl _ _) | (with_reducible refine Keep.alloc ?_ _) | (with_reducible refine Keep.drew ?_) | (with_reducible refine Keep.drewN ?_ _) | (with_reducible refine Keep.setCell ?_ (.inl (by first | omega | (simp; done) | (simp; omega) | fail)) _)))) (first
    | (go_at_call 26; (with_reducible refine (TS.out _ (by exact B2.out.1.trans (T := fun _ => False) (by exact (by repeat first | (with_reducible assumption) | (with_reducible exact Keep.refl _ _) | (with_reducible refine Keep.alloc ?_ _) | (with_reducible refine Keep.drew ?_) | (with_reducible refine Keep.drewN ?_ _) | (with_reducible refine Keep.setCell ?_ (.inl (by first | omega | (simp; done) | (simp; omega) | fail)) _))) (fun _ _ h => h))).mono ?_); rintro e w3 ⟨rfl, rfl⟩)
    | (go_at_call 38; (with_reducible refine (OF.out _ (by exact B2.out.1.trans (T := fun _ => False) (by exact (by repeat first | (with_reducible assumption) | (with_reducible exact Keep.refl _ _) | (with_reducible refine Keep.alloc ?_ _) | (with_reducible refine Keep.drew ?_) | (with_reducible refine Keep.drewN ?_ _) | (with_reducible refine Keep.setCell ?_ (.inl (by first | omega | (simp; done) | (simp; omega) | fail)) _))) (fun _ _ h => h))).mono ?_); rintro e w3 ⟨rfl, rfl⟩)
    | (go_at_call 24; (with_reducible refine (TL.out _ (by exact B2.out.1.trans (T := fun _ => False) (by exact (by repeat first | (with_reducible assumption) | (with_reducible exact Keep.refl _ _) | (with_reducible refine Keep.alloc ?_ _) | (with_reducible refine Keep.drew ?_) | (with_reducible refine Keep.drewN ?_ _) | (with_reducible refine Keep.setCell ?_ (.inl (by first | omega | (simp; done) | (simp; omega) | fail)) _))) (fun _ _ h => h))).mono ?_); rintro e w3 ⟨rfl, rfl⟩)
    | (go_at_call 25; (with_reducible refine (TI.out _ (by exact B2.out.1.trans (T := fun _ => False) (by exact (by repeat first | (with_reducible assumption) | (with_reducible exact Keep.refl _ _) | (with_reducible refine Keep.alloc ?_ _) | (with_reducible refine Keep.drew ?_) | (with_reducible refine Keep.drewN ?_ _) | (with_reducible refine Keep.setCell ?_ (.inl (by first | omega | (simp; done) | (simp; omega) | fail)) _))) (fun _ _ h => h))).mono ?_); rintro e w4 ⟨A4, c4, rfl, ho4, hb4⟩; have k4 : Keep (fun _ => False) w2 w4 := Keep.trans (T := fun _ => False) (by exact (by repeat first | (with_reducible assumption) | (with_reducible exact Keep.refl _ _) | (with_reducible refine Keep.alloc ?_ _) | (with_reducible refine Keep.drew ?_) | (with_reducible refine Keep.drewN ?_ _) | (with_reducible refine Keep.setCell ?_ (.inl (by first | omega | (simp; done) | (simp; omega) | fail)) _))) (Keep.of_below' hb4) (fun _ _ h => h); have S4 := Lib.hid ho4.sl; clear ho4 hb4)
    | (go_at_call 39; (with_reducible refine (RI.out _ (by exact B2.out.1.trans (T := fun _ => False) (by exact k4.trans (T := fun _ => False) (by exact (by repeat first | (with_reducible assumption) | (with_reducible exact Keep.refl _ _) | (with_reducible refine Keep.alloc ?_ _) | (with_reducible refine Keep.drew ?_) | (with_reducible refine Keep.drewN ?_ _) | (with_reducible refine Keep.setCell ?_ (.inl (by first | omega | (simp; done) | (simp; omega) | fail)) _))) (fun _ _ h => h)) (fun _ _ h => h))).mono ?_); rintro e w5 ⟨A5, c5, rfl, ho5, hb5⟩; have k45 : Keep (fun _ => False) w4 w5 := Keep.trans (T := fun _ => False) (by exact (by repeat first | (with_reducible assumption) | (with_reducible exact Keep.refl _ _) | (with_reducible refine Keep.alloc ?_ _) | (with_reducible refine Keep.drew ?_) | (with_reducible refine Keep.drewN ?_ _) | (with_reducible refine Keep.setCell ?_ (.inl (by first | omega | (simp; done) | (simp; omega) | fail)) _))) (Keep.of_below' hb5) (fun _ _ h => h); have k5 : Keep (fun _ => False) w2 w5 := k4.trans k45 (fun _ _ h => h); have S5 := Lib.hid (And.intro (S4.out.keep k45 (fun _ _ _ h => h)) ho5); clear ho5 hb5)
    | (go_at_call 28; (with_reducible refine (same_ids ids _ _ _ _ _ (by rw [HN.out]; exact S5.out.1.keep (S := fun _ => False) (by exact (by repeat first | (with_reducible assumption) | (with_reducible exact Keep.refl _ _) | (with_reducible refine Keep.alloc ?_ _) | (with_reducible refine Keep.drew ?_) | (with_reducible refine Keep.drewN ?_ _) | (with_reducible refine Keep.setCell ?_ (.inl (by first | omega | (simp; done) | (simp; omega) | fail)) _))) (fun _ _ _ h => h)) (by rw [HN.out]; exact S5.out.2.keep (S := fun _ => False) (by exact (by repeat first | (with_reducible assumption) | (with_reducible exact Keep.refl _ _) | (with_reducible refine Keep.alloc ?_ _) | (with_reducible refine Keep.drew ?_) | (with_reducible refine Keep.drewN ?_ _) | (with_reducible refine Keep.setCell ?_ (.inl (by first | omega | (simp; done) | (simp; omega) | fail)) _))) (fun _ _ _ h => h))).mono ?_); rintro e w6 ⟨rfl, hk6⟩; have k6 : Keep (fun _ => False) w2 w6 := k5.trans (Keep.trans (T := fun _ => False) (by exact (by repeat first | (with_reducible assumption) | (with_reducible exact Keep.refl _ _) | (with_reducible refine Keep.alloc ?_ _) | (with_reducible refine Keep.drew ?_) | (with_reducible refine Keep.drewN ?_ _) | (with_reducible refine Keep.setCell ?_ (.inl (by first | omega | (simp; done) | (simp; omega) | fail)) _))) hk6 (fun _ _ h => h)) (fun _ _ h => h))
    | (go_at_call 30; (with_reducible refine (SM.out _ (by exact k6.trans (T := fun _ => False) (by exact (by repeat first | (with_reducible assumption) | (with_reducible exact Keep.refl _ _) | (with_reducible refine Keep.alloc ?_ _) | (with_reducible refine Keep.drew ?_) | (with_reducible refine Keep.drewN ?_ _) | (with_reducible refine Keep.setCell ?_ (.inl (by first | omega | (simp; done) | (simp; omega) | fail)) _))) (fun _ _ h => h))).mono ?_); rintro e w7 ⟨rfl, rfl⟩)
    | fail)
  go_wp2
  go_ret
  exact ⟨rfl, ((B2.out.1.trans (k6.trans (T := fun _ => False) (by exact (by repeat first | (with_reducible assumption) | (with_reducible exact Keep.refl _ _) | (with_reducible refine Keep.alloc ?_ _) | (with_reducible refine Keep.drew ?_) | (with_reducible refine Keep.drewN ?_ _) | (with_reducible refine Keep.setCell ?_ (.inl (by first | omega | (simp; done) | (simp; omega) | fail)) _))) (fun _ _ h => h)) (fun _ _ h => h)).mono (T := fun b => w.heap.size ≤ b) (fun _ _ h => h.elim)).to_below (Nat.le_refl _)⟩
end
end Go.Proofs.YtpkeahikfbmcpaaDoor
namespace Go.Proofs.YtpkeahikfbmcpaaDoor
open Go.RowKit
set_option maxRecDepth 100000
set_option linter.unusedVariables false
set_option linter.unusedSimpArgs false

def cf9 : Cf := ⟨0, 0, 0, 0, [⟨⟨#[97]⟩, 1⟩, ⟨⟨#[98]⟩, 2⟩]⟩
theorem cf9_sig : 2 &&& allOf cf9.l = 2 := by decide +kernel
theorem bl2 : bl 2 64 = [1] := by decide +kernel
theorem cf9_size : szOf cf9.l 1 = 2 := by decide +kernel
def ex9 : List PtZ := [⟨0, [1]⟩]
theorem ex9_ok : addC 0 2 (szOf cf9.l) ex9 = 0 := by decide +kernel
theorem ex9_get : getT 1 2 (addK 0 2 (szOf cf9.l) (fun _ => []) ex9) 0 1 = [0, 0] := by decide +kernel
theorem ex9_col : colC 1 2 0 1 = 0 := by decide +kernel
theorem ns9 (w : World) : NS parN ((w.alloc (.cells #[.int .u8 1] 5 (0, 0))).alloc (.cells #[.int .i64 0, .slice (some ⟨w.heap.size, 0, none⟩) 1 1] 81 (0, 0))) (fun b => w.heap.size ≤ b) (.slice (some ⟨w.heap.size + 1, 0, none⟩) 1 1) ex9 := by
  have hby : By (w.alloc (.cells #[.int .u8 1] 5 (0, 0))) (fun k => k = w.heap.size) (.slice (some ⟨w.heap.size, 0, none⟩) 1 1) [1] := By.lit w 5 [1] (by decide)
  refine ⟨[.slice (some ⟨w.heap.size, 0, none⟩) 1 1], rfl, ?_, fun i x v hx hv => ?_⟩
  · have h := Own.made (base := w.heap.size) (e := 81) (size := 2) (w.alloc (.cells #[.int .u8 1] 5 (0, 0))) #[.int .i64 0, .slice (some ⟨w.heap.size, 0, none⟩) 1 1] 1 1 (by simp) (Nat.le_refl _) (by unfold maxLen; decide) rfl
    rw [show (w.alloc (.cells #[.int .u8 1] 5 (0, 0))).heap.size = w.heap.size + 1 from by simp] at h
    exact Own.ml (n := 0) parN.pos parN.len (f := parN.cells) (l := [((⟨0, [1]⟩ : PtZ), Value.slice (some ⟨w.heap.size, 0, none⟩) 1 1)]) h
  · match i, hx, hv with
    | 0, hx, hv =>
      cases hx
      cases hv
      exact (By.keep hby ((Keep.refl (fun _ => False) _).alloc _) (fun _ _ _ h => h)).mono (fun b _ h => by omega)
theorem live09 (w : World) (hT : Tab w) :
    Calls Tryd.prog 8 #[] w fun e w' => e = .returned (.bool true) ∧ Below w.heap.size w w' := by
  have TN := Lib.hid (fun (W : World) u F (h : CL W F u cf9.l) (ht : Tab W) => tnew_any cf9 u F 2 (by decide) W h (by decide) ht)
  rw [cf9_sig] at TN
  have TN2 : Hid (∀ (W : World) (u : Value) (F : Nat → Prop), CL W F u cf9.l → Tab W → Calls Tryd.prog 9 #[.agg #[.int .i64 0, .int .i64 0, .int .i64 0, .int .i64 0, u], .int .u64 2] W fun e w' => ∃ tp, e = .returned (.pointer (some ⟨tp, 0, none⟩)) ∧ TbFresh W 2 (szOf cf9.l) tp w') := TN
  clear TN
  have CW := Lib.hid (show CL (w.alloc (.cells #[.string ⟨#[97]⟩, .int .i64 1, .string ⟨#[98]⟩, .int .i64 2] 79 (0, 0))) (fun b => b = w.heap.size) (.slice (some ⟨w.heap.size, 0, none⟩) 2 2) cf9.l from by
    obtain ⟨x0, x1, x2, x3, -⟩ := cells4 (heap_alloc_new w (.cells #[.string ⟨#[97]⟩, .int .i64 1, .string ⟨#[98]⟩, .int .i64 2] 79 (0, 0)))
    refine ⟨_, 2, rfl, Nat.le_refl _, by unfold maxLen; decide, ⟨rfl, fun _ => ⟨_, 0, rfl, rfl, fun i u hu => ?_⟩⟩, fun h => by cases h⟩
    match i, hu with
    | 0, hu => cases hu; exact x0
    | 1, hu => cases hu; exact x1
    | 2, hu => cases hu; exact x2
    | 3, hu => cases hu; exact x3
    | i + 4, hu => simp [cf9, ccells] at hu)
  have HT := Lib.hid hT
  clear hT
  go_enter Tryd.func8, Tryd.ntmps8
  go_wp2_with fail
  with_reducible refine (TN2.out _ _ _ (by exact CW.out.same (by exact (by repeat first | exact Keep.refl _ _ | refine Keep.alloc ?_ _ | refine Keep.drew ?_ | refine Keep.drewN ?_ _))) (by exact HT.out.same (by exact (by repeat first | exact Keep.refl _ _ | refine Keep.alloc ?_ _ | refine Keep.drew ?_ | refine Keep.drewN ?_ _)))).mono ?_
  rintro e w1 ⟨tp, rfl, hfr⟩
  have hnw := hfr.new
  obtain ⟨mb, vs, cp, FC, hb, hbel, hlo⟩ := hnw
  have H1 := Lib.hid (show Tb w1 tp mb vs cp FC 2 (szOf cf9.l) [] (fun _ => []) ∧ Keep (fun _ => False) w w1 ∧ ∀ k, TF tp mb vs FC 2 k → w.heap.size ≤ k ∧ k < w1.heap.size from ⟨hb, Keep.trans (T := fun _ => False) (by repeat first | exact Keep.refl _ _ | refine Keep.alloc ?_ _ | refine Keep.drew ?_ | refine Keep.drewN ?_ _) (Keep.of_below' hbel) (fun _ _ h => h), fun k hk => ⟨by have := hlo k hk; simp at this; omega, hb.lt k hk⟩⟩)
  clear hfr hb hbel hlo
  have AD := Lib.hid (fun (X : World) (hk : Keep (fun _ => False) w1 X) (u : Value) (hu : NS parN X (fun b => w1.heap.size ≤ b) u ex9) => tb_add (H1.out.1.same hk) (fun c _ => rfl) ((HT.out.same H1.out.2.1).same hk) ⟨7, 0⟩ ex9 u _ hu (by decide) (fun b hb hF => by have := (H1.out.2.2 b hF).2; omega))
  have LA := (law_add (sig := 2) (sz := szOf cf9.l) (ids := []) (col := fun _ => []) (fun _ _ => rfl) ⟨0, ⟨7, 0⟩, ex9, 0, 0, []⟩).2.2
  have ei : addI 2 (szOf cf9.l) [] ⟨7, 0⟩ ex9 = [⟨7, 0⟩] := by unfold addI; rw [show ([] : List IdZ).length = 0 from rfl, ex9_ok]; rfl
  dsimp only at LA
  rw [ei] at AD LA
  rw [show ([] : List IdZ).length = 0 from rfl, ex9_ok] at AD
  rw [show ([] : List IdZ).length = 0 from rfl] at LA
  have HLA := Lib.hid LA
  clear LA ei
  have NW := Lib.hid (ns9 w1)
  go_wp2_with fail
  with_reducible refine (AD.out _ (by exact (by repeat first | (with_reducible assumption) | (with_reducible exact Keep.refl _ _) | (with_reducible refine Keep.alloc ?_ _) | (with_reducible refine Keep.drew ?_) | (with_reducible refine Keep.drewN ?_ _) | (with_reducible refine Keep.setCell ?_ (.inl (by first | omega | (simp; done) | (simp; omega) | fail)) _))) _ (by exact NW.out)).mono ?_
  rintro e w2 ⟨rfl, mb2, vs2, cp2, FC2, hb2, hk2, hlo2⟩
  have GT := Lib.hid (tb_get hb2 HLA.out 0 1 (by decide))
  have H2 := Lib.hid (And.intro hb2 (show Keep (fun b => w.heap.size ≤ b) w w2 from (H1.out.2.1.mono (fun _ _ h => h.elim)).trans (Keep.trans (T := TF tp mb vs FC 2) (S := TF tp mb vs FC 2) (by exact (by repeat first | (with_reducible assumption) | (with_reducible exact Keep.refl _ _) | (with_reducible refine Keep.alloc ?_ _) | (with_reducible refine Keep.drew ?_) | (with_reducible refine Keep.drewN ?_ _) | (with_reducible refine Keep.setCell ?_ (.inl (by first | omega | (simp; done) | (simp; omega) | fail)) _))) hk2 (fun _ _ h => h)) (fun b hb h => (H1.out.2.2 b h).1)))
  rw [show ([(⟨7, 0⟩ : IdZ)]).length = 1 from rfl, ex9_get, ex9_col] at GT
  clear hb2 hk2 hlo2 AD NW
  go_wp2_with fail
  with_reducible refine GT.out.mono ?_
  rintro e w3 ⟨A4, n4, c4, rfl, hby, hb3⟩
  have H3 := Lib.hid (And.intro hby (And.intro (H2.out.1.same (Keep.of_below' hb3)) (show Keep (fun b => w.heap.size ≤ b) w w3 from H2.out.2.trans (Keep.of_below' hb3) (fun _ _ h => h.elim))))
  clear hby hb3
  have SM := Lib.hid (fun (X : World) u (F : Nat → Prop) (h1 : By X (fun b => w2.heap.size ≤ b) (.slice A4 n4 c4) [0, 0]) (h2 : By X F u [0, 0]) => same_any [0, 0] [0, 0] _ u _ F X h1 h2)
  rw [decide_eq_true rfl] at SM
  have BL := Lib.hid (show By (w3.alloc (.cells #[.int .u8 0, .int .u8 0] 5 (0, 0))) (fun k => k = w3.heap.size) (.slice (some ⟨w3.heap.size, 0, none⟩) 2 2) [0, 0] from By.lit w3 5 [0, 0] (by decide))
  have TL := Lib.hid (fun W (hk : Keep (fun _ => False) w3 W) => tb_len (H3.out.2.1.same hk))
  rw [show ([(⟨7, 0⟩ : IdZ)]).length = 1 from rfl] at TL
  go_wp2_with (first
    | (go_at_call 21; with_reducible refine (code09 _ _).mono ?_; rintro e w4 ⟨rfl, rfl⟩)
    | (go_at_call 30; with_reducible refine (SM.out _ _ _ (by exact By.keep H3.out.1 (S := fun _ => False) (by exact (by repeat first | (with_reducible assumption) | (with_reducible exact Keep.refl _ _) | (with_reducible refine Keep.alloc ?_ _) | (with_reducible refine Keep.drew ?_) | (with_reducible refine Keep.drewN ?_ _) | (with_reducible refine Keep.setCell ?_ (.inl (by first | omega | (simp; done) | (simp; omega) | fail)) _))) (fun _ _ _ h => h)) (by exact BL.out)).mono ?_; rintro e w5 ⟨rfl, rfl⟩)
    | (go_at_call 24; with_reducible refine (TL.out _ (by exact (by repeat first | (with_reducible assumption) | (with_reducible exact Keep.refl _ _) | (with_reducible refine Keep.alloc ?_ _) | (with_reducible refine Keep.drew ?_) | (with_reducible refine Keep.drewN ?_ _) | (with_reducible refine Keep.setCell ?_ (.inl (by first | omega | (simp; done) | (simp; omega) | fail)) _)))).mono ?_; rintro e w6 ⟨rfl, rfl⟩)
    | fail)
  go_ret
  exact ⟨rfl, (H3.out.2.2.trans (T := fun _ => False) (by exact (by repeat first | (with_reducible assumption) | (with_reducible exact Keep.refl _ _) | (with_reducible refine Keep.alloc ?_ _) | (with_reducible refine Keep.drew ?_) | (with_reducible refine Keep.drewN ?_ _) | (with_reducible refine Keep.setCell ?_ (.inl (by first | omega | (simp; done) | (simp; omega) | fail)) _))) (fun _ _ h => h.elim)).to_below (Nat.le_refl _)⟩
end Go.Proofs.YtpkeahikfbmcpaaDoor
namespace Go.Proofs.YtpkeahikfbmcpaaDoor
open Go.RowKit
set_option maxRecDepth 100000
set_option linter.unusedVariables false
set_option linter.unusedSimpArgs false

/-- Behind some steps: the table at tp, the reference's in block q. -/
def TSt (W : World) (tp q sig : Nat) (sz : Nat → Nat) (w : World) : Prop :=
  ∃ mb vs cp FC ids col v0 v1 v2, Tb w tp mb vs cp FC sig sz ids col ∧ (∀ c, c ∈ bl sig 64 → (col c).length = ids.length) ∧ (∀ k, TF tp mb vs FC sig k → W.heap.size ≤ k) ∧ ¬ TF tp mb vs FC sig q ∧ W.heap.size ≤ q ∧
    w.heap[q]? = some (.cells #[v0, v1, v2] 35 (0, 0)) ∧ RT w (fun b => ¬ TF tp mb vs FC sig b ∧ b ≠ q) (.agg #[v0, v1, v2]) (bl sig 64) sz (rowsT sig ids col) ∧ Keep (fun b => W.heap.size ≤ b) W w
theorem TSt.same {W w w' : World} {tp q sg : Nat} {sz : Nat → Nat} (h : TSt W tp q sg sz w) (hk : Keep (fun _ => False) w w') : TSt W tp q sg sz w' := by
  obtain ⟨mb, vs, cp, FC, ids, col, v0, v1, v2, h1, h2, h3, h4, h5, h6, h7, h8⟩ := h
  exact ⟨mb, vs, cp, FC, ids, col, v0, v1, v2, h1.same hk, h2, h3, h4, h5, (hk.block _ (Array.getElem?_eq_some_iff.1 h6).1 (fun h => h)).trans h6, h7.same hk, h8.trans hk (fun _ _ h => h.elim)⟩
theorem TSt.same_ {W w : World} {tp q sg : Nat} {sz : Nat → Nat} (h : TSt W tp q sg sz w) {a b c : Value} (hq : w.heap[q]? = some (.cells #[a, b, c] 35 (0, 0))) (k : Int) (hk : -9223372036854775808 ≤ k ∧ k ≤ 9223372036854775807) (Y : World) (hY : Keep (fun _ => False) w Y) :
    Calls Tryd.prog 14 #[.pointer (some ⟨tp, 0, none⟩), .agg #[a, b, c], .int .i64 k] Y fun e w' => e = .returned (.bool true) ∧ Below Y.heap.size Y w' := by
  obtain ⟨mb, vs, cp, FC, ids, col, v0, v1, v2, h1, h2, h3, h4, h5, h6, h7, h8⟩ := h
  have e := h6.symm.trans hq
  injection e with e
  injection e with e
  injection e with e
  injection e with e1 e
  injection e with e2 e
  injection e with e3 e
  subst e1 e2 e3
  exact same09 (h1.same hY) h2 _ _ (h7.same hY) k hk
/-- A table's box just made. -/
def AlB (W : World) (p : Nat) : Prop := W.heap[p]? = some (.cells #[.slice none 0 0, .slice none 0 0, .slice none 0 0] 35 (0, 0))
section
variable {W W' : World} {p : Nat}
theorem AlB.new (W : World) : AlB (W.alloc (.cells #[.slice none 0 0, .slice none 0 0, .slice none 0 0] 35)) W.heap.size := heap_alloc_new W _
theorem AlB.lt (h : AlB W p) : p < W.heap.size := (Array.getElem?_eq_some_iff.1 h).1
theorem AlB.alloc (h : AlB W p) (o : Obj) : AlB (W.alloc o) p := (heap_alloc_old _ _ h.lt).trans h
theorem AlB.drew (h : AlB W p) : AlB W.drew p := h
theorem AlB.below (h : AlB W p) (hb : Below W.heap.size W W') : AlB W' p ∧ p < W.heap.size := ⟨(hb.block _ h.lt).trans h, h.lt⟩
end
theorem tst_first {W w4 w5 wx : World} {tp mb : Nat} {vs : Value} {cp : Nat → Nat} {FC : Nat → Nat → Prop} {sg : Nat} {sz : Nat → Nat} {a b c : Value} {B q : Nat} (htb : Tb w4 tp mb vs cp FC sg sz [] (fun _ => [])) (hlo : ∀ k, TF tp mb vs FC sg k → W.heap.size ≤ k) (k45 : Keep (fun _ => False) w4 w5)
    (hrt : RT w5 (fun b => B ≤ b) (.agg #[a, b, c]) (bl sg 64) sz []) (hB : w4.heap.size ≤ B) (hkx : Keep (fun x => x = q) w5 wx) (hq : wx.heap[q]? = some (.cells #[a, b, c] 35 (0, 0))) (hq2 : q < B ∨ w5.heap.size ≤ q) (hq3 : ¬ TF tp mb vs FC sg q) (hqW : W.heap.size ≤ q) (hkW : Keep (fun _ => False) W w5) : TSt W tp q sg sz wx := by
  refine ⟨mb, vs, cp, FC, [], fun _ => [], a, b, c, (htb.same k45).keep hkx (fun k hk e => hq3 (e ▸ hk)), fun _ _ => rfl, hlo, hq3, hqW, hq, ?_, (hkW.mono (T := fun b => W.heap.size ≤ b) (fun _ _ h => h.elim)).trans hkx (fun b _ e => by omega)⟩
  have e : rowsT sg [] (fun _ => []) = [] := rfl
  rw [e]
  exact ((hrt.mono (G := fun b => B ≤ b ∧ b < w5.heap.size) (fun b hb h => ⟨h, hb⟩)).keep hkx (fun b _ h e => by omega)).mono (fun b _ h => ⟨fun hF => by have := htb.lt b hF; omega, fun e => by omega⟩)
/-- A told's box just made. -/
def AlG (W : World) (p : Nat) : Prop := W.heap[p]? = some (.cells #[.slice none 0 0, .slice none 0 0, .int .i64 0, .int .i64 0, .bool false, .int .i64 0] 42 (0, 0))
section
variable {W W' : World} {p : Nat}
theorem AlG.new (W : World) : AlG (W.alloc (.cells #[.slice none 0 0, .slice none 0 0, .int .i64 0, .int .i64 0, .bool false, .int .i64 0] 42)) W.heap.size := heap_alloc_new W _
theorem AlG.lt (h : AlG W p) : p < W.heap.size := (Array.getElem?_eq_some_iff.1 h).1
theorem AlG.alloc (h : AlG W p) (o : Obj) : AlG (W.alloc o) p := (heap_alloc_old _ _ h.lt).trans h
theorem AlG.drew (h : AlG W p) : AlG W.drew p := h
theorem AlG.below (h : AlG W p) (hb : Below W.heap.size W W') : AlG W' p ∧ p < W.heap.size := ⟨(hb.block _ h.lt).trans h, h.lt⟩
end
theorem set_new (w : World) (p : Nat) (x y z : Value) (o : Obj) : ((((w.setCell ⟨p, 0, none⟩ x).setCell ⟨p, 1, none⟩ y).setCell ⟨p, 2, none⟩ z).alloc o).heap[w.heap.size]? = some o := heap_alloc_at _ _ _ (by simp)
/-- Behind do: the table anew, the reference's as it was, and what was told. -/
def TMid (W : World) (tp q sg : Nat) (sz : Nat → Nat) (x : StZ) (p d v0 v1 v2 D : Value) (X : World) : Prop :=
  ∃ mb vs cp FC ids col R0 t lo, Tb X tp mb vs cp FC sg sz ids col ∧ (∀ c, c ∈ bl sg 64 → (col c).length = ids.length) ∧ (∀ k, TF tp mb vs FC sg k → W.heap.size ≤ k) ∧ ¬ TF tp mb vs FC sg q ∧ W.heap.size ≤ q ∧ X.heap[q]? = some (.cells #[v0, v1, v2] 35 (0, 0)) ∧
    RT X (fun b => ¬ TF tp mb vs FC sg b ∧ b ≠ q) (.agg #[v0, v1, v2]) (bl sg 64) sz R0 ∧ NS parN X (fun b => b < W.heap.size) p x.parts ∧ By X (fun b => b < W.heap.size) d x.data ∧ x.parts.length ≤ 1000 ∧ goR (bl sg 64) sz R0 x = (rowsT sg ids col, t) ∧ (∀ y ∈ R0, y.parts.length = (bl sg 64).length) ∧ R0.length ≤ 1024 ∧
    TlSt X (fun b => lo ≤ b) D t ∧ q < lo ∧ Keep (fun b => W.heap.size ≤ b) W X
theorem TMid.same {W X X' : World} {tp q sg : Nat} {sz : Nat → Nat} {x : StZ} {p d v0 v1 v2 D : Value} (h : TMid W tp q sg sz x p d v0 v1 v2 D X) (hk : Keep (fun _ => False) X X') : TMid W tp q sg sz x p d v0 v1 v2 D X' := by
  obtain ⟨mb, vs, cp, FC, ids, col, R0, t, lo, h1, h2, h3, h4, h5, h6, h7, h8, h9, h10, h11, h12, h13, h14, h15, h16⟩ := h
  exact ⟨mb, vs, cp, FC, ids, col, R0, t, lo, h1.same hk, h2, h3, h4, h5, (hk.block _ (Array.getElem?_eq_some_iff.1 h6).1 (fun h => h)).trans h6, h7.same hk, h8.same hk, By.keep h9 hk (fun _ _ _ h => h), h10, h11, h12, h13, h14.same hk, h15, h16.trans hk (fun _ _ h => h.elim)⟩
theorem tst_do {W wr : World} {tp q sg : Nat} {sz : Nat → Nat} (h : TSt W tp q sg sz wr) (hT : Tab W) (x : StZ) (p d : Value) (hp : NS parN W (fun _ => True) p x.parts) (hd : By W (fun _ => True) d x.data) (hP : x.parts.length ≤ 1000) (hr : -9223372036854775808 ≤ x.comp ∧ x.comp ≤ 9223372036854775807) :
    ∃ v0 v1 v2, wr.heap[q]? = some (.cells #[v0, v1, v2] 35 (0, 0)) ∧ Calls Tryd.prog 11 #[.pointer (some ⟨tp, 0, none⟩), stV x p d] wr fun e w1 => ∃ A1 n1 c1 A2 n2 c2 ix gen ok er, e = .returned (.agg #[.slice A1 n1 c1, .slice A2 n2 c2, .int .i64 ix, .int .i64 gen, .bool ok, .int .i64 er]) ∧ Keep (fun b => W.heap.size ≤ b) W w1 ∧
      Hid (TMid W tp q sg sz x p d v0 v1 v2 (.agg #[.slice A1 n1 c1, .slice A2 n2 c2, .int .i64 ix, .int .i64 gen, .bool ok, .int .i64 er]) w1) := by
  obtain ⟨mb, vs, cp, FC, ids, col, v0, v1, v2, h1, h2, h3, h4, h5, h6, h7, h8⟩ := h
  refine ⟨v0, v1, v2, h6, ?_⟩
  have hp1 := (hp.mono (G := fun b => b < W.heap.size) (fun b hb _ => hb)).keep h8 (fun b hb _ h => by omega)
  have hd1 := By.keep (By.mono hd (G := fun b => b < W.heap.size) (fun b hb _ => hb)) h8 (fun b hb _ h => by omega)
  obtain ⟨L1, L2⟩ := do_law (sz := sz) h2 x
  refine (tdo_any h1 h2 (hT.keep h8 (by have := hT.lt; omega)) x p d (fun b => b < W.heap.size) hp1 hd1 hP (fun b hb hF => by have := h3 b hF; omega) hr).mono ?_
  rintro e w1 ⟨v, rfl, htl, mb', vs', cp', FC', g1, g2, g3⟩
  have htl0 := htl
  obtain ⟨dd, pp, rfl, t1, t2⟩ := htl0
  obtain ⟨A1, c1, rfl, -⟩ := t1
  obtain ⟨A2, c2, rfl, -⟩ := t2.form
  have hql := (Array.getElem?_eq_some_iff.1 h6).1
  have hnq : ¬ TF tp mb' vs' FC' sg q := fun e => by rcases g3 q e with e | e; exact h4 e; omega
  have hk1 : Keep (fun b => W.heap.size ≤ b) W w1 := h8.trans g2 (fun b _ h => h3 b h)
  refine ⟨A1, _, c1, A2, _, c2, _, _, _, _, rfl, hk1, mb', vs', cp', FC', _, _, rowsT sg ids col, _, wr.heap.size, g1, L2, fun k hk => ?_, hnq, h5, (g2.block q hql h4).trans h6, ?_, ?_, ?_, hP, L1, rowsT_parts rfl, by rw [rowsT_len]; exact h1.few, htl, hql, hk1⟩
  · rcases g3 k hk with e | e
    · exact h3 k e
    · have := h8.size; omega
  · exact ((h7.mono (G := fun b => (¬ TF tp mb vs FC sg b ∧ b ≠ q) ∧ b < wr.heap.size) (fun b hb h => ⟨h, hb⟩)).keep g2 (fun b _ h e => h.1.1 e)).mono (fun b _ h => ⟨fun e => by
      rcases g3 b e with e | e
      · exact h.1.1 e
      · have := h.2; omega, h.1.2⟩)
  · exact hp1.keep g2 (fun b _ h e => by have := h3 b e; omega)
  · exact By.keep hd1 g2 (fun b _ h e => by have := h3 b e; omega)
/-- Behind both. -/
def TGo (W : World) (tp q sg : Nat) (sz : Nat → Nat) (a b c D E : Value) (wx : World) : Prop := ∃ t, TSt W tp q sg sz (set3 wx q a b c) ∧ TlSt (set3 wx q a b c) (fun _ => True) D t ∧ TlSt (set3 wx q a b c) (fun _ => True) E t
/-- What Go leaves. -/
def TGoP (W : World) (tp q sg : Nat) (sz : Nat → Nat) (v0 v1 v2 D : Value) (X Y : World) (e : Ending) (w6 : World) : Prop :=
  ∃ A n c A' n' c' A'' n'' c'' B1 m1 e1 B2 m2 e2 ix gen ok er, e = .returned (.tuple #[.agg #[.slice A n c, .slice A' n' c', .slice A'' n'' c''], .agg #[.slice B1 m1 e1, .slice B2 m2 e2, .int .i64 ix, .int .i64 gen, .bool ok, .int .i64 er]]) ∧ Below Y.heap.size Y w6 ∧
    Hid (∀ wx p13 p14, Keep (fun b => b = p13 ∨ b = p14) w6 wx → X.heap.size ≤ p13 → X.heap.size ≤ p14 → (p13 < Y.heap.size ∨ w6.heap.size ≤ p13) → (p14 < Y.heap.size ∨ w6.heap.size ≤ p14) → TGo W tp q sg sz (.slice A n c) (.slice A' n' c') (.slice A'' n'' c'') D (.agg #[.slice B1 m1 e1, .slice B2 m2 e2, .int .i64 ix, .int .i64 gen, .bool ok, .int .i64 er]) wx)
theorem TMid.go {W X : World} {tp q sg : Nat} {sz : Nat → Nat} {x : StZ} {p d v0 v1 v2 D : Value} (h : TMid W tp q sg sz x p d v0 v1 v2 D X) (Y : World) (hk : Keep (fun _ => False) X Y) :
    Calls Tryd.prog 12 #[.agg #[v0, v1, v2], stV x p d] Y (TGoP W tp q sg sz v0 v1 v2 D X Y) := by
  obtain ⟨mb, vs, cp, FC, ids, col, R0, t, lo, h1, h2, h3, h4, h5, h6, h7, h8, h9, h10, h11, h12, h13, h14, h15, h16⟩ := h
  have hWX := h16.size
  have hlt := h1.lt
  have hql := (Array.getElem?_eq_some_iff.1 h6).1
  have hh := rgo_any ((h7.mono (G := fun b => (¬ TF tp mb vs FC sg b ∧ b ≠ q) ∧ b < X.heap.size) (fun b hb h => ⟨h, hb⟩)).same hk) x p d ((h8.mono (G := fun b => (¬ TF tp mb vs FC sg b ∧ b ≠ q) ∧ b < X.heap.size) (fun b hb h => ⟨⟨fun e => by have := h3 b e; omega, by omega⟩, hb⟩)).same hk) (By.keep (By.mono h9 (G := fun b => (¬ TF tp mb vs FC sg b ∧ b ≠ q) ∧ b < X.heap.size) (fun b hb h => ⟨⟨fun e => by have := h3 b e; omega, by omega⟩, hb⟩)) hk (fun _ _ _ h => h)) h10 (bl_len sg 64) (fun c hc => ⟨bl_lt hc, (h1.cols c hc).small⟩) h13 h12
  refine hh.mono ?_
  rintro e w6 ⟨u, v, rfl, g1, g2, g3⟩
  rw [h11] at g1 g2
  dsimp only at g1 g2
  have g1' := g1
  have g2' := g2
  obtain ⟨Ac, cc, As, cs, Ar, cr, rfl, -⟩ := g1'.form
  obtain ⟨dd, pp, rfl, t1, t2⟩ := g2'
  obtain ⟨B1, e1, rfl, -⟩ := t1
  obtain ⟨B2, e2, rfl, -⟩ := t2.form
  refine ⟨_, _, _, _, _, _, _, _, _, _, _, _, _, _, _, _, _, _, _, rfl, g3, fun wx p13 p14 kx ha hb hc hd => ?_⟩
  have kXY := hk.size
  have kY6 := g3.size
  have k6 : Keep (fun _ => False) X w6 := hk.trans (Keep.of_below' g3) (fun _ _ h => h)
  have kXx : Keep (fun b => b = p13 ∨ b = p14) X wx := (k6.mono (fun _ _ h => h.elim)).trans kx (fun _ _ h => h)
  have hqx := (kXx.block q hql (fun e => by omega)).trans h6
  have kq := keep3 wx q (.slice Ac (bl sg 64).length cc) (.slice As (bl sg 64).length cs) (.slice Ar (rowsT sg ids col).length cr)
  have hF : ∀ b, b < w6.heap.size → ((¬ TF tp mb vs FC sg b ∧ b ≠ q) ∧ b < X.heap.size) ∨ Y.heap.size ≤ b → ¬ (b = p13 ∨ b = p14) := fun b hl h e => by
    rcases h with h | h
    · have := h.2; omega
    · omega
  have hQ : ∀ b, ((¬ TF tp mb vs FC sg b ∧ b ≠ q) ∧ b < X.heap.size) ∨ Y.heap.size ≤ b → ¬ b = q := fun b h e => by
    rcases h with h | h
    · exact h.1.2 e
    · omega
  refine ⟨t, ⟨mb, vs, cp, FC, ids, col, _, _, _, (h1.keep kXx (fun k hk e => by have := hlt k hk; omega)).keep kq (fun k hk e => h4 (e ▸ hk)), h2, h3, h4, h5, heap_three hqx _ _ _, ?_, ?_⟩, ?_, ?_⟩
  · exact ((g1.keep kx hF).keep kq (fun b _ h e => hQ b h e)).mono (fun b _ h => by
      rcases h with h | h
      · exact h.1
      · exact ⟨fun e => by have := hlt b e; omega, fun e => by omega⟩)
  · exact ((h16.trans kXx (fun b _ e => by omega)).trans kq (fun b _ e => by omega))
  · obtain ⟨dd, pp, e, t1, t2⟩ := h14
    have m1 : ∀ b, b < X.heap.size → lo ≤ b → lo ≤ b ∧ b < X.heap.size := fun b h h' => ⟨h', h⟩
    exact ⟨dd, pp, e, (By.keep (By.keep (By.mono t1 m1) kXx (fun b _ h e => by omega)) kq (fun b _ h e => by omega)).mono (fun _ _ _ => trivial), (((t2.mono m1).keep kXx (fun b _ h e => by omega)).keep kq (fun b _ h e => by omega)).mono (fun _ _ _ => trivial)⟩
  · obtain ⟨dd, pp, e, t1, t2⟩ := g2
    exact ⟨dd, pp, e, (By.keep (By.keep t1 kx hF) kq (fun b _ h e => hQ b h e)).mono (fun _ _ _ => trivial), ((t2.keep kx hF).keep kq (fun b _ h e => hQ b h e)).mono (fun _ _ _ => trivial)⟩
/-- Behind Go: both results in boxes of their own. -/
def TCut (W X : World) (tp q sg : Nat) (sz : Nat → Nat) (p13 p14 : Nat) (a b c D e0 e1 e2 e3 e4 e5 : Value) (wx : World) : Prop :=
  wx.heap[p13]? = some (.cells #[a, b, c] 35 (0, 0)) ∧ wx.heap[p14]? = some (.cells #[e0, e1, e2, e3, e4, e5] 42 (0, 0)) ∧ X.heap.size ≤ p13 ∧ X.heap.size ≤ p14 ∧ Keep (fun _ => False) X wx ∧ TGo W tp q sg sz a b c D (.agg #[e0, e1, e2, e3, e4, e5]) wx
section
variable {W X w6 wx : World} {tp q sg p13 p14 ysz : Nat} {sz : Nat → Nat} {a b c D e0 e1 e2 e3 e4 e5 : Value}
theorem tcut_of (HG : ∀ wx p13 p14, Keep (fun b => b = p13 ∨ b = p14) w6 wx → X.heap.size ≤ p13 → X.heap.size ≤ p14 → (p13 < ysz ∨ w6.heap.size ≤ p13) → (p14 < ysz ∨ w6.heap.size ≤ p14) → TGo W tp q sg sz a b c D (.agg #[e0, e1, e2, e3, e4, e5]) wx)
    (k6 : Keep (fun _ => False) X w6) (kx : Keep (fun b => b = p13 ∨ b = p14) w6 wx) (h13 : wx.heap[p13]? = some (.cells #[a, b, c] 35 (0, 0))) (h14 : wx.heap[p14]? = some (.cells #[e0, e1, e2, e3, e4, e5] 42 (0, 0))) (l13 : X.heap.size ≤ p13) (l14 : X.heap.size ≤ p14)
    (y13 : p13 < ysz ∨ w6.heap.size ≤ p13) (y14 : p14 < ysz ∨ w6.heap.size ≤ p14) : TCut W X tp q sg sz p13 p14 a b c D e0 e1 e2 e3 e4 e5 wx :=
  ⟨h13, h14, l13, l14, (k6.mono (T := fun _ => False) (fun _ _ h => h)).trans kx (fun b _ e => by omega), HG wx p13 p14 kx l13 l14 y13 y14⟩
theorem tcut1 (HG : ∀ wx p13 p14, Keep (fun b => b = p13 ∨ b = p14) w6 wx → X.heap.size ≤ p13 → X.heap.size ≤ p14 → (p13 < ysz ∨ w6.heap.size ≤ p13) → (p14 < ysz ∨ w6.heap.size ≤ p14) → TGo W tp q sg sz a b c D (.agg #[e0, e1, e2, e3, e4, e5]) wx)
    (k6 : Keep (fun _ => False) X w6) : TCut W X tp q sg sz w6.heap.size (w6.heap.size + 1) a b c D e0 e1 e2 e3 e4 e5 ((w6.alloc (.cells #[a, b, c] 35)).alloc (.cells #[e0, e1, e2, e3, e4, e5] 42)) := by
  have hz := k6.size
  exact tcut_of HG k6 (((Keep.refl _ w6).alloc _).alloc _) ((heap_alloc_old _ _ (by simp)).trans (heap_alloc_new _ _)) (heap_alloc_at _ _ _ (by simp)) hz (by omega) (.inr (Nat.le_refl _)) (.inr (by omega))
theorem tcut2 (HG : ∀ wx p13 p14, Keep (fun b => b = p13 ∨ b = p14) w6 wx → X.heap.size ≤ p13 → X.heap.size ≤ p14 → (p13 < ysz ∨ w6.heap.size ≤ p13) → (p14 < ysz ∨ w6.heap.size ≤ p14) → TGo W tp q sg sz a b c D (.agg #[e0, e1, e2, e3, e4, e5]) wx)
    (k6 : Keep (fun _ => False) X w6) : TCut W X tp q sg sz (w6.heap.size + 1) w6.heap.size a b c D e0 e1 e2 e3 e4 e5 ((w6.alloc (.cells #[e0, e1, e2, e3, e4, e5] 42)).alloc (.cells #[a, b, c] 35)) := by
  have hz := k6.size
  exact tcut_of HG k6 (((Keep.refl _ w6).alloc _).alloc _) (heap_alloc_at _ _ _ (by simp)) ((heap_alloc_old _ _ (by simp)).trans (heap_alloc_new _ _)) (by omega) hz (.inr (by omega)) (.inr (Nat.le_refl _))
theorem tcut3 (HG : ∀ wx p13 p14, Keep (fun b => b = p13 ∨ b = p14) w6 wx → X.heap.size ≤ p13 → X.heap.size ≤ p14 → (p13 < ysz ∨ w6.heap.size ≤ p13) → (p14 < ysz ∨ w6.heap.size ≤ p14) → TGo W tp q sg sz a b c D (.agg #[e0, e1, e2, e3, e4, e5]) wx)
    (k6 : Keep (fun _ => False) X w6) (AL : AlB w6 p13) (l13 : X.heap.size ≤ p13) (y13 : p13 < ysz) : TCut W X tp q sg sz p13 w6.heap.size a b c D e0 e1 e2 e3 e4 e5 ((((((((((w6.alloc (.cells #[.slice none 0 0, .slice none 0 0, .int .i64 0, .int .i64 0, .bool false, .int .i64 0] 42)).setCell ⟨p13, 0, none⟩ a).setCell ⟨p13, 1, none⟩ b).setCell ⟨p13, 2, none⟩ c).setCell ⟨w6.heap.size, 0, none⟩ e0).setCell ⟨w6.heap.size, 1, none⟩ e1).setCell ⟨w6.heap.size, 2, none⟩ e2).setCell ⟨w6.heap.size, 3, none⟩ e3).setCell ⟨w6.heap.size, 4, none⟩ e4).setCell ⟨w6.heap.size, 5, none⟩ e5) := by
  have hz := k6.size
  have hlt := AL.lt
  have h1 : (w6.alloc (.cells #[.slice none 0 0, .slice none 0 0, .int .i64 0, .int .i64 0, .bool false, .int .i64 0] 42)).heap[p13]? = _ := (AL.alloc _)
  have h2 := heap_three h1 a b c
  have k3 := keep3 (w6.alloc (.cells #[.slice none 0 0, .slice none 0 0, .int .i64 0, .int .i64 0, .bool false, .int .i64 0] 42)) p13 a b c
  have h3 := (k3.block w6.heap.size (by simp) (fun e => by omega)).trans (heap_alloc_new w6 _)
  have k6' := keep6 (set3 (w6.alloc (.cells #[.slice none 0 0, .slice none 0 0, .int .i64 0, .int .i64 0, .bool false, .int .i64 0] 42)) p13 a b c) w6.heap.size e0 e1 e2 e3 e4 e5
  exact tcut_of HG k6 ((((Keep.refl _ w6).alloc _).trans (k3.mono (T := fun b => b = p13 ∨ b = w6.heap.size) (fun _ _ h => .inl h)) (fun _ _ h => h)).trans (k6'.mono (T := fun b => b = p13 ∨ b = w6.heap.size) (fun _ _ h => .inr h)) (fun _ _ h => h)) ((k6'.block _ (Array.getElem?_eq_some_iff.1 h2).1 (fun e => by omega)).trans h2) (heap_six h3 _ _ _ _ _ _) l13 hz (.inl y13) (.inr (Nat.le_refl _))
theorem tcut3b (HG : ∀ wx p13 p14, Keep (fun b => b = p13 ∨ b = p14) w6 wx → X.heap.size ≤ p13 → X.heap.size ≤ p14 → (p13 < ysz ∨ w6.heap.size ≤ p13) → (p14 < ysz ∨ w6.heap.size ≤ p14) → TGo W tp q sg sz a b c D (.agg #[e0, e1, e2, e3, e4, e5]) wx)
    (k6 : Keep (fun _ => False) X w6) (AL : AlB w6 p13) (l13 : X.heap.size ≤ p13) (y13 : p13 < ysz) : TCut W X tp q sg sz p13 w6.heap.size a b c D e0 e1 e2 e3 e4 e5 ((((((((((w6.setCell ⟨p13, 0, none⟩ a).setCell ⟨p13, 1, none⟩ b).setCell ⟨p13, 2, none⟩ c).alloc (.cells #[.slice none 0 0, .slice none 0 0, .int .i64 0, .int .i64 0, .bool false, .int .i64 0] 42)).setCell ⟨w6.heap.size, 0, none⟩ e0).setCell ⟨w6.heap.size, 1, none⟩ e1).setCell ⟨w6.heap.size, 2, none⟩ e2).setCell ⟨w6.heap.size, 3, none⟩ e3).setCell ⟨w6.heap.size, 4, none⟩ e4).setCell ⟨w6.heap.size, 5, none⟩ e5) := by
  have hz := k6.size
  have hlt := AL.lt
  have k3 := keep3 w6 p13 a b c
  have h2 := (heap_alloc_old (set3 w6 p13 a b c) (.cells #[.slice none 0 0, .slice none 0 0, .int .i64 0, .int .i64 0, .bool false, .int .i64 0] 42) (by have := k3.size; omega)).trans (heap_three AL a b c)
  have h3 : ((set3 w6 p13 a b c).alloc (.cells #[.slice none 0 0, .slice none 0 0, .int .i64 0, .int .i64 0, .bool false, .int .i64 0] 42)).heap[w6.heap.size]? = _ := set_new w6 p13 a b c _
  have k6' := keep6 ((set3 w6 p13 a b c).alloc (.cells #[.slice none 0 0, .slice none 0 0, .int .i64 0, .int .i64 0, .bool false, .int .i64 0] 42)) w6.heap.size e0 e1 e2 e3 e4 e5
  exact tcut_of HG k6 (((k3.mono (T := fun b => b = p13 ∨ b = w6.heap.size) (fun _ _ h => .inl h)).alloc _).trans (k6'.mono (T := fun b => b = p13 ∨ b = w6.heap.size) (fun _ _ h => .inr h)) (fun _ _ h => h)) ((k6'.block _ (Array.getElem?_eq_some_iff.1 h2).1 (fun e => by omega)).trans h2) (heap_six h3 _ _ _ _ _ _) l13 hz (.inl y13) (.inr (Nat.le_refl _))
theorem tcut3c (HG : ∀ wx p13 p14, Keep (fun b => b = p13 ∨ b = p14) w6 wx → X.heap.size ≤ p13 → X.heap.size ≤ p14 → (p13 < ysz ∨ w6.heap.size ≤ p13) → (p14 < ysz ∨ w6.heap.size ≤ p14) → TGo W tp q sg sz a b c D (.agg #[e0, e1, e2, e3, e4, e5]) wx)
    (k6 : Keep (fun _ => False) X w6) (AL : AlB w6 p13) (l13 : X.heap.size ≤ p13) (y13 : p13 < ysz) : TCut W X tp q sg sz p13 w6.heap.size a b c D e0 e1 e2 e3 e4 e5 ((((w6.setCell ⟨p13, 0, none⟩ a).setCell ⟨p13, 1, none⟩ b).setCell ⟨p13, 2, none⟩ c).alloc (.cells #[e0, e1, e2, e3, e4, e5] 42)) := by
  have hz := k6.size
  have hlt := AL.lt
  have k3 := keep3 w6 p13 a b c
  have h2 := (heap_alloc_old (set3 w6 p13 a b c) (.cells #[e0, e1, e2, e3, e4, e5] 42) (by have := k3.size; omega)).trans (heap_three AL a b c)
  exact tcut_of HG k6 ((k3.mono (T := fun b => b = p13 ∨ b = w6.heap.size) (fun _ _ h => .inl h)).alloc _) h2 (set_new w6 p13 a b c _) l13 hz (.inl y13) (.inr (Nat.le_refl _))
theorem tcut4 (HG : ∀ wx p13 p14, Keep (fun b => b = p13 ∨ b = p14) w6 wx → X.heap.size ≤ p13 → X.heap.size ≤ p14 → (p13 < ysz ∨ w6.heap.size ≤ p13) → (p14 < ysz ∨ w6.heap.size ≤ p14) → TGo W tp q sg sz a b c D (.agg #[e0, e1, e2, e3, e4, e5]) wx)
    (k6 : Keep (fun _ => False) X w6) (AL : AlB w6 p13) (AG : AlG w6 p14) (hne : p13 ≠ p14) (l13 : X.heap.size ≤ p13) (y13 : p13 < ysz) (l14 : X.heap.size ≤ p14) (y14 : p14 < ysz) : TCut W X tp q sg sz p13 p14 a b c D e0 e1 e2 e3 e4 e5 (((((((((w6.setCell ⟨p13, 0, none⟩ a).setCell ⟨p13, 1, none⟩ b).setCell ⟨p13, 2, none⟩ c).setCell ⟨p14, 0, none⟩ e0).setCell ⟨p14, 1, none⟩ e1).setCell ⟨p14, 2, none⟩ e2).setCell ⟨p14, 3, none⟩ e3).setCell ⟨p14, 4, none⟩ e4).setCell ⟨p14, 5, none⟩ e5) := by
  have k3 := keep3 w6 p13 a b c
  have h2 := heap_three AL a b c
  have h3 := (k3.block p14 AG.lt (fun e => hne e.symm)).trans AG
  have k6' := keep6 (set3 w6 p13 a b c) p14 e0 e1 e2 e3 e4 e5
  exact tcut_of HG k6 ((k3.mono (T := fun b => b = p13 ∨ b = p14) (fun _ _ h => .inl h)).trans (k6'.mono (T := fun b => b = p13 ∨ b = p14) (fun _ _ h => .inr h)) (fun _ _ h => h)) ((k6'.block _ (Array.getElem?_eq_some_iff.1 h2).1 (fun e => hne e)).trans h2) (heap_six h3 _ _ _ _ _ _) l13 l14 (.inl y13) (.inl y14)
theorem tcut5 (HG : ∀ wx p13 p14, Keep (fun b => b = p13 ∨ b = p14) w6 wx → X.heap.size ≤ p13 → X.heap.size ≤ p14 → (p13 < ysz ∨ w6.heap.size ≤ p13) → (p14 < ysz ∨ w6.heap.size ≤ p14) → TGo W tp q sg sz a b c D (.agg #[e0, e1, e2, e3, e4, e5]) wx)
    (k6 : Keep (fun _ => False) X w6) (AG : AlG w6 p14) (l14 : X.heap.size ≤ p14) (y14 : p14 < ysz) : TCut W X tp q sg sz w6.heap.size p14 a b c D e0 e1 e2 e3 e4 e5 (((((((w6.alloc (.cells #[a, b, c] 35)).setCell ⟨p14, 0, none⟩ e0).setCell ⟨p14, 1, none⟩ e1).setCell ⟨p14, 2, none⟩ e2).setCell ⟨p14, 3, none⟩ e3).setCell ⟨p14, 4, none⟩ e4).setCell ⟨p14, 5, none⟩ e5) := by
  have hz := k6.size
  have hlt := AG.lt
  have h2 := heap_alloc_new w6 (.cells #[a, b, c] 35)
  have h3 : (w6.alloc (.cells #[a, b, c] 35)).heap[p14]? = _ := AG.alloc _
  have k6' := keep6 (w6.alloc (.cells #[a, b, c] 35)) p14 e0 e1 e2 e3 e4 e5
  exact tcut_of HG k6 (((Keep.refl (fun b => b = w6.heap.size ∨ b = p14) w6).alloc _).trans (k6'.mono (T := fun b => b = w6.heap.size ∨ b = p14) (fun _ _ h => .inr h)) (fun _ _ h => h)) ((k6'.block _ (Array.getElem?_eq_some_iff.1 h2).1 (fun e => by omega)).trans h2) (heap_six h3 _ _ _ _ _ _) hz l14 (.inr (Nat.le_refl _)) (.inl y14)
end
end Go.Proofs.YtpkeahikfbmcpaaDoor

/- The page's example of layer 11: live. -/
import Derived.Test.YtglliendhbkkhaaGreatDoorEcs9
import Derived.Test.YtglliendhbkkhaaGreatDoorSt1
namespace Go.Proofs.YtglliendhbkkhaaGreatDoor
open Go.RowKit
set_option maxRecDepth 100000
set_option linter.unusedVariables false
set_option linter.unusedSimpArgs false

/-- A core that was made behind w0. -/
structure CoB0 (w0 w : World) (c : Cf) (xp : Nat) (B : CoB) (q : Nat) (a : Co) : Prop where
  m : CoM w c xp B q a
  keep : Keep (fun _ => False) w0 w
  up : ∀ k, CoF xp B a k → w0.heap.size ≤ k
section
variable {w0 w w' : World} {c : Cf} {xp q q' : Nat} {B B' : CoB} {a a' : Co}
theorem CoB0.then_ (h : CoB0 w0 w c xp B q a) (h' : CoAt w c xp (CoF xp B a) q' a' w' B') : CoB0 w0 w' c xp B' q' a' :=
  ⟨h'.1, h.keep.trans h'.2.1 (fun k hk e => by have := h.up k e; omega), fun k hk => by
    rcases h'.2.2 k hk with e | e
    · exact h.up k e
    · exact Nat.le_trans h.keep.size e⟩
theorem CoB0.thenTo (h : CoB0 w0 w c xp B q a) (h' : CoTo w c xp (CoF xp B a) q' a' w') : ∃ B', CoB0 w0 w' c xp B' q' a' := by
  obtain ⟨B', h'⟩ := h'
  exact ⟨B', h.then_ h'⟩
theorem CoB0.same (h : CoB0 w0 w c xp B q a) (hk : Keep (fun _ => False) w w') : CoB0 w0 w' c xp B q a := ⟨h.m.same hk, h.keep.trans hk (fun _ _ h => h), h.up⟩
theorem CoB0.tab (h : CoB0 w0 w c xp B q a) (hT : Tab w0) : Tab w ∧ ¬ CoF xp B a 0 := ⟨hT.same h.keep, fun e => by have := h.up _ e; have := hT.lt; omega⟩
end
def cfA : Cf := ⟨2, 4, 3, 3, [⟨⟨#[97]⟩, 1⟩]⟩
def szA : Nat → Nat := szOf cfA.l
def coA : Co := coNew cfA
def coA1 : Co := (spawnC szA coA).1
def coA2 : Co := leaveC (sgC coA1 1) 0
def coA3 : Co := enterC szA coA2 0 0 1 (entP (sgC coA1 1) 0 ++ [⟨0, [9]⟩])
theorem cfA_ok : checkF cfA = 0 := by decide +kernel
theorem coA_add : addC (tbAt coA 0).ids.length (sgAt coA 0) szA [] = 0 := by decide +kernel
theorem coA_take : (spawnC szA coA).2 = (⟨0, 0⟩, 0) := by decide +kernel
theorem coA_sig : ∀ s ∈ coA.sigs, s < 18446744073709551616 ∧ s &&& allOf cfA.l = s := by decide +kernel
theorem coA1_named : namedC cfA.l coA1 ⟨0, 0⟩ 0 = (1, false, 0) := by decide +kernel
theorem coA1_stands : Stands coA1 0 := ⟨by decide +kernel, by decide +kernel, by decide +kernel, by decide +kernel⟩
theorem coA1_step : stepSig (sgAt coA1 (spAt coA1 0).node) 0 true = 1 := by decide +kernel
theorem coA1_node : nodeI coA1.sigs 1 = 1 := by decide +kernel
theorem coA1_lt : 1 < (nodeS coA1.sigs 1).length := by decide +kernel
theorem coA1_sigs : ∀ s ∈ nodeS coA1.sigs 1, s < 18446744073709551616 ∧ s &&& allOf cfA.l = s := by decide +kernel
theorem coA2_add : addC (tbAt coA2 1).ids.length (sgAt coA2 1) szA (entP (sgC coA1 1) 0 ++ [⟨0, [9]⟩]) = 0 := by decide +kernel
theorem coA3_sig : ∀ s ∈ coA3.sigs, s < 18446744073709551616 ∧ s &&& allOf cfA.l = s := by decide +kernel
theorem coA3_sgs : sgTo coA3.sigs 1 0 coA3.sigs.length = [1] := by decide +kernel
theorem coA3_ids : idsAt coA3 [1] = [⟨0, 0⟩] := by decide +kernel
theorem coA1_len : coA1.sigs.length = 1 := by decide +kernel
theorem clA (w : World) : CL (w.alloc (.cells #[.string ⟨#[97]⟩, .int .i64 1] 86 (0, 0))) (fun b => b = w.heap.size) (.slice (some ⟨w.heap.size, 0, none⟩) 1 1) cfA.l := by
  obtain ⟨x0, x1, -⟩ := cells2 (heap_alloc_new w (.cells #[.string ⟨#[97]⟩, .int .i64 1] 86 (0, 0)))
  refine ⟨_, 1, rfl, Nat.le_refl _, by unfold maxLen; decide, ⟨rfl, fun _ => ⟨_, 0, rfl, rfl, fun i u hu => ?_⟩⟩, fun h => by cases h⟩
  match i, hu with
  | 0, hu => cases hu; exact x0
  | 1, hu => cases hu; exact x1
  | i + 2, hu => simp [cfA, ccells] at hu
set_option maxHeartbeats 4000000 in
theorem live11 (w : World) (hT : Tab w) : Calls Tryz.prog 17 #[] w fun e w' => e = .returned (.bool true) ∧ Below w.heap.size w w' := by
  have HT := Lib.hid hT
  have NW := Lib.hid (show ∀ (X : World) u F, CL X F u cfA.l → Tab X → Calls Tryz.prog 18 #[.agg #[.int .i64 2, .int .i64 4, .int .i64 3, .int .i64 3, u]] X fun e w' => ∃ xp B, e = .returned (.pointer (some ⟨xp, 0, none⟩)) ∧ CoM w' cfA xp B 0 coA ∧ Keep (fun _ => False) X w' ∧ ∀ k, CoF xp B coA k → X.heap.size ≤ k from fun X u F hu ht => e_new_ok X cfA u F hu (by decide) cfA_ok ht)
  have CW := Lib.hid (clA w)
  clear hT
  go_enter Tryz.func17, Tryz.ntmps17
  go_wp2_with fail
  with_reducible refine (NW.out _ _ _ (by exact CW.out.same (by exact (by repeat first | (with_reducible assumption) | (with_reducible exact Keep.refl _ _) | (with_reducible refine Keep.alloc ?_ _) | (with_reducible refine Keep.drew ?_) | (with_reducible refine Keep.drewN ?_ _) | (with_reducible refine Keep.setCell ?_ (.inl (by first | omega | (simp; done) | (simp; omega) | fail)) _)))) (by exact HT.out.same (by exact (by repeat first | (with_reducible assumption) | (with_reducible exact Keep.refl _ _) | (with_reducible refine Keep.alloc ?_ _) | (with_reducible refine Keep.drew ?_) | (with_reducible refine Keep.drewN ?_ _) | (with_reducible refine Keep.setCell ?_ (.inl (by first | omega | (simp; done) | (simp; omega) | fail)) _))))).mono ?_
  rintro e w1 ⟨xp, B, rfl, h1, hk1, hu1⟩
  have Z1 := Lib.hid (show CoB0 w w1 cfA xp B 0 coA from ⟨h1, Keep.trans (T := fun _ => False) (by exact (by repeat first | (with_reducible assumption) | (with_reducible exact Keep.refl _ _) | (with_reducible refine Keep.alloc ?_ _) | (with_reducible refine Keep.drew ?_) | (with_reducible refine Keep.drewN ?_ _) | (with_reducible refine Keep.setCell ?_ (.inl (by first | omega | (simp; done) | (simp; omega) | fail)) _))) hk1 (fun _ _ h => h), fun k hk => by have := hu1 k hk; simp at this; omega⟩)
  clear h1 hk1 hu1 NW CW
  have SP := Lib.hid (show ∀ X, Keep (fun _ => False) w1 X → Calls Tryz.prog 47 #[.pointer (some ⟨xp, 0, none⟩)] X fun e w' => e = .returned (.tuple #[.agg #[.int .i64 0, .int .i64 0], .int .i64 0]) ∧ CoTo X cfA xp (CoF xp B coA) 0 coA1 w' from fun X hk => by
    have z := Z1.out.same hk
    have t := z.tab HT.out
    have := e_spawn z.m (by decide) t.1 t.2 coA_sig (by decide) coA_add
    change Calls _ _ _ _ (fun e w' => e = .returned (.tuple #[.agg #[.int .i64 (spawnC szA coA).2.1.ix, .int .i64 (spawnC szA coA).2.1.gen], .int .i64 (spawnC szA coA).2.2]) ∧ CoTo X cfA xp (CoF xp B coA) 0 coA1 w') at this
    rw [coA_take] at this
    exact this)
  go_wp2_with fail
  with_reducible refine (SP.out _ (by exact (by repeat first | (with_reducible assumption) | (with_reducible exact Keep.refl _ _) | (with_reducible refine Keep.alloc ?_ _) | (with_reducible refine Keep.drew ?_) | (with_reducible refine Keep.drewN ?_ _) | (with_reducible refine Keep.setCell ?_ (.inl (by first | omega | (simp; done) | (simp; omega) | fail)) _)))).mono ?_
  rintro e w2 ⟨rfl, hto⟩
  obtain ⟨B2, z2⟩ := (Z1.out.same (by exact (by repeat first | (with_reducible assumption) | (with_reducible exact Keep.refl _ _) | (with_reducible refine Keep.alloc ?_ _) | (with_reducible refine Keep.drew ?_) | (with_reducible refine Keep.drewN ?_ _) | (with_reducible refine Keep.setCell ?_ (.inl (by first | omega | (simp; done) | (simp; omega) | fail)) _)))).thenTo hto
  have Z2 := Lib.hid z2
  clear hto z2 SP
  have SE := Lib.hid (show ∀ X AD cD F, Keep (fun _ => False) w2 X → By X F (.slice AD 1 cD) [9] → (∀ b, F b → ¬ CoF xp B2 coA1 b) → Calls Tryz.prog 48 #[.pointer (some ⟨xp, 0, none⟩), .agg #[.int .i64 0, .int .i64 0], .int .i64 0, .slice AD 1 cD] X fun e w' => e = .returned (.int .i64 0) ∧ CoTo X cfA xp (CoF xp B2 coA1) 1 coA3 w' from fun X AD cD F hk hd hF => by
    have z := Z2.out.same hk
    have t := z.tab HT.out
    exact e_set_new z.m (by decide) t.1 t.2 0 0 (by decide) 0 (by decide) coA1_stands [9] AD 1 cD F hd hF (by decide) (by decide) coA1_named 1 coA1_step 1 coA1_node coA1_lt coA1_sigs coA2_add)
  go_upto_region 5 with fail
  have HBX := Lib.hid (heap_alloc_new w2 (.cells #[.int .i64 0, .int .i64 0] 40 (0, 0)))
  obtain ⟨y0, y1, yf⟩ := cells2 HBX.out
  have BY := Lib.hid (show By ((w2.alloc (.cells #[.int .i64 0, .int .i64 0] 40 (0, 0))).alloc (.cells #[.int .u8 9] 5 (0, 0))) (fun k => k = w2.heap.size + 1) (.slice (some ⟨w2.heap.size + 1, 0, none⟩) 1 1) [9] from by
    have := By.lit (w2.alloc (.cells #[.int .i64 0, .int .i64 0] 40 (0, 0))) 5 [9] (by decide)
    rw [show (w2.alloc (.cells #[.int .i64 0, .int .i64 0] 40 (0, 0))).heap.size = w2.heap.size + 1 by simp] at this
    exact this)
  have NF := Lib.hid (show ∀ b, b = w2.heap.size + 1 → ¬ CoF xp B2 coA1 b from fun b e h => by have := Z2.out.m.lt b h; omega)
  go_wp2_with fail
  with_reducible refine (SE.out _ _ _ _ (by exact (by repeat first | (with_reducible assumption) | (with_reducible exact Keep.refl _ _) | (with_reducible refine Keep.alloc ?_ _) | (with_reducible refine Keep.drew ?_) | (with_reducible refine Keep.drewN ?_ _) | (with_reducible refine Keep.setCell ?_ (.inl (by first | omega | (simp; done) | (simp; omega) | fail)) _))) (by exact BY.out) (by exact NF.out)).mono ?_
  rintro e w3 ⟨rfl, hto⟩
  obtain ⟨B3, h3⟩ := hto
  have HB3 := Lib.hid (show w3.heap[w2.heap.size]? = some (.cells #[.int .i64 0, .int .i64 0] 40 (0, 0)) from (h3.2.1.block w2.heap.size (by simp; omega) (fun e => absurd (Z2.out.m.lt _ e) (by omega))).trans ((((Keep.refl (fun _ => False) (w2.alloc (.cells #[.int .i64 0, .int .i64 0] 40 (0, 0)))).alloc (.cells #[.int .u8 9] 5 (0, 0))).block w2.heap.size (by simp) (fun h => h)).trans HBX.out))
  have Z3 := Lib.hid ((Z2.out.same (by exact (by repeat first | (with_reducible assumption) | (with_reducible exact Keep.refl _ _) | (with_reducible refine Keep.alloc ?_ _) | (with_reducible refine Keep.drew ?_) | (with_reducible refine Keep.drewN ?_ _) | (with_reducible refine Keep.setCell ?_ (.inl (by first | omega | (simp; done) | (simp; omega) | fail)) _)))).then_ h3)
  have zz3 := h3.2.1.size
  have NF3 := Lib.hid (show ¬ CoF xp B3 coA3 w2.heap.size from fun e => by
    rcases h3.2.2 _ e with e | e
    · have := Z2.out.m.lt _ e; omega
    · simp at e; omega)
  clear h3 SE y0 y1 yf NF BY
  have QY := Lib.hid (show ∀ X, Keep (fun _ => False) w3 X → Calls Tryz.prog 28 #[.pointer (some ⟨xp, 0, none⟩), .int .u64 1, .int .u64 0] X (QyPost X cfA xp B3 1 coA3 [1]) from fun X hk => by
    have z := Z3.out.same hk
    have t := z.tab HT.out
    exact e_query sort_ids z.m (by decide) t.1 t.2 coA3_sig 1 0 (by decide) (by decide) [1] coA3_sgs)
  go_wp2_with fail
  with_reducible refine (QY.out _ (by exact (by repeat first | (with_reducible assumption) | (with_reducible exact Keep.refl _ _) | (with_reducible refine Keep.alloc ?_ _) | (with_reducible refine Keep.drew ?_) | (with_reducible refine Keep.drewN ?_ _) | (with_reducible refine Keep.setCell ?_ (.inl (by first | omega | (simp; done) | (simp; omega) | fail)) _)))).mono ?_
  rintro e w4 ⟨A4, c4, R, m, B4, rfl, ho, hnf, hp, hs, hm, hat⟩
  rw [coA3_ids] at hp
  obtain rfl : R = [⟨0, 0⟩] := List.perm_singleton.1 hp
  have Z4 := Lib.hid ((Z3.out.same (by exact (by repeat first | (with_reducible assumption) | (with_reducible exact Keep.refl _ _) | (with_reducible refine Keep.alloc ?_ _) | (with_reducible refine Keep.drew ?_) | (with_reducible refine Keep.drewN ?_ _) | (with_reducible refine Keep.setCell ?_ (.inl (by first | omega | (simp; done) | (simp; omega) | fail)) _)))).then_ hat)
  have hb4 := (hat.2.1.block w2.heap.size (by simp at zz3; omega) (fun e => NF3.out e)).trans HB3.out
  obtain ⟨g, c9, he, -, -, -, hg1, hg2, hg3⟩ := own_blkQ ho (by decide)
  injection he with e1 e2 e3
  subst e1 e3
  obtain ⟨gc, -⟩ := hg3 w4 (Keep.refl _ _)
  have g0 : w4.cell? ⟨g, 0, none⟩ = some (.int .i64 0) := gc 0 _ rfl
  have g1 : w4.cell? ⟨g, 1, none⟩ = some (.int .i64 0) := gc 1 _ rfl
  obtain ⟨y0, y1, yf⟩ := cells2 hb4
  have CE := Lib.hid (show ∀ W', Keep (fun _ => False) w4 W' → (W'.cell? ⟨g, 0, none⟩ = some (.int .i64 0) ∧ W'.cell? ⟨g, 1, none⟩ = some (.int .i64 0) ∧ W'.cell? ⟨w2.heap.size, 0, none⟩ = some (.int .i64 0) ∧ W'.cell? ⟨w2.heap.size, 1, none⟩ = some (.int .i64 0)) ∧ Keep (fun _ => False) w4 W' from fun W' hk => ⟨⟨hk.cell (fun h => h) g0, hk.cell (fun h => h) g1, hk.cell (fun h => h) y0, hk.cell (fun h => h) y1⟩, hk⟩)
  clear ho hnf hp hs hm hat gc hg3
  go_upto_region 7 with fail
  go_region_held3 (fun W' => (W'.cell? ⟨g, 0, none⟩ = some (.int .i64 0) ∧ W'.cell? ⟨g, 1, none⟩ = some (.int .i64 0) ∧ W'.cell? ⟨w2.heap.size, 0, none⟩ = some (.int .i64 0) ∧ W'.cell? ⟨w2.heap.size, 1, none⟩ = some (.int .i64 0)) ∧ Keep (fun _ => False) w4 W') (exact CE.out _ (by exact (by repeat first | (with_reducible assumption) | (with_reducible exact Keep.refl _ _) | (with_reducible refine Keep.alloc ?_ _) | (with_reducible refine Keep.drew ?_) | (with_reducible refine Keep.drewN ?_ _) | (with_reducible refine Keep.setCell ?_ (.inl (by first | omega | (simp; done) | (simp; omega) | fail)) _)))) (first
    | (go_at_call 35; with_reducible refine (code11 _ _).mono ?_; rintro e wq ⟨rfl, rfl⟩)
    | fail)
  go_wp2
  go_ret
  exact ⟨rfl, ((Z4.out.keep.drew).mono (T := fun b => w.heap.size ≤ b) (fun _ _ h => h.elim)).to_below (Nat.le_refl _)⟩
end Go.Proofs.YtglliendhbkkhaaGreatDoor

/- The page's example of layer 11: live. -/
import Derived.Test.YtglliendhbkkhaaGreatDoorEcsK
import Derived.Test.YtglliendhbkkhaaGreatDoorEcs9
import Derived.Test.YtglliendhbkkhaaGreatDoorSt1
namespace Go.Proofs.YtglliendhbkkhaaGreatDoor
open Go.RowKit
set_option maxRecDepth 100000
set_option linter.unusedVariables false
set_option linter.unusedSimpArgs false

theorem coA3_sgs : sgTo coA3.sigs 1 0 coA3.sigs.length = [1] := by decide +kernel
theorem coA3_ids : idsAt coA3 [1] = [⟨0, 0⟩] := by decide +kernel
set_option maxHeartbeats 4000000 in
theorem live11 (w : World) (hT : Tab w) : Calls Tryz.prog 17 #[] w fun e w' => e = .returned (.bool true) ∧ Below w.heap.size w w' := by
  have HT := Lib.hid hT
  have NW := Lib.hid (show ∀ (X : World) u F, CL X F u cfA.l → Tab X → Calls Tryz.prog 18 #[.agg #[.int .i64 2, .int .i64 4, .int .i64 3, .int .i64 3, u]] X fun e w' => ∃ xp B, e = .returned (.pointer (some ⟨xp, 0, none⟩)) ∧ CoM w' cfA xp B 0 coA ∧ Keep (fun _ => False) X w' ∧ ∀ k, CoF xp B coA k → X.heap.size ≤ k from fun X u F hu ht => e_new_ok X cfA u F hu (by decide) cfA_ok ht)
  have CW := Lib.hid (clA w)
  clear hT
  go_enter Tryz.func17, Tryz.ntmps17
  go_wp2_with fail
  with_reducible refine (NW.out _ _ _ (by exact CW.out.same (by exact (by repeat first | (with_reducible assumption) | (with_reducible exact Keep.refl _ _) | (with_reducible refine Keep.alloc ?_ _) | (with_reducible refine Keep.drew ?_) | (with_reducible refine Keep.drewN ?_ _) | (with_reducible refine Keep.setCell ?_ (.inl (by first | omega | (simp; done) | (simp; omega) | fail)) _)))) (by exact HT.out.same (by exact (by repeat first | (with_reducible assumption) | (with_reducible exact Keep.refl _ _) | (with_reducible refine Keep.alloc ?_ _) | (with_reducible refine Keep.drew ?_) | (with_reducible refine Keep.drewN ?_ _) | (with_reducible refine Keep.setCell ?_ (.inl (by first | omega | (simp; done) | (simp; omega) | fail)) _))))).mono ?_
  rintro e w1 ⟨xp, B, rfl, h1, hk1, hu1⟩
  have Z1 := Lib.hid (show CoB0 w w1 cfA xp B 0 coA from ⟨h1, Keep.trans (T := fun _ => False) (by exact (by repeat first | (with_reducible assumption) | (with_reducible exact Keep.refl _ _) | (with_reducible refine Keep.alloc ?_ _) | (with_reducible refine Keep.drew ?_) | (with_reducible refine Keep.drewN ?_ _) | (with_reducible refine Keep.setCell ?_ (.inl (by first | omega | (simp; done) | (simp; omega) | fail)) _))) hk1 (fun _ _ h => h), fun k hk => by have := hu1 k hk; simp at this; omega⟩)
  clear h1 hk1 hu1 NW CW
  have SP := Lib.hid (show ∀ X, Keep (fun _ => False) w1 X → Calls Tryz.prog 47 #[.pointer (some ⟨xp, 0, none⟩)] X fun e w' => e = .returned (.tuple #[.agg #[.int .i64 0, .int .i64 0], .int .i64 0]) ∧ CoTo X cfA xp (CoF xp B coA) 0 coA1 w' from fun X hk => by
    have z := Z1.out.same hk
    have t := z.tab HT.out
    have := e_spawn z.m (by decide) t.1 t.2 coA_sig (by decide) (fun _ => coA_add)
    change Calls _ _ _ _ (fun e w' => e = .returned (.tuple #[.agg #[.int .i64 (spawnC szA coA).2.1.ix, .int .i64 (spawnC szA coA).2.1.gen], .int .i64 (spawnC szA coA).2.2]) ∧ CoTo X cfA xp (CoF xp B coA) 0 coA1 w') at this
    rw [coA_take] at this
    exact this)
  go_wp2_with fail
  with_reducible refine (SP.out _ (by exact (by repeat first | (with_reducible assumption) | (with_reducible exact Keep.refl _ _) | (with_reducible refine Keep.alloc ?_ _) | (with_reducible refine Keep.drew ?_) | (with_reducible refine Keep.drewN ?_ _) | (with_reducible refine Keep.setCell ?_ (.inl (by first | omega | (simp; done) | (simp; omega) | fail)) _)))).mono ?_
  rintro e w2 ⟨rfl, hto⟩
  obtain ⟨B2, z2⟩ := (Z1.out.same (by exact (by repeat first | (with_reducible assumption) | (with_reducible exact Keep.refl _ _) | (with_reducible refine Keep.alloc ?_ _) | (with_reducible refine Keep.drew ?_) | (with_reducible refine Keep.drewN ?_ _) | (with_reducible refine Keep.setCell ?_ (.inl (by first | omega | (simp; done) | (simp; omega) | fail)) _)))).thenTo hto
  have Z2 := Lib.hid z2
  clear hto z2 SP
  have SE := Lib.hid (show ∀ X AD cD F, Keep (fun _ => False) w2 X → By X F (.slice AD 1 cD) [9] → (∀ b, F b → ¬ CoF xp B2 coA1 b) → Calls Tryz.prog 48 #[.pointer (some ⟨xp, 0, none⟩), .agg #[.int .i64 0, .int .i64 0], .int .i64 0, .slice AD 1 cD] X fun e w' => e = .returned (.int .i64 0) ∧ CoTo X cfA xp (CoF xp B2 coA1) 1 coA3 w' from fun X AD cD F hk hd hF => by
    have z := Z2.out.same hk
    have t := z.tab HT.out
    exact e_set_new z.m (by decide) t.1 t.2 0 0 (by decide) 0 (by decide) coA1_stands [9] AD 1 cD F hd hF (by decide) (by decide) coA1_named 1 coA1_step 1 coA1_node coA1_lt coA1_sigs coA2_add)
  go_upto_region 5 with fail
  have HBX := Lib.hid (heap_alloc_new w2 (.cells #[.int .i64 0, .int .i64 0] 40 (0, 0)))
  obtain ⟨y0, y1, yf⟩ := cells2 HBX.out
  have BY := Lib.hid (show By ((w2.alloc (.cells #[.int .i64 0, .int .i64 0] 40 (0, 0))).alloc (.cells #[.int .u8 9] 5 (0, 0))) (fun k => k = w2.heap.size + 1) (.slice (some ⟨w2.heap.size + 1, 0, none⟩) 1 1) [9] from by
    have := By.lit (w2.alloc (.cells #[.int .i64 0, .int .i64 0] 40 (0, 0))) 5 [9] (by decide)
    rw [show (w2.alloc (.cells #[.int .i64 0, .int .i64 0] 40 (0, 0))).heap.size = w2.heap.size + 1 by simp] at this
    exact this)
  have NF := Lib.hid (show ∀ b, b = w2.heap.size + 1 → ¬ CoF xp B2 coA1 b from fun b e h => by have := Z2.out.m.lt b h; omega)
  go_wp2_with fail
  with_reducible refine (SE.out _ _ _ _ (by exact (by repeat first | (with_reducible assumption) | (with_reducible exact Keep.refl _ _) | (with_reducible refine Keep.alloc ?_ _) | (with_reducible refine Keep.drew ?_) | (with_reducible refine Keep.drewN ?_ _) | (with_reducible refine Keep.setCell ?_ (.inl (by first | omega | (simp; done) | (simp; omega) | fail)) _))) (by exact BY.out) (by exact NF.out)).mono ?_
  rintro e w3 ⟨rfl, hto⟩
  obtain ⟨B3, h3⟩ := hto
  have HB3 := Lib.hid (show w3.heap[w2.heap.size]? = some (.cells #[.int .i64 0, .int .i64 0] 40 (0, 0)) from (h3.2.1.block w2.heap.size (by simp; omega) (fun e => absurd (Z2.out.m.lt _ e) (by omega))).trans ((((Keep.refl (fun _ => False) (w2.alloc (.cells #[.int .i64 0, .int .i64 0] 40 (0, 0)))).alloc (.cells #[.int .u8 9] 5 (0, 0))).block w2.heap.size (by simp) (fun h => h)).trans HBX.out))
  have Z3 := Lib.hid ((Z2.out.same (by exact (by repeat first | (with_reducible assumption) | (with_reducible exact Keep.refl _ _) | (with_reducible refine Keep.alloc ?_ _) | (with_reducible refine Keep.drew ?_) | (with_reducible refine Keep.drewN ?_ _) | (with_reducible refine Keep.setCell ?_ (.inl (by first | omega | (simp; done) | (simp; omega) | fail)) _)))).then_ h3)
  have zz3 := h3.2.1.size
  have NF3 := Lib.hid (show ¬ CoF xp B3 coA3 w2.heap.size from fun e => by
    rcases h3.2.2 _ e with e | e
    · have := Z2.out.m.lt _ e; omega
    · simp at e; omega)
  clear h3 SE y0 y1 yf NF BY
  have QY := Lib.hid (show ∀ X, Keep (fun _ => False) w3 X → Calls Tryz.prog 28 #[.pointer (some ⟨xp, 0, none⟩), .int .u64 1, .int .u64 0] X (QyPost X cfA xp B3 1 coA3 [1]) from fun X hk => by
    have z := Z3.out.same hk
    have t := z.tab HT.out
    exact e_query sort_ids z.m (by decide) t.1 t.2 coA3_sig 1 0 (by decide) (by decide) [1] coA3_sgs)
  go_wp2_with fail
  with_reducible refine (QY.out _ (by exact (by repeat first | (with_reducible assumption) | (with_reducible exact Keep.refl _ _) | (with_reducible refine Keep.alloc ?_ _) | (with_reducible refine Keep.drew ?_) | (with_reducible refine Keep.drewN ?_ _) | (with_reducible refine Keep.setCell ?_ (.inl (by first | omega | (simp; done) | (simp; omega) | fail)) _)))).mono ?_
  rintro e w4 ⟨A4, c4, R, m, B4, rfl, ho, hnf, hp, hs, hm, hat⟩
  rw [coA3_ids] at hp
  obtain rfl : R = [⟨0, 0⟩] := List.perm_singleton.1 hp
  have Z4 := Lib.hid ((Z3.out.same (by exact (by repeat first | (with_reducible assumption) | (with_reducible exact Keep.refl _ _) | (with_reducible refine Keep.alloc ?_ _) | (with_reducible refine Keep.drew ?_) | (with_reducible refine Keep.drewN ?_ _) | (with_reducible refine Keep.setCell ?_ (.inl (by first | omega | (simp; done) | (simp; omega) | fail)) _)))).then_ hat)
  have hb4 := (hat.2.1.block w2.heap.size (by simp at zz3; omega) (fun e => NF3.out e)).trans HB3.out
  obtain ⟨g, c9, he, -, -, -, hg1, hg2, hg3⟩ := own_blkQ ho (by decide)
  injection he with e1 e2 e3
  subst e1 e3
  obtain ⟨gc, -⟩ := hg3 w4 (Keep.refl _ _)
  have g0 : w4.cell? ⟨g, 0, none⟩ = some (.int .i64 0) := gc 0 _ rfl
  have g1 : w4.cell? ⟨g, 1, none⟩ = some (.int .i64 0) := gc 1 _ rfl
  obtain ⟨y0, y1, yf⟩ := cells2 hb4
  have CE := Lib.hid (show ∀ W', Keep (fun _ => False) w4 W' → (W'.cell? ⟨g, 0, none⟩ = some (.int .i64 0) ∧ W'.cell? ⟨g, 1, none⟩ = some (.int .i64 0) ∧ W'.cell? ⟨w2.heap.size, 0, none⟩ = some (.int .i64 0) ∧ W'.cell? ⟨w2.heap.size, 1, none⟩ = some (.int .i64 0)) ∧ Keep (fun _ => False) w4 W' from fun W' hk => ⟨⟨hk.cell (fun h => h) g0, hk.cell (fun h => h) g1, hk.cell (fun h => h) y0, hk.cell (fun h => h) y1⟩, hk⟩)
  clear ho hnf hp hs hm hat gc hg3
  go_upto_region 7 with fail
  go_region_held3 (fun W' => (W'.cell? ⟨g, 0, none⟩ = some (.int .i64 0) ∧ W'.cell? ⟨g, 1, none⟩ = some (.int .i64 0) ∧ W'.cell? ⟨w2.heap.size, 0, none⟩ = some (.int .i64 0) ∧ W'.cell? ⟨w2.heap.size, 1, none⟩ = some (.int .i64 0)) ∧ Keep (fun _ => False) w4 W') (exact CE.out _ (by exact (by repeat first | (with_reducible assumption) | (with_reducible exact Keep.refl _ _) | (with_reducible refine Keep.alloc ?_ _) | (with_reducible refine Keep.drew ?_) | (with_reducible refine Keep.drewN ?_ _) | (with_reducible refine Keep.setCell ?_ (.inl (by first | omega | (simp; done) | (simp; omega) | fail)) _)))) (first
    | (go_at_call 35; with_reducible refine (code11 _ _).mono ?_; rintro e wq ⟨rfl, rfl⟩)
    | fail)
  go_wp2
  go_ret
  exact ⟨rfl, ((Z4.out.keep.drew).mono (T := fun b => w.heap.size ≤ b) (fun _ _ h => h.elim)).to_below (Nat.le_refl _)⟩
end Go.Proofs.YtglliendhbkkhaaGreatDoor

/- The page's example of layer 15: live. -/
import Derived.Test.YtglliendhbkkhaaDoorFl4
import Derived.Test.YtglliendhbkkhaaDoorEcsK
namespace Go.Proofs.YtglliendhbkkhaaDoor
open Go.ChangeShapes Go.WideShapes Go.ChangeAt Go.RowKit
set_option maxRecDepth 100000
set_option linter.unusedVariables false
set_option linter.unusedSimpArgs false

theorem fl_core {S : Type} {w : World} {xp n : Nat} {v : Value} {inv : S → (Nat → Prop) → World → Prop} {F : Nat → Prop} {r : S × List RsZ} (h : Calls Tryd.prog 12 #[ivC xp, v] w (AllPost inv w F n r)) :
    Calls Tryd.prog 8 #[.pointer (some ⟨xp, 0, none⟩), v] w (AllPost inv w F n r) := by
  have H := Lib.hid h
  unfold ivC at H
  clear h
  go_enter Tryd.func8, Tryd.ntmps8
  go_wp2_with fail
  with_reducible refine H.out.mono ?_
  rintro e w' ⟨A, c, F', rfl, h⟩
  have HH := Lib.hid h
  clear h
  go_wp2
  go_ret
  exact ⟨A, c, F', rfl, HH.out⟩
theorem small15 (w : World) : Calls Tryd.prog 10 #[] w fun e w' => ∃ u, e = .returned (confV cfA u) ∧ CL w' (fun b => w.heap.size ≤ b) u cfA.l ∧ Keep (fun _ => False) w w' := by
  go_enter Tryd.func10, Tryd.ntmps10
  go_wp2
  have hc := clA (w.alloc (.cells #[.int .i64 2, .int .i64 4, .int .i64 3, .int .i64 3, .slice (some ⟨w.heap.size + 1, 0, none⟩) 1 1] 42 (0, 0)))
  rw [show (w.alloc (.cells #[.int .i64 2, .int .i64 4, .int .i64 3, .int .i64 3, .slice (some ⟨w.heap.size + 1, 0, none⟩) 1 1] 42 (0, 0))).heap.size = w.heap.size + 1 by simp] at hc
  refine bodyPost_ret (results_confE Tryd.results10 _ _ w.heap.size (.int .i64 2) (.int .i64 4) (.int .i64 3) (.int .i64 3) (.slice (some ⟨w.heap.size + 1, 0, none⟩) 1 1) ?_ ?_) ?_ ⟨.slice (some ⟨w.heap.size + 1, 0, none⟩) 1 1, ?_, ?_, ?_⟩
  · rfl
  · exact (Below.heap_alloc _ _ _ (by simp)).trans (heap_alloc_new w _)
  · rfl
  · rfl
  · exact CL.of_sl ((CL.sl hc).mono (fun b _ h => by omega))
  · exact (by repeat first | (with_reducible assumption) | (with_reducible exact Keep.refl _ _) | (with_reducible refine Keep.alloc ?_ _) | (with_reducible refine Keep.drew ?_) | (with_reducible refine Keep.drewN ?_ _) | (with_reducible refine Keep.setCell ?_ (.inl (by first | omega | (simp; done) | (simp; omega) | fail)) _))
def coB3 : Co := enterC szA coA2 0 0 1 (entP (sgC coA1 1) 0 ++ [⟨0, [5]⟩])
theorem coB2_add : addC (tbAt coA2 1).ids.length (sgAt coA2 1) szA (entP (sgC coA1 1) 0 ++ [⟨0, [5]⟩]) = 0 := by decide +kernel
def st15 : Nat → Co
  | 0 => coA
  | 1 => coA1
  | _ => coB3
def q15 : Nat → Nat
  | 0 => 0
  | 1 => 0
  | _ => 1
def step15 (s : Nat) (x : Cmd) (y : IdZ) : Nat × RsZ := (s + 1, ⟨0, ⟨0, 0⟩⟩)
def inv15 (xp lo : Nat) (s : Nat) (F : Nat → Prop) (w : World) : Prop := ∃ B, CoM w cfA xp B (q15 s) (st15 s) ∧ F = CoF xp B (st15 s) ∧ Tab w ∧ ¬ F 0 ∧ 0 < lo
def pre15 (s : Nat) (x : Cmd) (y : IdZ) : Prop := (s = 0 ∧ x.do_ = 0) ∨ (s = 1 ∧ x.do_ = 2 ∧ x.comp = 0 ∧ x.l = [5] ∧ y = ⟨0, 0⟩)
theorem inv15_to {xp lo s : Nat} {B : CoB} {w w' : World} (hT : Tab w) (hG : ¬ CoF xp B (st15 s) 0) (hlo : 0 < lo) (h : CoTo w cfA xp (CoF xp B (st15 s)) (q15 (s + 1)) (st15 (s + 1)) w') :
    ∃ F', inv15 xp lo (s + 1) F' w' ∧ Keep (CoF xp B (st15 s)) w w' ∧ ∀ b, F' b → CoF xp B (st15 s) b ∨ w.heap.size ≤ b := by
  obtain ⟨B', h1, h2, h3⟩ := h
  refine ⟨_, ⟨B', h1, rfl, hT.keep h2 hG, fun e => ?_, hlo⟩, h2, h3⟩
  rcases h3 _ e with e | e
  · exact hG e
  · have := hT.lt; omega
theorem doer15 (xp lo : Nat) : Doer step15 (ivC xp) lo (inv15 xp lo) pre15 where
  lt := fun s F w ⟨B, h, e, _⟩ b hb => h.lt b (by rw [← e]; exact hb)
  keep := fun s F w w' T ⟨B, h, e, hT, hG, hlo⟩ hk hF hT2 => ⟨B, h.keep hk (fun k hk => hF k (by rw [e]; exact hk)), e, hT.keep hk (fun e => by have := hT2 _ e; omega), hG, hlo⟩
  one := fun s F w x d y G ⟨B, h, e, hT, hG, hlo⟩ hp hd hGF => by
    subst e
    rcases hp with ⟨rfl, hx⟩ | ⟨rfl, hx, hc, hl, rfl⟩
    · refine (fl_one_spawn (a := coA) (a' := coA1)  (q' := 0) (c := cfA) (ix := 0) (gn := 0) (er := 0) (fun k hk => h.lt k hk) (fun X hk => ?_) x hx d y).mono fun e w' ⟨h1, h2⟩ => ⟨h1, inv15_to (s := 0) hT hG hlo h2⟩
      have := e_spawn (h.same hk) (by decide) (hT.same hk) hG coA_sig (by decide) coA_add
      change Calls _ _ _ _ (fun e w' => e = .returned (.tuple #[.agg #[.int .i64 (spawnC szA coA).2.1.ix, .int .i64 (spawnC szA coA).2.1.gen], .int .i64 (spawnC szA coA).2.2]) ∧ CoTo X cfA xp (CoF xp B coA) 0 coA1 w') at this
      rw [coA_take] at this
      exact this
    · rw [hl] at hd
      obtain ⟨A, cc, hd0⟩ : ∃ A cc, d = .slice A 1 cc := by
        obtain ⟨A, cc, e, _⟩ := hd
        exact ⟨A, cc, e⟩
      refine (fl_one_set (a := coA1) (a' := coB3) (q' := 1) (c := cfA) (er := 0) (fun k hk => h.lt k hk) x hx d ⟨0, 0⟩ (fun X hk => ?_) ⟨A, 1, cc, hd0⟩).mono fun e w' ⟨h1, h2⟩ => ⟨h1, inv15_to (s := 1) hT hG hlo h2⟩
      rw [hc]
      subst hd0
      exact e_set_new (h.same hk) (by decide) (hT.same hk) hG 0 0 (by decide) 0 (by decide) coA1_stands [5] A 1 cc G (hd.keep hk (fun _ _ _ h => h)) hGF (by decide) (by decide) coA1_named 1 coA1_step 1 coA1_node coA1_lt coA1_sigs coB2_add
def cm15 : List Cmd := [⟨0, false, 0, 0, 0, []⟩, ⟨2, true, 0, 0, 0, [5]⟩]
theorem all15 : (allT step15 0 cm15 2).2 = [⟨0, ⟨0, 0⟩⟩, ⟨0, ⟨0, 0⟩⟩] := by decide +kernel
set_option maxHeartbeats 4000000 in
theorem live15 (w : World) (hT : Tab w) : Calls Tryd.prog 5 #[] w fun e w' => e = .returned (.bool true) ∧ Below w.heap.size w w' := by
  have HT := Lib.hid hT
  have NW := Lib.hid (show ∀ (X : World) u F, CL X F u cfA.l → Tab X → Calls Tryd.prog 9 #[confV cfA u] X fun e w' => ∃ xp B, e = .returned (.pointer (some ⟨xp, 0, none⟩)) ∧ CoM w' cfA xp B 0 coA ∧ Keep (fun _ => False) X w' ∧ ∀ k, CoF xp B coA k → X.heap.size ≤ k from fun X u F hu ht => e_new_ok X cfA u F hu (by decide) cfA_ok ht)
  clear hT
  go_enter Tryd.func5, Tryd.ntmps5
  go_wp2_with fail
  with_reducible refine (small15 _).mono ?_
  rintro e w1 ⟨u, rfl, hu, hk1⟩
  have H1 := Lib.hid (And.intro hu hk1)
  clear hu hk1
  go_wp2_with fail
  with_reducible refine (NW.out _ _ _ (by exact H1.out.1) (by exact HT.out.same H1.out.2)).mono ?_
  rintro e w2 ⟨xp, B, rfl, h2, hk2, hu2⟩
  have H2 := Lib.hid (And.intro h2 (And.intro (H1.out.2.trans hk2 (fun _ _ h => h)) hu2))
  have hz1 := H1.out.2.size
  clear h2 hk2 hu2 NW
  go_wp2_with fail
  obtain ⟨X, hX⟩ : ∃ X, X = (w2.alloc (.cells #[.int .u8 5] 5 (0, 0))).alloc (.cells #[.int .i64 0, .bool false, .int .i64 0, .int .i64 0, .int .i64 0, .slice none 0 0, .int .i64 2, .bool true, .int .i64 0, .int .i64 0, .int .i64 0, .slice (some ⟨w2.heap.size, 0, none⟩) 1 1] 37 (0, 0)) := ⟨_, rfl⟩
  rw [← hX]
  have KX := Lib.hid (show Keep (fun _ => False) w2 X ∧ X.heap.size = w2.heap.size + 2 from by rw [hX]; exact ⟨((Keep.refl _ w2).alloc _).alloc _, by simp⟩)
  have CMS := Lib.hid (show NS cmN X (fun b => b = w2.heap.size ∨ b = w2.heap.size + 1) (.slice (some ⟨w2.heap.size + 1, 0, none⟩) 2 2) cm15 from by
    have hby : By X (fun b => b = w2.heap.size ∨ b = w2.heap.size + 1) (.slice (some ⟨w2.heap.size, 0, none⟩) 1 1) [5] := by
      rw [hX]
      exact By.mono (By.keep (By.lit w2 5 [5] (by decide)) ((Keep.refl (fun _ => False) _).alloc _) (fun _ _ _ h => h)) (fun b _ h => .inl h)
    have hr := Rd.lit (w2.alloc (.cells #[.int .u8 5] 5 (0, 0))) 37 [.int .i64 0, .bool false, .int .i64 0, .int .i64 0, .int .i64 0, .slice none 0 0, .int .i64 2, .bool true, .int .i64 0, .int .i64 0, .int .i64 0, .slice (some ⟨w2.heap.size, 0, none⟩) 1 1]
    rw [show (w2.alloc (.cells #[.int .u8 5] 5 (0, 0))).heap.size = w2.heap.size + 1 by simp] at hr
    have hr2 : Rd X (fun b => b = w2.heap.size ∨ b = w2.heap.size + 1) (some ⟨w2.heap.size + 1, 0, none⟩) 12 [.int .i64 0, .bool false, .int .i64 0, .int .i64 0, .int .i64 0, .slice none 0 0, .int .i64 2, .bool true, .int .i64 0, .int .i64 0, .int .i64 0, .slice (some ⟨w2.heap.size, 0, none⟩) 1 1] := by
      rw [hX]
      exact hr.mono (fun b _ h => .inr h)
    refine ⟨[.slice none 0 0, .slice (some ⟨w2.heap.size, 0, none⟩) 1 1], rfl, ⟨_, 2, rfl, Nat.le_refl _, by unfold maxLen; decide, hr2, fun h => by cases h⟩, fun i x v hx hv => ?_⟩
    match i, hx, hv with
    | 0, hx, hv =>
      cases hx
      cases hv
      exact By.nil _ _
    | 1, hx, hv =>
      cases hx
      cases hv
      exact hby
    | i + 2, hx, hv => simp [cm15] at hx)
  clear hX
  have FA := Lib.hid (fl_core (fl_all step15 (doer15 xp X.heap.size) 0 (CoF xp B coA) X (Nat.le_refl _) ⟨B, H2.out.1.same KX.out.1, rfl, HT.out.same (H2.out.2.1.trans KX.out.1 (fun _ _ h => h)), fun e => by have := H2.out.2.2 _ e; have := HT.out.lt; omega, by have := HT.out.lt; have := (H2.out.2.1.trans KX.out.1 (fun _ _ h => h)).size; omega⟩ cm15 _ _ CMS.out (fun b hb e => by have := H2.out.1.lt b e; rcases hb with h | h <;> omega) (by decide) (by decide) (fun j x hx _ => by
    match j, hx with
    | 0, hx =>
      cases hx
      exact .inl ⟨rfl, rfl⟩
    | 1, hx =>
      cases hx
      exact .inr ⟨rfl, rfl, rfl, rfl, by decide +kernel⟩
    | j + 2, hx => simp [cm15] at hx)))
  with_reducible refine FA.out.mono ?_
  rintro e w3 ⟨A3, c3, F3, rfl, ho, -, hk3, -, -⟩
  have K3 := Lib.hid (show Keep (fun b => w.heap.size ≤ b) w w3 from ((H2.out.2.1.trans KX.out.1 (fun _ _ h => h)).mono (T := fun b => w.heap.size ≤ b) (fun _ _ h => h.elim)).trans hk3 (fun b hb h => by have := H2.out.2.2 b h; have := H1.out.2.size; omega))
  have ho2 : Own w3 X.heap.size 33 3 (.slice A3 2 c3) 2 (([⟨0, ⟨0, 0⟩⟩, ⟨0, ⟨0, 0⟩⟩] : List RsZ).flatMap rsC) := by
    rw [← all15]; exact ho
  obtain ⟨g, c9, he, -, -, -, -, -, hg3⟩ := own_blkQ ho2 (by decide)
  injection he with e1 e2 e3
  subst e1 e3
  obtain ⟨gc, -⟩ := hg3 w3 (Keep.refl _ _)
  have g0 : w3.cell? ⟨g, 0, none⟩ = some (.int .i64 0) := gc 0 _ rfl
  have g3 : w3.cell? ⟨g, 3, none⟩ = some (.int .i64 0) := gc 3 _ rfl
  clear ho ho2 hk3 gc hg3
  go_wp2
  go_ret
  exact ⟨rfl, K3.out.to_below (Nat.le_refl _)⟩
end Go.Proofs.YtglliendhbkkhaaDoor

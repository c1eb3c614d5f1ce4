/- Contract of vivariumref07.Get. Printed by gencompf.py. -/
import Derived.Test.YtakchlaoimnnhaaCompE
import Derived.Test.YtakchlaoimnnhaaComp5
namespace Go.Proofs.Ytakchlaoimnnhaa
open Go.RowKit
set_option maxRecDepth 100000
set_option linter.unusedVariables false
set_option linter.unusedSimpArgs false

/-- The result's box, the layout's box. -/
def GH (w : World) (C : Nat) (v0 v1 v2 v3 : Int) (u : Value) (W : World) : Prop :=
  W.heap[w.heap.size]? = some (.cells #[.int .i64 0, .int .i64 0, .int .i64 0, .int .i64 0, .slice none 0 0] 66 (0, 0)) ∧
  W.heap[C]? = some (.cells #[.int .i64 v0, .int .i64 v1, .int .i64 v2, .int .i64 v3, u] 66 (0, 0)) ∧ Below w.heap.size w W
theorem GH.keep {w W W' : World} {C : Nat} {v0 v1 v2 v3 : Int} {u : Value} {S : Nat → Prop} (h : GH w C v0 v1 v2 v3 u W) (hn : w.heap.size < C) (hk : Keep S W W') (hs : ∀ x, S x → C < x) : GH w C v0 v1 v2 v3 u W' :=
  ⟨(hk.block _ (Array.getElem?_eq_some_iff.1 h.1).1 (fun hx => by have := hs _ hx; omega)).trans h.1, (hk.block _ (Array.getElem?_eq_some_iff.1 h.2.1).1 (fun hx => by have := hs _ hx; omega)).trans h.2.1, ((Keep.of_below h.2.2).trans hk (fun x _ hS => by have := hs _ hS; omega)).to_below (Nat.le_refl _)⟩
theorem GH.set4 {w W : World} {C : Nat} {v0 v1 v2 v3 : Int} {u : Value} (h : GH w C v0 v1 v2 v3 u W) (hn : w.heap.size < C) (z : Value) : GH w C v0 v1 v2 v3 z (W.setCell ⟨C, 4, none⟩ z) :=
  ⟨((keepC W C 4 z).block _ (Array.getElem?_eq_some_iff.1 h.1).1 (by omega)).trans h.1, by rw [heap_setCell_same W C 4 _ _ _ h.2.1]; rfl, ((Keep.of_below h.2.2).trans (keepC W C 4 z) (fun x _ hS => by omega)).to_below (Nat.le_refl _)⟩
/-- The result's box alone. -/
def GR (w W : World) : Prop :=
  W.heap[w.heap.size]? = some (.cells #[.int .i64 0, .int .i64 0, .int .i64 0, .int .i64 0, .slice none 0 0] 66 (0, 0)) ∧ Below w.heap.size w W
theorem GR.keep {w W W' : World} {S : Nat → Prop} (h : GR w W) (hk : Keep S W W') (hs : ∀ x, S x → w.heap.size < x) : GR w W' :=
  ⟨(hk.block _ (Array.getElem?_eq_some_iff.1 h.1).1 (fun hx => by have := hs _ hx; omega)).trans h.1, ((Keep.of_below h.2).trans hk (fun x _ hS => by have := hs _ hS; omega)).to_below (Nat.le_refl _)⟩
def four (b : List UInt8) : List Int := [getZ b (0 : Nat) 4, getZ b (4 : Nat) 4, getZ b (8 : Nat) 4, getZ b (12 : Nat) 4]
theorem info_intF : (Try.prog.info? 3).map (fun i => (i.zero, i.size, i.bytes)) = some (some (.int .i64 0), 1, 8) := by kernel_rfl
theorem compAt_none {b : List UInt8} {k m : Nat} (h : compAt b k = none) (hm : k ≤ m) : compAt b m = none := by
  induction m with
  | zero =>
    obtain rfl : k = 0 := by omega
    exact h
  | succ m ih =>
    by_cases e : k = m + 1
    · rw [← e]; exact h
    · have h2 := ih (by omega)
      simp only [compAt, h2, nextC]
theorem compAt_small {b : List UInt8} : ∀ {k a : Nat} {l : List Cp}, compAt b k = some (a, l) → ∀ x ∈ l, x.nm.size ≤ 65535
  | 0, a, l, e => by
    cases e
    intro x hx
    cases hx
  | k + 1, a, l, e => by
    cases hr : compAt b k with
    | none => simp only [compAt, hr, nextC] at e; cases e
    | some r =>
      obtain ⟨a0, l0⟩ := r
      simp only [compAt, hr, nextC] at e
      split at e
      · rename_i ho
        injection e with e
        injection e with e1 e2
        subst e1 e2
        intro x hx
        rcases List.mem_append.1 hx with hx | hx
        · exact compAt_small hr x hx
        · obtain rfl := List.mem_singleton.1 hx
          unfold okC at ho
          have h1 := lenAt_le ho.1
          show (pieceOf b (a0 + 2) (lenAt b a0)).toArray.size ≤ 65535
          rw [List.size_toArray, piece_len _ _ _ (by omega)]
          exact h1
      · cases e
set_option maxHeartbeats 8000000 in
theorem rgetF_any (b : List UInt8) (v : Value) (F : Nat → Prop) (w : World) (hv : By w F v b) (hn : b.length ≤ 1099511627776) :
    Calls Try.prog 44 #[v] w (GFPost w (getF b)) := by
  have HV := Lib.hid (show ∀ W, Below w.heap.size w W → By W F v b from fun W hb => hv.below hb)
  obtain ⟨i0, hi0, hz0, hz1, hz2⟩ := info_parts info_intF
  obtain ⟨r, hr⟩ : ∃ r, r = getF b := ⟨_, rfl⟩
  rw [← hr]
  have HR := Lib.hid hr
  clear hr
  obtain ⟨A, c, rfl, hbc, hcm, -⟩ := hv
  obtain ⟨n, hbl⟩ : ∃ n, n = b.length := ⟨_, rfl⟩
  rw [← hbl] at hbc hn HV ⊢
  have NB := Lib.hid hbl
  have RG := Lib.hid (fun W (hb : Below w.heap.size w W) (at_ : Nat) (width : Int) (h1 : at_ ≤ 1099511627776) => refGet_any b _ F (at_ : Nat) width W (HV.out W hb) (by omega) (by omega))
  clear hbl
  go_enter Try.func44, Try.ntmps44
  go_upto_region 1 with fail
  refine wp_world (S := fun X => GR w X) ⟨heap_alloc_new w _, by exact (by repeat first | exact Below.refl _ _ | refine Below.setCell ?_ (by first | omega | (simp; done) | (simp; omega)) _ | refine Below.alloc ?_ (by first | omega | (simp; done) | (simp; omega)) _ | refine Below.drew ?_ | refine below_drewN ?_ _ | assumption)⟩ ?_
  intro X hX
  have HX := Lib.hid hX
  clear hX
  go_wp2
  go_loopw [4, 5] (fun t i wr => ∃ k : Nat, k ≤ 4 ∧ i = .int .i64 k ∧ (4 * k ≤ n ∧ ∃ A0 n0 c0, t = .slice A0 n0 c0 ∧ Hid (GR w wr ∧ Own wr (w.heap.size + 1) 3 1 (.slice A0 n0 c0) k (iv ((four b).take k)) ∧ w.heap.size < wr.heap.size))) (fun _ i _ => 4 - (intOf i).toNat)
  case atStart => exact ⟨0, by omega, rfl, by omega, none, 0, 0, rfl, Lib.hid ⟨HX.out, Own.none_ _ _ _ _ _, (Array.getElem?_eq_some_iff.1 HX.out.1).1⟩⟩
  case round =>
    obtain ⟨k, hk, rfl, hkn, A0, n0, c0, rfl, HG⟩ := hrel
    obtain ⟨r0, r1, r2, r3, r4, rf⟩ := cells5 HG.out.1.1
    rcases (show k = 0 ∨ k = 1 ∨ k = 2 ∨ k = 3 ∨ k = 4 by omega) with rfl | rfl | rfl | rfl | rfl
    · have GC := Lib.hid (RG.out wr HG.out.1.2 0 4 (by omega))
      by_cases hok : 4 ≤ n
      · have eo : getOk b ((0 : Nat) : Int) 4 = true := getOk_yes (by rw [wT4]; have := NB.out; omega)
        rw [eo] at GC
        have HE := Lib.hid (show (four b).take 1 = (four b).take 0 ++ [getZ b ((0 : Nat) : Int) 4] from rfl)
        generalize getZ b ((0 : Nat) : Int) 4 = z at *
        clear eo
        have GC2 : Hid (Calls Try.prog 67 #[.slice A n c, .int .i64 0, .int .i64 4] wr fun e w' => e = .returned (.tuple #[.int .i64 z, .bool true]) ∧ wr = w') := GC
        go_wp2_with fail
        with_reducible refine GC2.out.mono ?_
        rintro e w3 ⟨rfl, rfl⟩
        have HO := Lib.hid (HG.out.2.1.keep ((Keep.refl (fun _ => False) wr).alloc (.cells #[.int .i64 z] 3 (0, 0))) (fun _ _ h => h))
        have x0 := (cells1 (heap_alloc_new wr (.cells #[.int .i64 z] 3 (0, 0)))).1
        go_wp2_with (at_builtin; refine wpList_append_gen _ rfl _ _ _ _ rfl (w.heap.size + 1) 3 i0 _ 1 8 Try.underlying74 hi0 hz0 hz1 hz2 rfl _ _ _ rfl HO.out _ 1 _ rfl (src_at Try.underlying74 rfl x0) (by unfold maxLen; omega) (by omega) (by have := HG.out.2.2; simp; omega) ?_)
        intro v4 w4 ho4 hk4 _
        obtain ⟨A4, c4, rfl, -⟩ := ho4.form
        have HG4 := Lib.hid (And.intro (GR.keep (S := fun q => ownB (.slice A0 n0 c0) = some q) (GR.keep (S := fun _ => False) HG.out.1 ((Keep.refl _ wr).alloc _) (fun _ h => h.elim)) hk4 (fun q e => by have := (Own.ownB HG.out.2.1 q e).1; omega)) (And.intro (show Own w4 (w.heap.size + 1) 3 1 (.slice A4 1 c4) 1 (iv ((four b).take 1)) from by rw [HE.out]; exact ho4) (Nat.lt_of_lt_of_le HG.out.2.2 (Nat.le_trans (by simp) hk4.size))))
        clear ho4 hk4 HO x0
        go_wp2
        go_roundw
        case rel => exact ⟨1, by omega, by first | rfl | trivial | go_num, by omega, A4, 1, c4, by first | rfl | trivial, HG4⟩
        case measure => simp [intOf]
      · have eo : getOk b ((0 : Nat) : Int) 4 = false := getOk_no (.inr (by rw [wT4]; have := NB.out; omega))
        rw [eo] at GC
        have ER := Lib.hid (show r = (zeroF, 12) from by
          rw [HR.out]
          unfold getF
          have := NB.out
          rw [if_pos (by omega)])
        generalize getZ b ((0 : Nat) : Int) 4 = z at *
        have GC2 : Hid (Calls Try.prog 67 #[.slice A n c, .int .i64 0, .int .i64 4] wr fun e w' => e = .returned (.tuple #[.int .i64 z, .bool false]) ∧ wr = w') := GC
        clear eo
        go_wp2_with fail
        with_reducible refine GC2.out.mono ?_
        rintro e w3 ⟨rfl, rfl⟩
        go_wp2
        have KK := keepS5 wr w.heap.size (.int .i64 0) (.int .i64 0) (.int .i64 0) (.int .i64 0) (.slice none 0 0)
        have HS := stored5 HG.out.1.1 (.int .i64 0) (.int .i64 0) (.int .i64 0) (.int .i64 0) (.slice none 0 0)
        generalize (((((wr.setCell ⟨w.heap.size, 0, none⟩ (.int .i64 0)).setCell ⟨w.heap.size, 1, none⟩ (.int .i64 0)).setCell ⟨w.heap.size, 2, none⟩ (.int .i64 0)).setCell ⟨w.heap.size, 3, none⟩ (.int .i64 0)).setCell ⟨w.heap.size, 4, none⟩ (.slice none 0 0)) = W7 at KK HS ⊢
        refine bodyPost_ret (results_conf2 rfl _ _ w.heap.size _ _ _ _ _ rfl (show W7.heap[w.heap.size]? = _ from HS) _ rfl) rfl ?_
        rw [ER.out]
        exact ⟨none, 0, 0, rfl, CL.nil _ _, ((Keep.of_below HG.out.1.2).trans KK (fun x _ e => by omega)).to_below (Nat.le_refl _)⟩
    · have GC := Lib.hid (RG.out wr HG.out.1.2 4 4 (by omega))
      by_cases hok : 8 ≤ n
      · have eo : getOk b ((4 : Nat) : Int) 4 = true := getOk_yes (by rw [wT4]; have := NB.out; omega)
        rw [eo] at GC
        have HE := Lib.hid (show (four b).take 2 = (four b).take 1 ++ [getZ b ((4 : Nat) : Int) 4] from rfl)
        generalize getZ b ((4 : Nat) : Int) 4 = z at *
        clear eo
        have GC2 : Hid (Calls Try.prog 67 #[.slice A n c, .int .i64 4, .int .i64 4] wr fun e w' => e = .returned (.tuple #[.int .i64 z, .bool true]) ∧ wr = w') := GC
        go_wp2_with fail
        with_reducible refine GC2.out.mono ?_
        rintro e w3 ⟨rfl, rfl⟩
        have HO := Lib.hid (HG.out.2.1.keep ((Keep.refl (fun _ => False) wr).alloc (.cells #[.int .i64 z] 3 (0, 0))) (fun _ _ h => h))
        have x0 := (cells1 (heap_alloc_new wr (.cells #[.int .i64 z] 3 (0, 0)))).1
        go_wp2_with (at_builtin; refine wpList_append_gen _ rfl _ _ _ _ rfl (w.heap.size + 1) 3 i0 _ 1 8 Try.underlying74 hi0 hz0 hz1 hz2 rfl _ _ _ rfl HO.out _ 1 _ rfl (src_at Try.underlying74 rfl x0) (by unfold maxLen; omega) (by omega) (by have := HG.out.2.2; simp; omega) ?_)
        intro v4 w4 ho4 hk4 _
        obtain ⟨A4, c4, rfl, -⟩ := ho4.form
        have HG4 := Lib.hid (And.intro (GR.keep (S := fun q => ownB (.slice A0 n0 c0) = some q) (GR.keep (S := fun _ => False) HG.out.1 ((Keep.refl _ wr).alloc _) (fun _ h => h.elim)) hk4 (fun q e => by have := (Own.ownB HG.out.2.1 q e).1; omega)) (And.intro (show Own w4 (w.heap.size + 1) 3 1 (.slice A4 2 c4) 2 (iv ((four b).take 2)) from by rw [HE.out]; exact ho4) (Nat.lt_of_lt_of_le HG.out.2.2 (Nat.le_trans (by simp) hk4.size))))
        clear ho4 hk4 HO x0
        go_wp2
        go_roundw
        case rel => exact ⟨2, by omega, by first | rfl | trivial | go_num, by omega, A4, 2, c4, by first | rfl | trivial, HG4⟩
        case measure => simp [intOf]
      · have eo : getOk b ((4 : Nat) : Int) 4 = false := getOk_no (.inr (by rw [wT4]; have := NB.out; omega))
        rw [eo] at GC
        have ER := Lib.hid (show r = (zeroF, 12) from by
          rw [HR.out]
          unfold getF
          have := NB.out
          rw [if_pos (by omega)])
        generalize getZ b ((4 : Nat) : Int) 4 = z at *
        have GC2 : Hid (Calls Try.prog 67 #[.slice A n c, .int .i64 4, .int .i64 4] wr fun e w' => e = .returned (.tuple #[.int .i64 z, .bool false]) ∧ wr = w') := GC
        clear eo
        go_wp2_with fail
        with_reducible refine GC2.out.mono ?_
        rintro e w3 ⟨rfl, rfl⟩
        go_wp2
        have KK := keepS5 wr w.heap.size (.int .i64 0) (.int .i64 0) (.int .i64 0) (.int .i64 0) (.slice none 0 0)
        have HS := stored5 HG.out.1.1 (.int .i64 0) (.int .i64 0) (.int .i64 0) (.int .i64 0) (.slice none 0 0)
        generalize (((((wr.setCell ⟨w.heap.size, 0, none⟩ (.int .i64 0)).setCell ⟨w.heap.size, 1, none⟩ (.int .i64 0)).setCell ⟨w.heap.size, 2, none⟩ (.int .i64 0)).setCell ⟨w.heap.size, 3, none⟩ (.int .i64 0)).setCell ⟨w.heap.size, 4, none⟩ (.slice none 0 0)) = W7 at KK HS ⊢
        refine bodyPost_ret (results_conf2 rfl _ _ w.heap.size _ _ _ _ _ rfl (show W7.heap[w.heap.size]? = _ from HS) _ rfl) rfl ?_
        rw [ER.out]
        exact ⟨none, 0, 0, rfl, CL.nil _ _, ((Keep.of_below HG.out.1.2).trans KK (fun x _ e => by omega)).to_below (Nat.le_refl _)⟩
    · have GC := Lib.hid (RG.out wr HG.out.1.2 8 4 (by omega))
      by_cases hok : 12 ≤ n
      · have eo : getOk b ((8 : Nat) : Int) 4 = true := getOk_yes (by rw [wT4]; have := NB.out; omega)
        rw [eo] at GC
        have HE := Lib.hid (show (four b).take 3 = (four b).take 2 ++ [getZ b ((8 : Nat) : Int) 4] from rfl)
        generalize getZ b ((8 : Nat) : Int) 4 = z at *
        clear eo
        have GC2 : Hid (Calls Try.prog 67 #[.slice A n c, .int .i64 8, .int .i64 4] wr fun e w' => e = .returned (.tuple #[.int .i64 z, .bool true]) ∧ wr = w') := GC
        go_wp2_with fail
        with_reducible refine GC2.out.mono ?_
        rintro e w3 ⟨rfl, rfl⟩
        have HO := Lib.hid (HG.out.2.1.keep ((Keep.refl (fun _ => False) wr).alloc (.cells #[.int .i64 z] 3 (0, 0))) (fun _ _ h => h))
        have x0 := (cells1 (heap_alloc_new wr (.cells #[.int .i64 z] 3 (0, 0)))).1
        go_wp2_with (at_builtin; refine wpList_append_gen _ rfl _ _ _ _ rfl (w.heap.size + 1) 3 i0 _ 1 8 Try.underlying74 hi0 hz0 hz1 hz2 rfl _ _ _ rfl HO.out _ 1 _ rfl (src_at Try.underlying74 rfl x0) (by unfold maxLen; omega) (by omega) (by have := HG.out.2.2; simp; omega) ?_)
        intro v4 w4 ho4 hk4 _
        obtain ⟨A4, c4, rfl, -⟩ := ho4.form
        have HG4 := Lib.hid (And.intro (GR.keep (S := fun q => ownB (.slice A0 n0 c0) = some q) (GR.keep (S := fun _ => False) HG.out.1 ((Keep.refl _ wr).alloc _) (fun _ h => h.elim)) hk4 (fun q e => by have := (Own.ownB HG.out.2.1 q e).1; omega)) (And.intro (show Own w4 (w.heap.size + 1) 3 1 (.slice A4 3 c4) 3 (iv ((four b).take 3)) from by rw [HE.out]; exact ho4) (Nat.lt_of_lt_of_le HG.out.2.2 (Nat.le_trans (by simp) hk4.size))))
        clear ho4 hk4 HO x0
        go_wp2
        go_roundw
        case rel => exact ⟨3, by omega, by first | rfl | trivial | go_num, by omega, A4, 3, c4, by first | rfl | trivial, HG4⟩
        case measure => simp [intOf]
      · have eo : getOk b ((8 : Nat) : Int) 4 = false := getOk_no (.inr (by rw [wT4]; have := NB.out; omega))
        rw [eo] at GC
        have ER := Lib.hid (show r = (zeroF, 12) from by
          rw [HR.out]
          unfold getF
          have := NB.out
          rw [if_pos (by omega)])
        generalize getZ b ((8 : Nat) : Int) 4 = z at *
        have GC2 : Hid (Calls Try.prog 67 #[.slice A n c, .int .i64 8, .int .i64 4] wr fun e w' => e = .returned (.tuple #[.int .i64 z, .bool false]) ∧ wr = w') := GC
        clear eo
        go_wp2_with fail
        with_reducible refine GC2.out.mono ?_
        rintro e w3 ⟨rfl, rfl⟩
        go_wp2
        have KK := keepS5 wr w.heap.size (.int .i64 0) (.int .i64 0) (.int .i64 0) (.int .i64 0) (.slice none 0 0)
        have HS := stored5 HG.out.1.1 (.int .i64 0) (.int .i64 0) (.int .i64 0) (.int .i64 0) (.slice none 0 0)
        generalize (((((wr.setCell ⟨w.heap.size, 0, none⟩ (.int .i64 0)).setCell ⟨w.heap.size, 1, none⟩ (.int .i64 0)).setCell ⟨w.heap.size, 2, none⟩ (.int .i64 0)).setCell ⟨w.heap.size, 3, none⟩ (.int .i64 0)).setCell ⟨w.heap.size, 4, none⟩ (.slice none 0 0)) = W7 at KK HS ⊢
        refine bodyPost_ret (results_conf2 rfl _ _ w.heap.size _ _ _ _ _ rfl (show W7.heap[w.heap.size]? = _ from HS) _ rfl) rfl ?_
        rw [ER.out]
        exact ⟨none, 0, 0, rfl, CL.nil _ _, ((Keep.of_below HG.out.1.2).trans KK (fun x _ e => by omega)).to_below (Nat.le_refl _)⟩
    · have GC := Lib.hid (RG.out wr HG.out.1.2 12 4 (by omega))
      by_cases hok : 16 ≤ n
      · have eo : getOk b ((12 : Nat) : Int) 4 = true := getOk_yes (by rw [wT4]; have := NB.out; omega)
        rw [eo] at GC
        have HE := Lib.hid (show (four b).take 4 = (four b).take 3 ++ [getZ b ((12 : Nat) : Int) 4] from rfl)
        generalize getZ b ((12 : Nat) : Int) 4 = z at *
        clear eo
        have GC2 : Hid (Calls Try.prog 67 #[.slice A n c, .int .i64 12, .int .i64 4] wr fun e w' => e = .returned (.tuple #[.int .i64 z, .bool true]) ∧ wr = w') := GC
        go_wp2_with fail
        with_reducible refine GC2.out.mono ?_
        rintro e w3 ⟨rfl, rfl⟩
        have HO := Lib.hid (HG.out.2.1.keep ((Keep.refl (fun _ => False) wr).alloc (.cells #[.int .i64 z] 3 (0, 0))) (fun _ _ h => h))
        have x0 := (cells1 (heap_alloc_new wr (.cells #[.int .i64 z] 3 (0, 0)))).1
        go_wp2_with (at_builtin; refine wpList_append_gen _ rfl _ _ _ _ rfl (w.heap.size + 1) 3 i0 _ 1 8 Try.underlying74 hi0 hz0 hz1 hz2 rfl _ _ _ rfl HO.out _ 1 _ rfl (src_at Try.underlying74 rfl x0) (by unfold maxLen; omega) (by omega) (by have := HG.out.2.2; simp; omega) ?_)
        intro v4 w4 ho4 hk4 _
        obtain ⟨A4, c4, rfl, -⟩ := ho4.form
        have HG4 := Lib.hid (And.intro (GR.keep (S := fun q => ownB (.slice A0 n0 c0) = some q) (GR.keep (S := fun _ => False) HG.out.1 ((Keep.refl _ wr).alloc _) (fun _ h => h.elim)) hk4 (fun q e => by have := (Own.ownB HG.out.2.1 q e).1; omega)) (And.intro (show Own w4 (w.heap.size + 1) 3 1 (.slice A4 4 c4) 4 (iv ((four b).take 4)) from by rw [HE.out]; exact ho4) (Nat.lt_of_lt_of_le HG.out.2.2 (Nat.le_trans (by simp) hk4.size))))
        clear ho4 hk4 HO x0
        go_wp2
        go_roundw
        case rel => exact ⟨4, by omega, by first | rfl | trivial | go_num, by omega, A4, 4, c4, by first | rfl | trivial, HG4⟩
        case measure => simp [intOf]
      · have eo : getOk b ((12 : Nat) : Int) 4 = false := getOk_no (.inr (by rw [wT4]; have := NB.out; omega))
        rw [eo] at GC
        have ER := Lib.hid (show r = (zeroF, 12) from by
          rw [HR.out]
          unfold getF
          have := NB.out
          rw [if_pos (by omega)])
        generalize getZ b ((12 : Nat) : Int) 4 = z at *
        have GC2 : Hid (Calls Try.prog 67 #[.slice A n c, .int .i64 12, .int .i64 4] wr fun e w' => e = .returned (.tuple #[.int .i64 z, .bool false]) ∧ wr = w') := GC
        clear eo
        go_wp2_with fail
        with_reducible refine GC2.out.mono ?_
        rintro e w3 ⟨rfl, rfl⟩
        go_wp2
        have KK := keepS5 wr w.heap.size (.int .i64 0) (.int .i64 0) (.int .i64 0) (.int .i64 0) (.slice none 0 0)
        have HS := stored5 HG.out.1.1 (.int .i64 0) (.int .i64 0) (.int .i64 0) (.int .i64 0) (.slice none 0 0)
        generalize (((((wr.setCell ⟨w.heap.size, 0, none⟩ (.int .i64 0)).setCell ⟨w.heap.size, 1, none⟩ (.int .i64 0)).setCell ⟨w.heap.size, 2, none⟩ (.int .i64 0)).setCell ⟨w.heap.size, 3, none⟩ (.int .i64 0)).setCell ⟨w.heap.size, 4, none⟩ (.slice none 0 0)) = W7 at KK HS ⊢
        refine bodyPost_ret (results_conf2 rfl _ _ w.heap.size _ _ _ _ _ rfl (show W7.heap[w.heap.size]? = _ from HS) _ rfl) rfl ?_
        rw [ER.out]
        exact ⟨none, 0, 0, rfl, CL.nil _ _, ((Keep.of_below HG.out.1.2).trans KK (fun x _ e => by omega)).to_below (Nat.le_refl _)⟩
    · obtain ⟨q0, q1, q2, q3, hq⟩ : ∃ q0 q1 q2 q3, four b = [q0, q1, q2, q3] := ⟨_, _, _, _, rfl⟩
      have HF : Hid (∀ l, hdrF b l = ⟨q0, q1, q2, q3, l⟩) := by
        unfold four at hq
        injection hq with h0 hq
        injection hq with h1 hq
        injection hq with h2 hq
        injection hq with h3 hq
        intro l
        unfold hdrF
        rw [h0, h1, h2, h3]
      obtain ⟨hl, A', c', e, hnc, hcm2, hg⟩ := HG.out.2.1
      injection e with e1 e2 e3
      subst e1 e2 e3
      obtain ⟨g, cur, e1, e2, e3, e4, e5⟩ := hg (by omega)
      subst e1
      have hc : ∀ i z, [q0, q1, q2, q3][i]? = some z → wr.cell? ⟨g, i, none⟩ = some (.int .i64 z) := fun i z hz => by
        have hi2 : i < 4 := by have := (List.getElem?_eq_some_iff.1 hz).1; simpa using this
        have hi : (cur.toList.take (4 * 1))[i]? = some (.int .i64 z) := by
          rw [e5, show (four b).take 4 = [q0, q1, q2, q3] from by rw [hq]; rfl]
          unfold iv
          rw [List.getElem?_map, hz]
          rfl
        rw [List.getElem?_take_of_lt (by omega)] at hi
        rw [cell_of_row wr g i _ _ _ e3]
        simpa using hi
      have c0' := hc 0 q0 rfl
      have c1' := hc 1 q1 rfl
      have c2' := hc 2 q2 rfl
      have c3' := hc 3 q3 rfl
      have CE := Lib.hid (show ∀ W', Keep (fun _ => False) wr W' → (W'.cell? ⟨g, 0, none⟩ = some (.int .i64 q0) ∧ W'.cell? ⟨g, 1, none⟩ = some (.int .i64 q1) ∧ W'.cell? ⟨g, 2, none⟩ = some (.int .i64 q2) ∧ W'.cell? ⟨g, 3, none⟩ = some (.int .i64 q3) ∧ Keep (fun _ => False) wr W') from fun W' hk => ⟨hk.cell (fun h => h) c0', hk.cell (fun h => h) c1', hk.cell (fun h => h) c2', hk.cell (fun h => h) c3', hk⟩)
      clear hl hnc hcm2 hg e2 e3 e4 e5 hc hq r0 r1 r2 r3 r4 rf
      go_upto_region 9 with fail
      go_region_held3 (fun W' => W'.cell? ⟨g, 0, none⟩ = some (.int .i64 q0) ∧ W'.cell? ⟨g, 1, none⟩ = some (.int .i64 q1) ∧ W'.cell? ⟨g, 2, none⟩ = some (.int .i64 q2) ∧ W'.cell? ⟨g, 3, none⟩ = some (.int .i64 q3) ∧ Keep (fun _ => False) wr W') (exact CE.out _ (by exact (by repeat first | assumption | exact Keep.refl _ _ | refine Keep.alloc ?_ _ | refine Keep.drew ?_ | refine Keep.drewN ?_ _ | refine Keep.setCell ?_ (.inl (by first | omega | (simp; done) | (simp; omega))) _))) (fail)
      go_upto_region 10 with fail
      refine wp_world (S := fun X2 => GH w wr.heap.size q0 q1 q2 q3 (.slice none 0 0) X2 ∧ wr.heap.size < X2.heap.size) ⟨⟨(heap_alloc_old wr _ HG.out.2.2).trans HG.out.1.1, heap_alloc_new wr _, (HG.out.1.2.alloc HG.out.1.2.size _).drew⟩, by simp⟩ ?_
      intro X2 hX2
      have H2 := Lib.hid hX2
      have HN := Lib.hid HG.out.2.2
      clear hX2 HG CE c0' c1' c2' c3' HX
      generalize wr.heap.size = C at *
      have GC := Lib.hid (RG.out X2 H2.out.1.2.2 16 1 (by omega))
      by_cases h17 : 17 ≤ n
      · have eo : getOk b ((16 : Nat) : Int) 1 = true := getOk_yes (by rw [wT1]; have := NB.out; omega)
        have ez : getZ b ((16 : Nat) : Int) 1 = bytC b 16 := getZ_b1 (by have := NB.out; omega)
        rw [eo, ez] at GC
        obtain ⟨nb, hnb⟩ := Int.eq_ofNat_of_zero_le (bytC_bd b 16).1
        have hnb2 : nb ≤ 255 := by have := (bytC_bd b 16).2; omega
        have GQ := Lib.hid (show getF b = match compAt b nb with | none => (zeroF, 12) | some (a, l) => if a ≠ n then (zeroF, 11) else if rightB (hdrF b l) = false then (zeroF, 1) else (hdrF b l, 0) from by
          unfold getF
          have := NB.out
          rw [if_neg (by omega), hnb, Int.toNat_natCast, ← NB.out]
          rfl)
        have LB := Lib.hid (show 17 ≤ b.length from by have := NB.out; omega)
        rw [hnb] at GC
        have GC2 : Hid (Calls Try.prog 67 #[.slice A n c, .int .i64 16, .int .i64 1] X2 fun e w' => e = .returned (.tuple #[.int .i64 (nb : Nat), .bool true]) ∧ X2 = w') := GC
        clear eo ez hnb GC
        go_wp2_with fail
        with_reducible refine GC2.out.mono ?_
        rintro e w3 ⟨rfl, rfl⟩
        go_wp2
        go_loopw [11, 12] (fun t i wr => ∃ k : Nat, k ≤ nb ∧ i = .int .i64 k ∧ ∃ (a : Nat) (lc : List Cp) (vb : Value), t = .int .i64 a ∧ a ≤ n ∧ Hid (GH w C q0 q1 q2 q3 vb wr ∧ Oc wr (C + 1) vb lc ∧ C < wr.heap.size) ∧ Hid (compAt b k = some (a, lc) ∧ lc.length = k)) (fun _ i _ => nb - (intOf i).toNat)
        case atStart => exact ⟨0, by omega, rfl, 17, [], .slice none 0 0, rfl, by omega, Lib.hid ⟨H2.out.1, Oc.nil _ _, H2.out.2⟩, Lib.hid ⟨rfl, rfl⟩⟩
        case round =>
          obtain ⟨k, hk, rfl, a, lc, vb, rfl, han, HG, HI⟩ := hrel
          obtain ⟨r0, r1, r2, r3, r4, rf⟩ := cells5 HG.out.1.1
          obtain ⟨z0, z1, z2, z3, z4, zf⟩ := cells5 HG.out.1.2.1
          by_cases hlt : k < nb
          · have hi : (k : Int) < (nb : Int) := by omega
            have GC := Lib.hid (RG.out wr HG.out.1.2.2 a 2 (by omega))
            have hlen := HI.out.2
            have hl1 := Lib.hid (show lc.length ≤ 100000 by omega)
            have EN := Lib.hid (show ¬ okC b a → r = (zeroF, 12) from fun h => by
              rw [HR.out, GQ.out, compAt_none (k := k + 1) (m := nb) (by simp only [compAt, HI.out.1, nextC]; rw [if_neg h]) (by omega)])
            have EY := Lib.hid (show okC b a → compAt b (k + 1) = some (a + 3 + lenAt b a, lc ++ [cpAt b a]) from fun h => by simp only [compAt, HI.out.1, nextC]; rw [if_pos h])
            clear hlen
            have ew1 : IntKind.i64.wrap ((n : Int) - (a : Int)) = (n : Int) - (a : Int) := IntWalk.i64_in _ (by omega)
            have ew2 : IntKind.i64.wrap ((n : Int) - (a : Int) - 3) = (n : Int) - (a : Int) - 3 := IntWalk.i64_in _ (by omega)
            by_cases h2 : a + 2 ≤ n
            · have eo : getOk b ((a : Nat) : Int) 2 = true := getOk_yes (by rw [wT2]; have := NB.out; omega)
              have ez : getZ b ((a : Nat) : Int) 2 = (lenAt b a : Nat) := lenAt_eq (by have := NB.out; omega)
              have hm := lenAt_le (b := b) (at_ := a) (by have := NB.out; omega)
              rw [eo, ez] at GC
              clear eo ez
              by_cases h3 : a + 3 + lenAt b a ≤ n
              · have NX := Lib.hid (EY.out (show a + 2 ≤ b.length ∧ a + 3 + lenAt b a ≤ b.length from by have := NB.out; omega))
                have CPA := Lib.hid (show cpAt b a = ⟨⟨(pieceOf b (a + 2) (lenAt b a)).toArray⟩, bytC b (a + 2 + lenAt b a)⟩ from rfl)
                obtain ⟨m, hm2⟩ : ∃ m, m = lenAt b a := ⟨_, rfl⟩
                rw [← hm2] at GC h3 NX CPA hm
                clear hm2 EN EY
                obtain ⟨s2, hs2⟩ : ∃ s2, s2 = a + 2 := ⟨_, rfl⟩
                obtain ⟨s4, hs4⟩ : ∃ s4, s4 = s2 + m := ⟨_, rfl⟩
                rw [← hs2, ← hs4] at CPA
                have hbw := HV.out wr HG.out.1.2.2
                obtain ⟨A', c', e, _, _, _, hrd⟩ := id hbw
                injection e with e1 e2 e3
                clear e2
                subst e1 e3
                obtain ⟨gb, ob, rfl, -, hcell⟩ := hrd.at_ (k := s4) (by have := NB.out; omega)
                have y1 := hcell s4 _ (bv_at (by have := NB.out; omega)).1
                have RS : (convert 22 9 (.slice (some ⟨gb, ob + s2, none⟩) (s4 - s2) (c - s2))).run Try.prog wr.drew = .ok (.string ⟨(pieceOf b s2 m).toArray⟩) wr.drew := by
                  have hp := (hbw.keep ((Keep.refl (fun _ => False) wr).drew) (fun _ _ _ h => h)).piece (A' := some ⟨gb, ob + s2, none⟩) (lo := s2) (m := m) (c' := c - s2) (by have := NB.out; omega) (fun _ x hx => by cases hx; simp [Addr.add]; omega) (by omega) (by omega) (fun hh => by cases hh)
                  have := run_str (P := Try.prog) hp Try.underlying22 Try.underlying5 Try.underlying9
                  rw [show s4 - s2 = m by omega]
                  exact this
                have hx := bytC_bd b s4
                have y1' : wr.cell? ⟨gb, ob + s4, none⟩ = some (.int .u8 (bytC b s4)) := y1
                have y2' : wr.drew.cell? ⟨gb, ob + s4, none⟩ = some (.int .u8 (bytC b s4)) := y1
                generalize (⟨(pieceOf b s2 m).toArray⟩ : ByteArray) = sx at *
                generalize bytC b s4 = x at *
                have zd : wr.drew.cell? ⟨C, 4, none⟩ = some vb := z4
                have ewx : IntKind.i64.wrap x = x := IntWalk.i64_in _ (by omega)
                have ew3 : IntKind.i64.wrap ((a : Int) + 2) = (s2 : Int) := by rw [show (a : Int) + 2 = ((s2 : Nat) : Int) by omega]; exact IntWalk.i64_in _ (by omega)
                have ew4 : IntKind.i64.wrap ((s2 : Int) + (m : Int)) = (s4 : Int) := by rw [show (s2 : Int) + (m : Int) = ((s4 : Nat) : Int) by omega]; exact IntWalk.i64_in _ (by omega)
                have ew7 : IntKind.i64.wrap ((a : Int) + 2 + (m : Int)) = (s4 : Int) := by rw [show (a : Int) + 2 + (m : Int) = ((s4 : Nat) : Int) by omega]; exact IntWalk.i64_in _ (by omega)
                have en2 : ((a : Int) + 2).toNat = s2 := by omega
                have gm : max (s4 : Int) 0 = (s4 : Int) := by omega
                have g7 : (0 : Int) ≤ (a : Int) + 2 := by omega
                have g8 : (a : Int) + 2 ≤ (s4 : Int) := by omega
                have g0 : (0 : Int) ≤ (s2 : Int) := by omega
                have g1 : (s2 : Int) ≤ (s4 : Int) := by omega
                have g2 : (s4 : Int) ≤ (c : Int) := by omega
                have g3 : (0 : Int) ≤ (s4 : Int) := by omega
                have g4 : (s4 : Int) < (n : Int) := by omega
                have g5 : ¬ c = s2 := by omega
                have g6 : ¬ (n : Int) - (a : Int) - 3 < (m : Int) := by omega
                have ew5 : IntKind.i64.wrap ((a : Int) + 3) = ((a + 3 : Nat) : Int) := by rw [show (a : Int) + 3 = ((a + 3 : Nat) : Int) by omega]; exact IntWalk.i64_in _ (by omega)
                have ews2 : IntKind.i64.wrap (s2 : Int) = (s2 : Int) := IntWalk.i64_in _ (by omega)
                have ews4 : IntKind.i64.wrap (s4 : Int) = (s4 : Int) := IntWalk.i64_in _ (by omega)
                have es1 : (a : Int) + 2 = (s2 : Int) := by omega
                have es2 : a + 2 = s2 := by omega
                have es3 : (s2 : Int) + (m : Int) = (s4 : Int) := by omega
                have es4 : s2 + m = s4 := by omega
                have HS2 := Lib.hid hs2
                have HS4 := Lib.hid hs4
                clear hcell hrd hbw y1 hs2 hs4 en2 g7 g8 ew3
                have GC3 : Hid (Calls Try.prog 67 #[.slice (some ⟨gb, ob, none⟩) n c, .int .i64 (a : Nat), .int .i64 2] wr fun e w' => e = .returned (.tuple #[.int .i64 (m : Nat), .bool true]) ∧ wr = w') := GC
                go_wp2_with fail
                with_reducible refine GC3.out.mono ?_
                rintro e w3 ⟨rfl, rfl⟩
                go_upto_region 20 with fail
                have za : ∀ o, (wr.alloc o).drew.cell? ⟨C, 4, none⟩ = some vb := fun o => ((Keep.refl (fun _ => False) wr).alloc o).drew.cell (fun h => h) z4
                have zb : ∀ o, (wr.alloc o).cell? ⟨C, 4, none⟩ = some vb := fun o => ((Keep.refl (fun _ => False) wr).alloc o).cell (fun h => h) z4
                go_region_law (first
                  | ((refine step_appC (by rfl) _ _ rfl (C + 1) vb lc (by rfl) (by exact HG.out.2.1.keep (S := fun _ => False) (by repeat first | assumption | exact Keep.refl _ _ | refine Keep.alloc ?_ _ | refine Keep.drew ?_ | refine Keep.drewN ?_ _ | refine Keep.setCell ?_ (.inl (by first | omega | (simp; done) | (simp; omega))) _) (fun _ _ _ _ h => h)) wr.heap.size _ ⟨sx, x⟩ (by rfl) (by exact (cells2 (heap_alloc_new wr _)).1) (by exact (cells2 (heap_alloc_new wr _)).2.1) hl1.out (by have := HG.out.2.2; simp; omega) ?_); intro A6 c6 w6 ho6 hk6; rw [show (lc ++ [(⟨sx, x⟩ : Cp)]).length = lc.length + 1 from by simp] at ho6; have HG6 := Lib.hid (And.intro (GH.keep (S := fun k => ownB vb = some k) (GH.keep (S := fun _ => False) HG.out.1 HN.out (by exact Keep.drew (Keep.alloc (Keep.refl _ wr) _)) (fun _ h => h.elim)) HN.out hk6 (fun x e => by have := (Own.ownB HG.out.2.1 x e).1; omega)) (And.intro ho6 (Nat.lt_of_lt_of_le HG.out.2.2 (Nat.le_trans (by simp) hk6.size)))); clear ho6 hk6 z0 z1 z2 z3 z4 zf za zb zd; obtain ⟨z0, z1, z2, z3, z4, zf⟩ := cells5 HG6.out.1.2.1)
                  | fail)
                all_goals
                  have HG7 := Lib.hid (And.intro (HG6.out.1.set4 HN.out (.slice A6 (lc.length + 1) c6)) (And.intro (HG6.out.2.1.keep (keepC w6 C 4 (.slice A6 (lc.length + 1) c6)) (fun q e h1 h2 h3 => by omega)) (show C < (w6.setCell ⟨C, 4, none⟩ (.slice A6 (lc.length + 1) c6)).heap.size from Nat.lt_of_lt_of_le HG6.out.2.2 (keepC w6 C 4 _).size)))
                  have ew6 : IntKind.i64.wrap (((a + 3 : Nat) : Int) + (m : Int)) = ((a + 3 + m : Nat) : Int) := by rw [show ((a + 3 : Nat) : Int) + (m : Int) = ((a + 3 + m : Nat) : Int) by omega]; exact IntWalk.i64_in _ (by omega)
                  have HI2 := Lib.hid (And.intro (NX.out.trans (by rw [CPA.out])) (show (lc ++ [(⟨sx, x⟩ : Cp)]).length = k + 1 from by rw [List.length_append, HI.out.2]; rfl))
                  go_wp2
                  go_roundw
                  case rel => exact ⟨k + 1, by omega, by go_num, a + 3 + m, lc ++ [⟨sx, x⟩], .slice A6 (lc.length + 1) c6, by go_num, by omega, HG7, HI2⟩
                  case measure => simp [intOf]; omega
              · have ER := Lib.hid (EN.out (fun h => by unfold okC at h; have := NB.out; omega))
                obtain ⟨m, hm2⟩ : ∃ m, m = lenAt b a := ⟨_, rfl⟩
                rw [← hm2] at GC h3 hm
                have g6 : (n : Int) - (a : Int) - 3 < (m : Int) := by omega
                have GC3 : Hid (Calls Try.prog 67 #[.slice A n c, .int .i64 (a : Nat), .int .i64 2] wr fun e w' => e = .returned (.tuple #[.int .i64 (m : Nat), .bool true]) ∧ wr = w') := GC
                clear EN EY hm2 z0 z1 z2 z3 z4 zf GC
                go_wp2_with fail
                with_reducible refine GC3.out.mono ?_
                rintro e w3 ⟨rfl, rfl⟩
                go_wp2
                have KK := keepS5 wr w.heap.size (.int .i64 0) (.int .i64 0) (.int .i64 0) (.int .i64 0) (.slice none 0 0)
                have HS := stored5 HG.out.1.1 (.int .i64 0) (.int .i64 0) (.int .i64 0) (.int .i64 0) (.slice none 0 0)
                generalize (((((wr.setCell ⟨w.heap.size, 0, none⟩ (.int .i64 0)).setCell ⟨w.heap.size, 1, none⟩ (.int .i64 0)).setCell ⟨w.heap.size, 2, none⟩ (.int .i64 0)).setCell ⟨w.heap.size, 3, none⟩ (.int .i64 0)).setCell ⟨w.heap.size, 4, none⟩ (.slice none 0 0)) = W7 at KK HS ⊢
                refine bodyPost_ret (results_conf2 rfl _ _ w.heap.size _ _ _ _ _ rfl (show W7.heap[w.heap.size]? = _ from HS) _ rfl) rfl ?_
                rw [ER.out]
                exact ⟨none, 0, 0, rfl, CL.nil _ _, ((Keep.of_below HG.out.1.2.2).trans KK (fun x _ e => by omega)).to_below (Nat.le_refl _)⟩
            · have ER := Lib.hid (EN.out (fun h => by unfold okC at h; have := NB.out; omega))
              have eo : getOk b ((a : Nat) : Int) 2 = false := getOk_no (.inr (by rw [wT2]; have := NB.out; omega))
              rw [eo] at GC
              obtain ⟨zz, hzz⟩ : ∃ zz, zz = getZ b ((a : Nat) : Int) 2 := ⟨_, rfl⟩
              rw [← hzz] at GC
              have GC3 : Hid (Calls Try.prog 67 #[.slice A n c, .int .i64 (a : Nat), .int .i64 2] wr fun e w' => e = .returned (.tuple #[.int .i64 zz, .bool false]) ∧ wr = w') := GC
              clear EN EY eo hzz z0 z1 z2 z3 z4 zf GC
              go_wp2_with fail
              with_reducible refine GC3.out.mono ?_
              rintro e w3 ⟨rfl, rfl⟩
              go_wp2
              have KK := keepS5 wr w.heap.size (.int .i64 0) (.int .i64 0) (.int .i64 0) (.int .i64 0) (.slice none 0 0)
              have HS := stored5 HG.out.1.1 (.int .i64 0) (.int .i64 0) (.int .i64 0) (.int .i64 0) (.slice none 0 0)
              generalize (((((wr.setCell ⟨w.heap.size, 0, none⟩ (.int .i64 0)).setCell ⟨w.heap.size, 1, none⟩ (.int .i64 0)).setCell ⟨w.heap.size, 2, none⟩ (.int .i64 0)).setCell ⟨w.heap.size, 3, none⟩ (.int .i64 0)).setCell ⟨w.heap.size, 4, none⟩ (.slice none 0 0)) = W7 at KK HS ⊢
              refine bodyPost_ret (results_conf2 rfl _ _ w.heap.size _ _ _ _ _ rfl (show W7.heap[w.heap.size]? = _ from HS) _ rfl) rfl ?_
              rw [ER.out]
              exact ⟨none, 0, 0, rfl, CL.nil _ _, ((Keep.of_below HG.out.1.2.2).trans KK (fun x _ e => by omega)).to_below (Nat.le_refl _)⟩
          · obtain rfl : k = nb := by omega
            have hi : ¬ (k : Int) < (k : Int) := by omega
            have GQ2 := Lib.hid (show r = if a ≠ n then (zeroF, 11) else if rightB ⟨q0, q1, q2, q3, lc⟩ = false then (zeroF, 1) else (⟨q0, q1, q2, q3, lc⟩, 0) from by
              rw [HR.out, GQ.out, HI.out.1, ← HF.out lc])
            by_cases hpl : a = n
            · have hne : ((a : Int) != (n : Int)) = false := by simp [hpl]
              have SM := Lib.hid (compAt_small HI.out.1)
              obtain ⟨Av, cv, hvb⟩ := HG.out.2.1.form
              subst hvb
              have CH := Lib.hid (fun (W : World) (hk : Keep (fun _ => False) wr W) => rright_any ⟨q0, q1, q2, q3, lc⟩ _ _ W ((HG.out.2.1.keep hk (fun _ _ _ _ h => h)).cl) (fun x hx => by have := SM.out x hx; omega))
              have GQ3 := Lib.hid (GQ2.out.trans (if_neg (fun h => h hpl)))
              unfold confV at CH
              generalize rightB ⟨q0, q1, q2, q3, lc⟩ = rb at *
              generalize hll : lc.length = ll at *
              clear hpl hll GQ2
              have CH1 : Hid (∀ (W : World), Keep (fun _ => False) wr W → Calls Try.prog 50 #[.agg #[.int .i64 q0, .int .i64 q1, .int .i64 q2, .int .i64 q3, .slice Av ll cv]] W fun e w' => e = .returned (.bool rb) ∧ Below W.heap.size W w') := CH
              clear r0 r1 r2 r3 r4 rf CH
              cases rb with
              | false =>
                have ER := Lib.hid (show r = (zeroF, 1) from by rw [GQ3.out, if_pos rfl])
                go_wp2_with fail
                with_reducible refine (CH1.out _ (by exact (by repeat first | assumption | exact Keep.refl _ _ | refine Keep.alloc ?_ _ | refine Keep.drew ?_ | refine Keep.drewN ?_ _ | refine Keep.setCell ?_ (.inl (by first | omega | (simp; done) | (simp; omega))) _))).mono ?_
                rintro e w6 ⟨rfl, hb6⟩
                have HE := Lib.hid (GH.keep (S := fun _ => False) HG.out.1 HN.out (Keep.of_below' hb6) (fun _ h => h.elim))
                clear z0 z1 z2 z3 z4 zf hb6
                obtain ⟨r0, r1, r2, r3, r4, rf⟩ := cells5 HE.out.1
                go_wp2
                have KK := keepS5 w6 w.heap.size (.int .i64 0) (.int .i64 0) (.int .i64 0) (.int .i64 0) (.slice none 0 0)
                have HS := stored5 HE.out.1 (.int .i64 0) (.int .i64 0) (.int .i64 0) (.int .i64 0) (.slice none 0 0)
                generalize (((((w6.setCell ⟨w.heap.size, 0, none⟩ (.int .i64 0)).setCell ⟨w.heap.size, 1, none⟩ (.int .i64 0)).setCell ⟨w.heap.size, 2, none⟩ (.int .i64 0)).setCell ⟨w.heap.size, 3, none⟩ (.int .i64 0)).setCell ⟨w.heap.size, 4, none⟩ (.slice none 0 0)) = W7 at KK HS ⊢
                refine bodyPost_ret (results_conf2 rfl _ _ w.heap.size _ _ _ _ _ rfl (show W7.heap[w.heap.size]? = _ from HS) _ rfl) rfl ?_
                rw [ER.out]
                exact ⟨none, 0, 0, rfl, CL.nil _ _, ((Keep.of_below HE.out.2.2).trans KK (fun x _ e => by omega)).to_below (Nat.le_refl _)⟩
              | true =>
                have ER := Lib.hid (show r = (⟨q0, q1, q2, q3, lc⟩, 0) from by rw [GQ3.out, if_neg (by decide)])
                go_wp2_with fail
                with_reducible refine (CH1.out _ (by exact (by repeat first | assumption | exact Keep.refl _ _ | refine Keep.alloc ?_ _ | refine Keep.drew ?_ | refine Keep.drewN ?_ _ | refine Keep.setCell ?_ (.inl (by first | omega | (simp; done) | (simp; omega))) _))).mono ?_
                rintro e w6 ⟨rfl, hb6⟩
                have HE := Lib.hid (And.intro (GH.keep (S := fun _ => False) HG.out.1 HN.out (Keep.of_below' hb6) (fun _ h => h.elim)) (show Keep (fun _ => False) wr w6 from Keep.of_below' hb6))
                clear z0 z1 z2 z3 z4 zf hb6
                obtain ⟨r0, r1, r2, r3, r4, rf⟩ := cells5 HE.out.1.1
                obtain ⟨z0, z1, z2, z3, z4, zf⟩ := cells5 HE.out.1.2.1
                go_wp2
                have KK := keepS5 w6 w.heap.size (.int .i64 q0) (.int .i64 q1) (.int .i64 q2) (.int .i64 q3) (.slice Av ll cv)
                have HS := stored5 HE.out.1.1 (.int .i64 q0) (.int .i64 q1) (.int .i64 q2) (.int .i64 q3) (.slice Av ll cv)
                generalize (((((w6.setCell ⟨w.heap.size, 0, none⟩ (.int .i64 q0)).setCell ⟨w.heap.size, 1, none⟩ (.int .i64 q1)).setCell ⟨w.heap.size, 2, none⟩ (.int .i64 q2)).setCell ⟨w.heap.size, 3, none⟩ (.int .i64 q3)).setCell ⟨w.heap.size, 4, none⟩ (.slice Av ll cv)) = W7 at KK HS ⊢
                refine bodyPost_ret (results_conf2 rfl _ _ w.heap.size _ _ _ _ _ rfl (show W7.heap[w.heap.size]? = _ from HS) _ rfl) rfl ?_
                rw [ER.out]
                have hcl := ((HG.out.2.1.keep HE.out.2 (fun _ _ _ _ h => h)).keep KK (fun q e h1 h2 h3 => by have := HN.out; omega)).cl
                obtain ⟨A9, c9, e9, g1, g2, g3, g4⟩ := hcl
                exact ⟨Av, ll, cv, rfl, ⟨A9, c9, e9, g1, g2, g3.mono (fun x _ hx => by have := HN.out; have : C + 1 ≤ x := hx; omega), g4⟩, ((Keep.of_below HE.out.1.2.2).trans KK (fun x _ e => by omega)).to_below (Nat.le_refl _)⟩
            · have hne : ((a : Int) != (n : Int)) = true := by simp; omega
              have ER := Lib.hid (show r = (zeroF, 11) from by rw [GQ2.out, if_pos hpl])
              clear z0 z1 z2 z3 z4 zf
              go_wp2
              have KK := keepS5 wr w.heap.size (.int .i64 0) (.int .i64 0) (.int .i64 0) (.int .i64 0) (.slice none 0 0)
              have HS := stored5 HG.out.1.1 (.int .i64 0) (.int .i64 0) (.int .i64 0) (.int .i64 0) (.slice none 0 0)
              generalize (((((wr.setCell ⟨w.heap.size, 0, none⟩ (.int .i64 0)).setCell ⟨w.heap.size, 1, none⟩ (.int .i64 0)).setCell ⟨w.heap.size, 2, none⟩ (.int .i64 0)).setCell ⟨w.heap.size, 3, none⟩ (.int .i64 0)).setCell ⟨w.heap.size, 4, none⟩ (.slice none 0 0)) = W7 at KK HS ⊢
              refine bodyPost_ret (results_conf2 rfl _ _ w.heap.size _ _ _ _ _ rfl (show W7.heap[w.heap.size]? = _ from HS) _ rfl) rfl ?_
              rw [ER.out]
              exact ⟨none, 0, 0, rfl, CL.nil _ _, ((Keep.of_below HG.out.1.2.2).trans KK (fun x _ e => by omega)).to_below (Nat.le_refl _)⟩
      · have eo : getOk b ((16 : Nat) : Int) 1 = false := getOk_no (.inr (by rw [wT1]; have := NB.out; omega))
        rw [eo] at GC
        have ER := Lib.hid (show r = (zeroF, 12) from by
          rw [HR.out]
          unfold getF
          have := NB.out
          rw [if_pos (by omega)])
        obtain ⟨zz, hzz⟩ : ∃ zz, zz = getZ b ((16 : Nat) : Int) 1 := ⟨_, rfl⟩
        rw [← hzz] at GC
        have GC2 : Hid (Calls Try.prog 67 #[.slice A n c, .int .i64 16, .int .i64 1] X2 fun e w' => e = .returned (.tuple #[.int .i64 zz, .bool false]) ∧ X2 = w') := GC
        clear eo hzz GC
        obtain ⟨r0, r1, r2, r3, r4, rf⟩ := cells5 H2.out.1.1
        go_wp2_with fail
        with_reducible refine GC2.out.mono ?_
        rintro e w3 ⟨rfl, rfl⟩
        go_wp2
        have KK := keepS5 X2 w.heap.size (.int .i64 0) (.int .i64 0) (.int .i64 0) (.int .i64 0) (.slice none 0 0)
        have HS := stored5 H2.out.1.1 (.int .i64 0) (.int .i64 0) (.int .i64 0) (.int .i64 0) (.slice none 0 0)
        generalize (((((X2.setCell ⟨w.heap.size, 0, none⟩ (.int .i64 0)).setCell ⟨w.heap.size, 1, none⟩ (.int .i64 0)).setCell ⟨w.heap.size, 2, none⟩ (.int .i64 0)).setCell ⟨w.heap.size, 3, none⟩ (.int .i64 0)).setCell ⟨w.heap.size, 4, none⟩ (.slice none 0 0)) = W7 at KK HS ⊢
        refine bodyPost_ret (results_conf2 rfl _ _ w.heap.size _ _ _ _ _ rfl (show W7.heap[w.heap.size]? = _ from HS) _ rfl) rfl ?_
        rw [ER.out]
        exact ⟨none, 0, 0, rfl, CL.nil _ _, ((Keep.of_below H2.out.1.2.2).trans KK (fun x _ e => by omega)).to_below (Nat.le_refl _)⟩
end Go.Proofs.Ytakchlaoimnnhaa

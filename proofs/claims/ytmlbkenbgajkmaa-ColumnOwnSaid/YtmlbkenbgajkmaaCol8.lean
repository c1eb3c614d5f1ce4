/- Contract of vivariumref08.Go: a row less. -/
import Derived.Test.YtmlbkenbgajkmaaCol7
import Derived.RegionTactic
import Derived.ChangeAlike
namespace Go.Proofs.Ytmlbkenbgajkmaa
open Go.RowKit
set_option maxRecDepth 100000
set_option linter.unusedVariables false
theorem rgo_drop (size n c m c2 k : Nat) (A A2 : Option Addr) (R : List (List UInt8)) (l : List UInt8) (F : Nat → Prop) (w : World) (hv : Bys w F (.slice A n c) R) (hd : By w F (.slice A2 m c2) l) (hk : k < n) (hn : n ≤ 1024) :
    Calls Try.prog 61 (rgArgs size A n c 3 k A2 m c2) w (RgoPost w F size (dropR R k, [], 0)) := by
  obtain ⟨i0, hi0, hz0, hz1, hz2⟩ := info_parts info_bytes
  obtain ⟨cs, hsl, hrows⟩ := hv
  obtain ⟨A', c', hv', h1, h2, h3, hrd⟩ := hsl
  injection hv' with e1 hRn e3
  subst e1 e3
  rw [← hRn] at h1 hrd
  have hlen : cs.length = R.length := by have := hrd.1; omega
  have SR := Lib.hid (show ∀ W : World, Keep (fun _ => False) w W → Src Try.prog 1 85 (.slice A n c) n cs W from fun W hk => (hrd.keep hk (fun _ _ _ h => h)).src Try.underlying85 (bys_one hlen hrows) (by omega))
  obtain ⟨u0, hu0⟩ : ∃ u, cs[k]? = some u := ⟨cs[k]'(by omega), List.getElem?_eq_getElem _⟩
  have CK := Lib.hid hu0
  obtain ⟨u1, hu1⟩ : ∃ u, cs[n - 1]? = some u := ⟨cs[n - 1]'(by omega), List.getElem?_eq_getElem _⟩
  obtain ⟨A9, n9, c9, rfl⟩ : ∃ A n c, u1 = .slice A n c := by
    obtain ⟨u', hu', A9, c9, e, _⟩ := hrows (n - 1) (R[n - 1]'(by omega)) (List.getElem?_eq_getElem _)
    have := Option.some.inj (hu1.symm.trans hu')
    exact ⟨A9, _, c9, this.trans e⟩
  have CL := Lib.hid hu1
  clear hu0 hu1
  have FIN := Lib.hid (show ∀ w1 w2 w' g c1 u, cs[n - 1]? = some u → Keep (fun _ => False) w w1 → Own w1 w.heap.size 22 1 (.slice (some ⟨g, 0, none⟩) n c1) n cs → g ≠ w.heap.size + 1 + 1 → Keep (fun _ => False) (w1.setCell ⟨g, k, none⟩ u) w2 → Keep (fun b => b = w.heap.size + 1 + 1) w2 w' →
      RgoPost w F size (dropR R k, [], 0) (.returned (.tuple #[.agg #[.int .i64 (size : Nat), .slice (some ⟨g, 0, none⟩) (n - 1) c1], .slice none 0 0, .int .i64 0])) w' from fun w1 w2 w' g c1 u hu k1 ho hg k3 k2 => by
    have hgg : ownB (.slice (some ⟨g, 0, none⟩) n c1) = some g := by
      obtain ⟨_, A', c', hv, hnc, _, _⟩ := ho
      injection hv with _ _ h3
      subst h3
      obtain ⟨c', rfl⟩ : ∃ c', c1 = c' + 1 := ⟨c1 - 1, by omega⟩
      rfl
    have ho2 := (((ho.setAt hk u).keep k3 (fun _ _ h => h)).keep k2 (fun x hx e => by
      rw [hgg] at hx
      have := Option.some.inj hx
      omega)).take (show n - 1 ≤ n by omega)
    have hgb : w.heap.size ≤ g := (ho.ownB g hgg).1
    have kk : Keep (fun _ => False) w w' := ((k1.setCell (p := ⟨g, k, none⟩) (.inl hgb) u).trans k3 (fun _ _ h => h)).trans k2 (fun x hx e => by omega)
    refine ⟨_, _, rfl, bys_own (F := F) ho2 (by unfold dropR; rw [List.length_take, List.length_set]; omega) (fun i r hr => ?_), By.nil _ _, kk.to_below'⟩
    unfold dropR at hr
    rw [Nat.mul_one, List.getElem?_take] at *
    split at hr
    · rename_i hi
      rw [if_pos (by omega)]
      rw [List.getElem?_set] at hr ⊢
      by_cases e : k = i
      · rw [if_pos e] at hr ⊢
        split at hr
        · rw [if_pos (by omega)]
          have e2 := Option.some.inj hr
          obtain ⟨u', hu', hb⟩ := hrows (n - 1) r (by rw [← e2, List.getD_eq_getElem?_getD, ← hRn, List.getElem?_eq_getElem (by omega)]; rfl)
          have : u = u' := Option.some.inj (hu.symm.trans hu')
          subst this
          exact ⟨_, rfl, hb.keep kk (fun _ _ _ h => h)⟩
        · cases hr
      · rw [if_neg e] at hr ⊢
        obtain ⟨u', hu', hb⟩ := hrows i r hr
        exact ⟨u', hu', hb.keep kk (fun _ _ _ h => h)⟩
    · cases hr)
  clear hrows hrd h3 hlen
  have f1 : (0 : Int) ≤ (k : Int) := by omega
  have f2 : (k : Int) < (n : Int) := by omega
  have g1 : (0 : Int) ≤ (n : Int) - 1 := by omega
  have g2 : (n : Int) - 1 < (n : Int) := by omega
  have ew : IntKind.i64.wrap ((n : Int) - 1) = (n : Int) - 1 := IntWalk.i64_in _ (by omega)
  have en : ((n : Int) - 1).toNat = n - 1 := by omega
  have H := Lib.hid (And.intro h1 (And.intro h2 (And.intro hRn hd)))
  clear h1 h2 hRn hd
  unfold rgArgs
  go_enter Try.func61, Try.ntmps61
  go_wp2_with (at_builtin; refine wpList_append_gen _ rfl _ _ _ _ rfl w.heap.size 22 i0 _ 1 24 Try.underlying85 hi0 hz0 hz1 hz2 rfl _ _ _ rfl (Own.none_ _ _ _ _ _) _ n _ rfl (SR.out _ ?b1) ?c1 ?c2 ?c3 ?_)
  case b1 => exact Keep.alloc (Keep.alloc (Keep.alloc (Keep.alloc (Keep.refl _ _) _) _) _) _
  case c1 => unfold maxLen; omega
  case c2 => omega
  case c3 => exact (by first | omega | (simp; done) | (simp; omega))
  intro v1 w1 ho1 hk1 _
  have hk1' : Keep (fun _ => False) w w1 := (Keep.alloc (Keep.alloc (Keep.alloc (Keep.alloc (Keep.refl _ _) _) _) _) _).trans hk1 (fun x _ h => by simp [ownB] at h)
  have b0 : w1.heap[w.heap.size]? = some (.cells #[.int .i64 (size : Nat), .slice A n c] 87 (0, 0)) := (hk1.block _ (by first | omega | (simp; done) | (simp; omega)) (by simp [ownB])).trans (by repeat (first | exact heap_alloc_at _ _ _ (by first | rfl | simp) | rw [Below.heap_alloc _ _ _ (by first | (simp; done) | (simp; omega))]))
  have b1 : w1.heap[w.heap.size + 1]? = some (.cells #[.int .i64 3, .int .i64 k, .slice A2 m c2] 92 (0, 0)) := (hk1.block _ (by first | omega | (simp; done) | (simp; omega)) (by simp [ownB])).trans (by repeat (first | exact heap_alloc_at _ _ _ (by first | rfl | simp) | rw [Below.heap_alloc _ _ _ (by first | (simp; done) | (simp; omega))]))
  have b2 : w1.heap[w.heap.size + 1 + 1]? = some (.cells #[.int .i64 0, .slice none 0 0] 87 (0, 0)) := (hk1.block _ (by first | omega | (simp; done) | (simp; omega)) (by simp [ownB])).trans (by repeat (first | exact heap_alloc_at _ _ _ (by first | rfl | simp) | rw [Below.heap_alloc _ _ _ (by first | (simp; done) | (simp; omega))]))
  obtain ⟨g, c1, rfl, q1, q2, q3, q4, q5, q6⟩ := ho1.at_ (by omega)
  have n0 := ho1.ne_block (by omega) b0 (by decide)
  have n1 := ho1.ne_block (by omega) b1 (by decide)
  have n2 := ho1.ne_block (by omega) b2 (by decide)
  have x00 : w1.cell? ⟨w.heap.size, 0, none⟩ = some (.int .i64 (size : Nat)) := by rw [cell_of_row w1 _ 0 _ _ _ b0]; rfl
  have x10 : w1.cell? ⟨w.heap.size + 1, 0, none⟩ = some (.int .i64 3) := by rw [cell_of_row w1 _ 0 _ _ _ b1]; rfl
  have x11 : w1.cell? ⟨w.heap.size + 1, 1, none⟩ = some (.int .i64 k) := by rw [cell_of_row w1 _ 1 _ _ _ b1]; rfl
  have x20 : w1.cell? ⟨w.heap.size + 1 + 1, 0, none⟩ = some (.int .i64 0) := by rw [cell_of_row w1 _ 0 _ _ _ b2]; rfl
  have x21 : w1.cell? ⟨w.heap.size + 1 + 1, 1, none⟩ = some (.slice none 0 0) := by rw [cell_of_row w1 _ 1 _ _ _ b2]; rfl
  have x2f := fun i => frozen_of_row w1 _ i _ _ b2
  have y0 := fun i o (u : Value) => cell_away (w := w1) (k := i) (o := o) n0 u
  have y2 := fun i o (u : Value) => cell_away (w := w1) (k := i) (o := o) n2 u
  have y3 := fun i o (u : Value) => frozen_away (w := w1) (k := i) (o := o) n2 u
  have HO := Lib.hid (And.intro ho1 hk1')
  have x1 := q5 (n - 1) _ CL.out
  have xk := q5 k _ (CK.out)
  have xf := q6 k
  have e0 : (w1.setCell ⟨g, k, none⟩ (.slice A9 n9 c9)).drew.heap[w.heap.size]? = _ := (Below.heap_setCell w1 ⟨g, k, none⟩ _ _ (fun e => n0 e.symm)).trans b0
  have e2 : (w1.setCell ⟨g, k, none⟩ (.slice A9 n9 c9)).drew.heap[w.heap.size + 1 + 1]? = _ := (Below.heap_setCell w1 ⟨g, k, none⟩ _ _ (fun e => n2 e.symm)).trans b2
  have EE := Lib.hid (And.intro e0 (And.intro e2 (show Keep (fun _ => False) (w1.setCell ⟨g, k, none⟩ (.slice A9 n9 c9)) (w1.setCell ⟨g, k, none⟩ (.slice A9 n9 c9)).drew from (by repeat first | exact Keep.refl _ _ | refine Keep.alloc ?_ _ | refine Keep.drew ?_ | refine Keep.drewN ?_ _))))
  clear q5 q6 ho1 hk1' hk1 b0 b1 b2 e0 e2
  go_wp2
  go_region
  have QQ := EE
  clear EE
  generalize hw2 : (w1.setCell ⟨g, k, none⟩ (.slice A9 n9 c9)).drew = w2 at QQ ⊢
  clear hw2
  obtain ⟨e0, e2, k3⟩ := QQ.out
  have z00 : w2.cell? ⟨w.heap.size, 0, none⟩ = some (.int .i64 (size : Nat)) := by rw [cell_of_row w2 _ 0 _ _ _ e0]; rfl
  have z20 : w2.cell? ⟨w.heap.size + 1 + 1, 0, none⟩ = some (.int .i64 0) := by rw [cell_of_row w2 _ 0 _ _ _ e2]; rfl
  have z21 : w2.cell? ⟨w.heap.size + 1 + 1, 1, none⟩ = some (.slice none 0 0) := by rw [cell_of_row w2 _ 1 _ _ _ e2]; rfl
  have z2f := fun i => frozen_of_row w2 _ i _ _ e2
  have Z := Lib.hid (two_cells e2 (.int .i64 (size : Nat)) (.slice (some ⟨g, 0, none⟩) (n - 1) c1))
  have FF := Lib.hid (FIN.out _ w2 _ g c1 _ CL.out HO.out.2 HO.out.1 n2 k3 (keep_two w2 (w.heap.size + 1 + 1) (.int .i64 (size : Nat)) (.slice (some ⟨g, 0, none⟩) (n - 1) c1)).drew)
  have g3 : (n : Int) - 1 ≤ (c1 : Int) := by omega
  have g4 : (n : Int) - 1 ≤ (n : Int) := by omega
  clear QQ e0 e2 k3 x00 x10 x11 x20 x21 x2f y0 y2 y3 x1 xk xf
  go_wp2
  go_region
  go_wp2
  exact bodyPost_ret (v := .tuple #[.agg #[.int .i64 (size : Nat), .slice (some ⟨g, 0, none⟩) (n - 1) c1], .slice none 0 0, .int .i64 0]) (by simp [results, Try.results61, go_sem, Z.out.1, Z.out.2]) rfl FF.out
end Go.Proofs.Ytmlbkenbgajkmaa

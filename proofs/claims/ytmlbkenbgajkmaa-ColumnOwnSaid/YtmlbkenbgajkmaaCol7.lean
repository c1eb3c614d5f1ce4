/- Contract of vivariumref08.Go: no room; a row more. -/
import Derived.Test.YtmlbkenbgajkmaaCol6
import Derived.Deep.RegionHeld3
namespace Go.Proofs.Ytmlbkenbgajkmaa
open Go.RowKit
set_option maxRecDepth 100000
set_option linter.unusedVariables false

theorem rgo_full (size c c2 : Nat) (act at_ : Int) (A A2 : Option Addr) (R : List (List UInt8)) (l : List UInt8) (F : Nat → Prop) (w : World) (hv : Bys w F (.slice A 1024 c) R) (hd : By w F (.slice A2 size c2) l) (ha : act ≠ 1 ∧ act ≠ 2 ∧ act ≠ 3) :
    Calls Try.prog 61 (rgArgs size A 1024 c act at_ A2 size c2) w (RgoPost w F size (R, [], 9)) := by
  obtain ⟨n, hn⟩ : ∃ n, 1024 = n := ⟨_, rfl⟩
  rw [hn] at hv ⊢
  have he : ((n : Int) == 1024) = true := by rw [beq_iff_eq]; omega
  have hn : n ≤ 1024 := by omega
  have e1 : (act == 1) = false := by rw [beq_eq_false_iff_ne]; exact ha.1
  have e2 : (act == 2) = false := by rw [beq_eq_false_iff_ne]; exact ha.2.1
  have e3 : (act == 3) = false := by rw [beq_eq_false_iff_ne]; exact ha.2.2
  have e4 : (act != 2) = true := by rw [bne_iff_ne]; exact ha.2.1
  have e5 : (act != 3) = true := by rw [bne_iff_ne]; exact ha.2.2
  clear ha
  have hv0 := hv
  obtain ⟨i0, hi0, hz0, hz1, hz2⟩ := info_parts info_bytes
  obtain ⟨cs, hsl, hrows⟩ := hv
  obtain ⟨A', c', hv', h1, h2, h3, hrd⟩ := hsl
  injection hv' with e1 hRn e3
  subst e1 e3
  rw [← hRn] at h1 hrd
  have hlen : cs.length = R.length := by have := hrd.1; omega
  have SR := Lib.hid (show ∀ W : World, Keep (fun _ => False) w W → Src Try.prog 1 85 (.slice A n c) n cs W from fun W hk => (hrd.keep hk (fun _ _ _ h => h)).src Try.underlying85 (bys_one hlen hrows) (by omega))
  have FIN := Lib.hid (show ∀ w', Keep (fun _ => False) w w' → RgoPost w F size (R, [], 9) (.returned (.tuple #[.agg #[.int .i64 (size : Nat), .slice A n c], .slice none 0 0, .int .i64 9])) w' from fun w' kk => rgo_same hv0 9 kk.to_below')
  clear hrows hrd h3 hlen hv0
  have hsz : ((size : Int) != (size : Int)) = false := by simp
  have H := Lib.hid (And.intro h1 (And.intro h2 (And.intro hRn hd)))
  clear h1 h2 hRn hd
  unfold rgArgs
  go_enter Try.func61, Try.ntmps61
  go_wp2_with (at_builtin; refine wpList_append_gen _ rfl _ _ _ _ rfl w.heap.size 22 i0 _ 1 24 Try.underlying85 hi0 hz0 hz1 hz2 rfl _ _ _ rfl (Own.none_ _ _ _ _ _) _ n _ rfl (SR.out _ ?b1) ?c1 ?c2 ?c3 ?_)
  case b1 => exact Keep.alloc (Keep.alloc (Keep.alloc (Keep.alloc (Keep.refl _ _) _) _) _) _
  case c1 => unfold maxLen; omega
  case c2 => omega
  case c3 => simp; omega
  intro v1 w1 ho1 hk1 _
  have hk1' : Keep (fun _ => False) w w1 := (Keep.alloc (Keep.alloc (Keep.alloc (Keep.alloc (Keep.refl _ _) _) _) _) _).trans hk1 (fun x _ h => by simp [ownB] at h)
  have b0 : w1.heap[w.heap.size]? = some (.cells #[.int .i64 (size : Nat), .slice A n c] 87 (0, 0)) := (hk1.block _ (by first | omega | (simp; done) | (simp; omega)) (by simp [ownB])).trans (by repeat (first | exact heap_alloc_at _ _ _ (by first | rfl | simp) | rw [Below.heap_alloc _ _ _ (by first | (simp; done) | (simp; omega))]))
  have b1 : w1.heap[w.heap.size + 1]? = some (.cells #[.int .i64 act, .int .i64 at_, .slice A2 size c2] 92 (0, 0)) := (hk1.block _ (by first | omega | (simp; done) | (simp; omega)) (by simp [ownB])).trans (by repeat (first | exact heap_alloc_at _ _ _ (by first | rfl | simp) | rw [Below.heap_alloc _ _ _ (by first | (simp; done) | (simp; omega))]))
  have b2 : w1.heap[w.heap.size + 1 + 1]? = some (.cells #[.int .i64 0, .slice none 0 0] 87 (0, 0)) := (hk1.block _ (by first | omega | (simp; done) | (simp; omega)) (by simp [ownB])).trans (by repeat (first | exact heap_alloc_at _ _ _ (by first | rfl | simp) | rw [Below.heap_alloc _ _ _ (by first | (simp; done) | (simp; omega))]))
  obtain ⟨A1, c1, rfl, _⟩ := ho1.form
  clear ho1 hk1
  have x00 : w1.cell? ⟨w.heap.size, 0, none⟩ = some (.int .i64 (size : Nat)) := by rw [cell_of_row w1 _ 0 _ _ _ b0]; rfl
  have x01 : w1.cell? ⟨w.heap.size, 1, none⟩ = some (.slice A n c) := by rw [cell_of_row w1 _ 1 _ _ _ b0]; rfl
  have x10 : w1.cell? ⟨w.heap.size + 1, 0, none⟩ = some (.int .i64 act) := by rw [cell_of_row w1 _ 0 _ _ _ b1]; rfl
  have x20 : w1.cell? ⟨w.heap.size + 1 + 1, 0, none⟩ = some (.int .i64 0) := by rw [cell_of_row w1 _ 0 _ _ _ b2]; rfl
  have x21 : w1.cell? ⟨w.heap.size + 1 + 1, 1, none⟩ = some (.slice none 0 0) := by rw [cell_of_row w1 _ 1 _ _ _ b2]; rfl
  have x2f := fun i => frozen_of_row w1 _ i _ _ b2
  have Z := Lib.hid (two_cells b2 (.int .i64 (size : Nat)) (.slice A n c))
  have HO := Lib.hid (hk1'.trans (keep_two w1 (w.heap.size + 1 + 1) (.int .i64 (size : Nat)) (.slice A n c)) (T := fun b => b = w.heap.size + 1 + 1) (S := fun _ => False) (fun x hx e => by omega))
  clear hk1' b0 b1 b2
  go_wp2
  exact bodyPost_ret (v := .tuple #[.agg #[.int .i64 (size : Nat), .slice A n c], .slice none 0 0, .int .i64 9]) (by simp [results, Try.results61, go_sem, Z.out.1, Z.out.2]) rfl (FIN.out _ HO.out)

theorem src_at {P : Program} {tx e' : TypeId} {W : World} {g : Nat} {x : Value} (hk : P.underlying tx = some (.slice e')) (h1 : x.oneCell' = true) (hc : W.cell? ⟨g, 0, none⟩ = some x) : Src P 1 tx (.slice (some ⟨g, 0, none⟩) 1 1) 1 [x] W :=
  Src.ofSlice _ hk _ 1 1 [x] rfl (fun j u hu => by
    match j, hu with
    | 0, hu => simp at hu; subst hu; simpa [Addr.add] using hc) (fun u hu => by simp at hu; subst hu; exact h1)
theorem rgo_add (size n c c2 : Nat) (act at_ : Int) (A A2 : Option Addr) (R : List (List UInt8)) (l : List UInt8) (F : Nat → Prop) (w : World) (hv : Bys w F (.slice A n c) R) (hd : By w F (.slice A2 size c2) l) (ha : act ≠ 1 ∧ act ≠ 2 ∧ act ≠ 3) (hn : n < 1024) :
    Calls Try.prog 61 (rgArgs size A n c act at_ A2 size c2) w (RgoPost w F size (R ++ [l], [], 0)) := by
  have he : ((n : Int) == 1024) = false := by rw [beq_eq_false_iff_ne]; omega
  have e1 : (act == 1) = false := by rw [beq_eq_false_iff_ne]; exact ha.1
  have e2 : (act == 2) = false := by rw [beq_eq_false_iff_ne]; exact ha.2.1
  have e3 : (act == 3) = false := by rw [beq_eq_false_iff_ne]; exact ha.2.2
  have e4 : (act != 2) = true := by rw [bne_iff_ne]; exact ha.2.1
  have e5 : (act != 3) = true := by rw [bne_iff_ne]; exact ha.2.2
  clear ha
  obtain ⟨i0, hi0, hz0, hz1, hz2⟩ := info_parts info_bytes
  obtain ⟨cs, hsl, hrows⟩ := hv
  obtain ⟨A', c', hv', h1, h2, h3, hrd⟩ := hsl
  injection hv' with e1 hRn e3
  subst e1 e3
  rw [← hRn] at h1 hrd
  have hlen : cs.length = R.length := by have := hrd.1; omega
  have SR := Lib.hid (show ∀ W : World, Keep (fun _ => False) w W → Src Try.prog 1 85 (.slice A n c) n cs W from fun W hk => (hrd.keep hk (fun _ _ _ h => h)).src Try.underlying85 (bys_one hlen hrows) (by omega))
  have FIN := Lib.hid (show ∀ w2 w' v2, Own w2 w.heap.size 22 1 v2 (n + 1) (cs ++ [.slice A2 size c2]) → ownB v2 ≠ some (w.heap.size + 1 + 1) → Keep (fun _ => False) w w2 → Keep (fun b => b = w.heap.size + 1 + 1) w2 w' →
      RgoPost w F size (R ++ [l], [], 0) (.returned (.tuple #[.agg #[.int .i64 (size : Nat), v2], .slice none 0 0, .int .i64 0])) w' from fun w2 w' v2 ho hne k1 k2 => by
    have kk : Keep (fun _ => False) w w' := k1.trans k2 (fun x hx e => by omega)
    refine ⟨_, _, rfl, bys_own (F := F) (ho.keep k2 (fun x hx e => hne (by rw [hx, e]))) (by rw [List.length_append, ← hRn]; rfl) (fun i r hr => ?_), By.nil _ _, kk.to_below'⟩
    rcases Nat.lt_or_ge i R.length with hi | hi
    · rw [List.getElem?_append_left hi] at hr
      rw [List.getElem?_append_left (by omega)]
      obtain ⟨u, hu, hb⟩ := hrows i r hr
      exact ⟨u, hu, hb.keep kk (fun _ _ _ h => h)⟩
    · rw [List.getElem?_append_right hi] at hr
      rw [List.getElem?_append_right (by omega), hlen]
      match hj : i - R.length, hr with
      | 0, hr =>
        obtain rfl : l = r := by simpa using hr
        exact ⟨_, rfl, hd.keep kk (fun _ _ _ h => h)⟩)
  clear hrows hrd h3 hlen
  have hsz : ((size : Int) != (size : Int)) = false := by simp
  have H := Lib.hid (And.intro h1 (And.intro h2 (And.intro hRn hd)))
  clear h1 h2 hRn hd
  unfold rgArgs
  go_enter Try.func61, Try.ntmps61
  go_wp2_with (at_builtin; refine wpList_append_gen _ rfl _ _ _ _ rfl w.heap.size 22 i0 _ 1 24 Try.underlying85 hi0 hz0 hz1 hz2 rfl _ _ _ rfl (Own.none_ _ _ _ _ _) _ n _ rfl (SR.out _ ?b1) ?c1 ?c2 ?c3 ?_)
  case b1 => exact Keep.alloc (Keep.alloc (Keep.alloc (Keep.alloc (Keep.refl _ _) _) _) _) _
  case c1 => unfold maxLen; omega
  case c2 => omega
  case c3 => simp; omega
  intro v1 w1 ho1 hk1 _
  have hk1' : Keep (fun _ => False) w w1 := (Keep.alloc (Keep.alloc (Keep.alloc (Keep.alloc (Keep.refl _ _) _) _) _) _).trans hk1 (fun x _ h => by simp [ownB] at h)
  have b0 : w1.heap[w.heap.size]? = some (.cells #[.int .i64 (size : Nat), .slice A n c] 87 (0, 0)) := (hk1.block _ (by first | omega | (simp; done) | (simp; omega)) (by simp [ownB])).trans (by repeat (first | exact heap_alloc_at _ _ _ (by first | rfl | simp) | rw [Below.heap_alloc _ _ _ (by first | (simp; done) | (simp; omega))]))
  have b1 : w1.heap[w.heap.size + 1]? = some (.cells #[.int .i64 act, .int .i64 at_, .slice A2 size c2] 92 (0, 0)) := (hk1.block _ (by first | omega | (simp; done) | (simp; omega)) (by simp [ownB])).trans (by repeat (first | exact heap_alloc_at _ _ _ (by first | rfl | simp) | rw [Below.heap_alloc _ _ _ (by first | (simp; done) | (simp; omega))]))
  have b2 : w1.heap[w.heap.size + 1 + 1]? = some (.cells #[.int .i64 0, .slice none 0 0] 87 (0, 0)) := (hk1.block _ (by first | omega | (simp; done) | (simp; omega)) (by simp [ownB])).trans (by repeat (first | exact heap_alloc_at _ _ _ (by first | rfl | simp) | rw [Below.heap_alloc _ _ _ (by first | (simp; done) | (simp; omega))]))
  obtain ⟨A1, c1, rfl, _⟩ := ho1.form
  have N0 := Lib.hid (ho1.ne_cells b0 (by decide))
  have N1 := Lib.hid (ho1.ne_cells b1 (by decide))
  have N2 := Lib.hid (ho1.ne_cells b2 (by decide))
  have hz := hk1'.size
  have hlt2 := (Array.getElem?_eq_some_iff.1 b2).1
  have x00 : w1.cell? ⟨w.heap.size, 0, none⟩ = some (.int .i64 (size : Nat)) := by rw [cell_of_row w1 _ 0 _ _ _ b0]; rfl
  have x10 : w1.cell? ⟨w.heap.size + 1, 0, none⟩ = some (.int .i64 act) := by rw [cell_of_row w1 _ 0 _ _ _ b1]; rfl
  have x12 : w1.cell? ⟨w.heap.size + 1, 2, none⟩ = some (.slice A2 size c2) := by rw [cell_of_row w1 _ 2 _ _ _ b1]; rfl
  have x20 : w1.cell? ⟨w.heap.size + 1 + 1, 0, none⟩ = some (.int .i64 0) := by rw [cell_of_row w1 _ 0 _ _ _ b2]; rfl
  have x21 : w1.cell? ⟨w.heap.size + 1 + 1, 1, none⟩ = some (.slice none 0 0) := by rw [cell_of_row w1 _ 1 _ _ _ b2]; rfl
  have x2f := fun i => frozen_of_row w1 _ i _ _ b2
  have HO := Lib.hid (And.intro ho1 hk1')
  have B0 := Lib.hid b0
  have B1 := Lib.hid b1
  have B2 := Lib.hid b2
  have AF := Lib.hid (show ∀ v2 w2, Own w2 w.heap.size 22 1 v2 (n + 1) (cs ++ [.slice A2 size c2]) → Keep (fun k => ownB (.slice A1 n c1) = some k) (w1.alloc (.cells #[.slice A2 size c2] 22)).drew w2 →
      w2.cell? ⟨w.heap.size, 0, none⟩ = some (.int .i64 (size : Nat)) ∧ w2.cell? ⟨w.heap.size + 1, 2, none⟩ = some (.slice A2 size c2) ∧ w2.cell? ⟨w.heap.size + 1 + 1, 0, none⟩ = some (.int .i64 0) ∧ w2.cell? ⟨w.heap.size + 1 + 1, 1, none⟩ = some (.slice none 0 0) ∧ (∀ i, w2.frozen? ⟨w.heap.size + 1 + 1, i, none⟩ = false) ∧ w2.heap[w.heap.size + 1 + 1]? = some (.cells #[.int .i64 0, .slice none 0 0] 87 (0, 0)) ∧ Keep (fun _ => False) w w2 ∧ ownB v2 ≠ some (w.heap.size + 1 + 1) from fun v2 w2 ho2 hk2 => by
    have kk : Keep (fun k => ownB (.slice A1 n c1) = some k) w1 w2 := Keep.trans (S := fun k => ownB (.slice A1 n c1) = some k) (T := fun k => ownB (.slice A1 n c1) = some k) (by repeat first | exact Keep.refl _ _ | refine Keep.alloc ?_ _ | refine Keep.drew ?_ | refine Keep.drewN ?_ _) hk2 (fun _ _ h => h)
    have hb2 := (kk.block _ (Array.getElem?_eq_some_iff.1 b2).1 N2.out).trans b2
    refine ⟨by rw [kk.cell N0.out x00], by rw [kk.cell N1.out x12], by rw [cell_of_row w2 _ 0 _ _ _ hb2]; rfl, by rw [cell_of_row w2 _ 1 _ _ _ hb2]; rfl, fun i => frozen_of_row w2 _ i _ _ hb2, hb2, hk1'.trans kk (fun x hx e => ?_), ho2.ne_cells hb2 (by decide)⟩
    have := (ho1.ownB x e).1
    omega)
  clear hk1' b0 b1 b2 hk1 ho1
  have aw0 : ∀ (W : World) (i o : Nat) (u : Value), (W.setCell ⟨w.heap.size + 1 + 1, i, none⟩ u).cell? ⟨w.heap.size, o, none⟩ = W.cell? ⟨w.heap.size, o, none⟩ := fun W i o u => cell_away (by omega) u
  have aw1 : ∀ (W : World) (i o : Nat) (u : Value), (W.setCell ⟨w.heap.size + 1 + 1, i, none⟩ u).cell? ⟨w.heap.size + 1, o, none⟩ = W.cell? ⟨w.heap.size + 1, o, none⟩ := fun W i o u => cell_away (by omega) u
  go_wp2
  go_region_held3 (fun w' => w'.cell? ⟨w.heap.size, 0, none⟩ = some (.int .i64 (size : Nat)) ∧ w'.cell? ⟨w.heap.size + 1, 2, none⟩ = some (.slice A2 size c2)) (go_keep)
    ((refine step_append_gen _ (by rfl) _ _ _ _ (by rfl) w.heap.size 22 i0 _ 1 24 Try.underlying85 hi0 hz0 hz1 hz2 rfl _ n cs (by rfl) (by exact (HO.out.1.alloc _).drew) _ 1 [.slice A2 size c2] (by rfl) (by exact (src_at Try.underlying85 rfl (by rw [World.cell?_drew, cell_of_row _ _ 0 _ _ _ (heap_alloc_new w1 _)]; rfl))) (by unfold maxLen; omega) (by omega) (by simp; omega) ?_; intro v2 w2 ho2 hk2 _; obtain ⟨u0, u2, u3, u4, u5, AA⟩ := AF.out v2 w2 ho2 hk2; obtain ⟨A3, c3, rfl, _⟩ := ho2.form; have HO2 := Lib.hid (And.intro ho2 AA); clear ho2 hk2 AA))
  obtain ⟨ho2, hb2, hk2, hne⟩ := HO2.out
  have Z := Lib.hid (two_cells hb2 (.int .i64 (size : Nat)) (.slice A3 (n + 1) c3))
  have FF := Lib.hid (FIN.out _ _ _ ho2 hne hk2 (keep_two w2 (w.heap.size + 1 + 1) (.int .i64 (size : Nat)) (.slice A3 (n + 1) c3)))
  clear ho2 hb2 hk2 hne
  go_wp2
  exact bodyPost_ret (v := .tuple #[.agg #[.int .i64 (size : Nat), .slice A3 (n + 1) c3], .slice none 0 0, .int .i64 0]) (by simp [results, Try.results61, go_sem, Z.out.1, Z.out.2]) rfl FF.out
end Go.Proofs.Ytmlbkenbgajkmaa

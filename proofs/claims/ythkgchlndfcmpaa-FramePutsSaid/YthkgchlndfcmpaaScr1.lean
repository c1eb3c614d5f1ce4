/- Slices of fates and of fuses in memory; contracts of slices.Clone and slices.Equal at both. Printed by genscr1.py. -/
import Derived.Test.YthkgchlndfcmpaaProg
import Derived.Test.YthkgchlndfcmpaaScrPl
import Derived.Test.YthkgchlndfcmpaaArgS
import Derived.Test.YthkgchlndfcmpaaCells
import Derived.Test.YthkgchlndfcmpaaLe1
import Derived.Laws.StructEq
import Derived.BigQuiet
import Derived.Deep.QuietTactic
namespace Go.Proofs.Ythkgchlndfcmpaa
open Go.RowKit
set_option maxRecDepth 100000
set_option linter.unusedVariables false
set_option linter.unusedSimpArgs false

def fcells (x : Fa) : List Value := [.int .i64 x.kept, .int .i64 x.torn]
theorem fcells_len (x : Fa) : (fcells x).length = 2 := rfl
def icells (z : Int) : List Value := [.int .i64 z]
theorem icells_len (z : Int) : (icells z).length = 1 := rfl
theorem icells_iv (l : List Int) : l.flatMap icells = iv l := by
  induction l with
  | nil => rfl
  | cons z l ih => rw [List.flatMap_cons, ih]; rfl
/-- u holds l, m cells an element, in blocks of F. -/
def ML {α : Type} (f : α → List Value) (m : Nat) (w : World) (F : Nat → Prop) (u : Value) (l : List α) : Prop :=
  ∃ A c, u = .slice A l.length c ∧ l.length ≤ c ∧ c ≤ maxLen ∧ Rd w F A (l.length * m) (l.flatMap f) ∧ (A = none → c = 0)
section
variable {α : Type} {f : α → List Value} {m : Nat} {w w' : World} {F G S : Nat → Prop} {u : Value} {l : List α}
theorem ML.keep (h : ML f m w F u l) (hk : Keep S w w') (hs : ∀ b, b < w.heap.size → F b → ¬ S b) : ML f m w' F u l := by
  obtain ⟨A, c, h1, h2, h3, h4, h5⟩ := h
  exact ⟨A, c, h1, h2, h3, h4.keep hk hs, h5⟩
theorem ML.same (h : ML f m w F u l) (hk : Keep (fun _ => False) w w') : ML f m w' F u l := h.keep hk (fun _ _ _ h => h)
theorem ML.mono (h : ML f m w F u l) (hf : ∀ b, b < w.heap.size → F b → G b) : ML f m w G u l := by
  obtain ⟨A, c, h1, h2, h3, h4, h5⟩ := h
  exact ⟨A, c, h1, h2, h3, h4.mono hf, h5⟩
theorem ML.nil (f : α → List Value) (m : Nat) (w : World) (F : Nat → Prop) : ML f m w F (.slice none 0 0) [] := ⟨none, 0, rfl, Nat.le_refl _, Nat.zero_le _, by rw [List.length_nil, Nat.zero_mul]; exact Rd.nil _ _ _, fun _ => rfl⟩
theorem ML.form (h : ML f m w F u l) : ∃ A c, u = .slice A l.length c := by
  obtain ⟨A, c, h1, _⟩ := h
  exact ⟨A, c, h1⟩
theorem ML.at_ (hf : ∀ x, (f x).length = m) (hm : 0 < m) {A : Option Addr} {n c : Nat} (h : ML f m w F (.slice A n c) l) {k : Nat} (hk : k < n) :
    ∃ b off x, A = some ⟨b, off, none⟩ ∧ F b ∧ l[k]? = some x ∧ ∀ j u, (f x)[j]? = some u → w.cell? ⟨b, off + k * m + j, none⟩ = some u := by
  obtain ⟨A', c', e, h2, h3, h4, h5⟩ := h
  injection e with e1 e2 e3
  subst e1 e2
  exact flat_cells hf h4 rfl hm hk
theorem Own.ml {B n : Nat} {e : TypeId} (hm : 0 < m) (hf : ∀ x, (f x).length = m) (h : Own w B e m u l.length (l.flatMap f)) : ML f m w (fun k => B ≤ k) u l := by
  obtain ⟨A, c, h1, h2, h3, h4, h5⟩ := h.sl
  exact ⟨A, c, h1, h2, h3, h5, h4⟩
end
theorem info_fate : (Try.prog.info? 100).map (fun i => (i.zero, i.size, i.bytes)) = some (some (.agg #[.int .i64 0, .int .i64 0]), 2, 16) := by kernel_rfl
theorem info_intS : (Try.prog.info? 3).map (fun i => (i.zero, i.size, i.bytes)) = some (some (.int .i64 0), 1, 8) := by kernel_rfl

theorem clone_f (l : List Fa) (v : Value) (F : Nat → Prop) (w : World) (hv : ML fcells 2 w F v l) (hn : l.length ≤ 1000000) :
    Calls Try.prog 77 #[v] w fun e w' => ∃ A c, e = .returned (.slice A l.length c) ∧ ML fcells 2 w' (fun b => w.heap.size ≤ b) (.slice A l.length c) l ∧ Below w.heap.size w w' := by
  obtain ⟨i0, hi0, hz0, hz1, hz2⟩ := info_parts info_fate
  have HN := Lib.hid hn
  clear hn
  obtain ⟨A, c, rfl, h1, h2, h4, h3⟩ := hv
  have h1v : ∀ u ∈ l.flatMap fcells, u.oneCell' = true := fun u hu => by
    obtain ⟨x, _, hx⟩ := List.mem_flatMap.1 hu
    unfold fcells at hx
    simp at hx
    first | (rcases hx with rfl | rfl <;> rfl) | (subst hx; rfl)
  rcases A with _ | a
  · have h0 : l.length = 0 := by have := h3 rfl; omega
    have hl : l = [] := List.eq_nil_of_length_eq_zero h0
    subst hl
    clear h1 h2 h3 h4 h0
    have hq := fun (w : World) => Lib.run_eql_slice_nil (P := Try.prog) w 42 100 none 0 c 0 0 Try.underlying42
    go_enter Try.func77, Try.ntmps77
    go_wp2
    go_ret
    exact ⟨_, _, rfl, ML.nil _ _ _ _, Below.refl _ _⟩
  · have hq := fun (w : World) => Lib.run_eql_slice_nil (P := Try.prog) w 42 100 (some a) l.length c 0 0 Try.underlying42
    have hs := (h4.alloc (.cells #[] 100)).src (c := c) (P := Try.prog) Try.underlying42 h1v (by omega)
    have HS := Lib.hid hs
    clear hs h4 h1v
    obtain ⟨n, hn⟩ : ∃ n, n = l.length := ⟨_, rfl⟩
    have NL := Lib.hid hn
    rw [← hn] at hq h1 HS HN
    rw [← hn]
    clear hn
    generalize hxs : l.flatMap fcells = xs at *
    have XS := Lib.hid hxs
    clear hxs
    go_enter Try.func77, Try.ntmps77
    go_wp2_with (at_builtin; refine wpList_append_gen _ rfl _ _ _ _ rfl w.heap.size 100 i0 _ 2 16 Try.underlying42 hi0 hz0 hz1 hz2 rfl _ _ _ rfl (Own.none_ _ _ _ _ _) _ n xs rfl HS.out ?c1 ?c2 ?c3 ?_)
    case c1 => have := HN.out; unfold maxLen; omega
    case c2 => have := HN.out; omega
    case c3 => simp
    intro v' w1 hown' hk1 _
    have hb1 := append_below (Below.refl _ w) (Own.none_ w w.heap.size 100 2 _) hk1
    clear hk1
    rw [NL.out, ← XS.out] at hown'
    have hml := Own.ml (n := 0) (by decide) fcells_len hown'
    obtain ⟨A', c', hv'⟩ := hml.form
    subst hv'
    rw [← NL.out] at hml
    go_wp2
    go_ret
    exact ⟨A', c', by first | rfl | (rw [NL.out]; rfl), hml, hb1⟩

set_option maxHeartbeats 4000000 in
theorem equal_f (xs ys : List Fa) (u v : Value) (F G : Nat → Prop) (w : World) (ha : ML fcells 2 w F u xs) (hb : ML fcells 2 w G v ys) (hn : xs.length ≤ 1000000) :
    Calls Try.prog 84 #[u, v] w fun e w' => e = .returned (.bool (decide (xs = ys))) ∧ ∃ q, w' = w.drewN q := by
  obtain ⟨A, c, rfl⟩ := ha.form
  obtain ⟨B, d, rfl⟩ := hb.form
  obtain ⟨r, hr⟩ : ∃ r, r = decide (xs = ys) := ⟨_, rfl⟩
  rw [← hr]
  by_cases hl : xs.length = ys.length
  · have HL := Lib.hid hl
    have HA := Lib.hid ha
    have HB := Lib.hid hb
    have h0 : ((xs.length : Int) != (ys.length : Int)) = false := by rw [hl]; simp
    have HE := Lib.hid (show xs.take xs.length = ys.take xs.length → r = true from fun h => by
      rw [hr, decide_eq_true_iff]
      rw [List.take_length, HL.out, List.take_length] at h
      exact h)
    have HN := Lib.hid (show ∀ (k : Nat) x y, xs[k]? = some x → ys[k]? = some y → x ≠ y → r = false from fun k x y h1 h2 h => by
      rw [hr, decide_eq_false_iff_not]
      rintro rfl
      rw [h1] at h2
      injection h2 with h2
      exact h h2)
    have HR := Lib.hid (show ∀ (k : Nat) x, xs[k]? = some x → ys[k]? = some x → xs.take k = ys.take k → xs.take (k + 1) = ys.take (k + 1) from fun k x h1 h2 h => by
      rw [List.take_add_one, List.take_add_one, h, h1, h2])
    clear hr ha hb hl
    generalize hnx : xs.length = n at *
    have HQ := HL.out
    generalize ys.length = nn at *
    subst HQ
    clear hnx HL
    go_enter Try.func84, Try.ntmps84
    go_wp2
    go_loopw [13] (fun i wr => ∃ (k q : Nat), k ≤ n ∧ i = .int .i64 k ∧ wr = w.drewN q ∧ Hid (xs.take k = ys.take k)) (fun i _ => n - (intOf i).toNat)
    case atStart => exact ⟨0, 0, by omega, rfl, rfl, Lib.hid rfl⟩
    case round =>
      obtain ⟨k, q, hk, rfl, rfl, ht⟩ := hrel
      by_cases hlt : k < n
      · obtain ⟨b1, o1, x, rfl, -, hx, q1⟩ := ML.at_ fcells_len (by decide) HA.out hlt
        obtain ⟨b2, o2, y, rfl, -, hy, q2⟩ := ML.at_ fcells_len (by decide) HB.out hlt
        have hi : (k : Int) < (n : Int) := by omega
        have h00 : (0 : Int) ≤ (k : Int) := by omega
        have NE := HN.out k x y hx hy
        have YE := HR.out k
        have c1 : w.cell? ⟨b1, o1 + k * 2, none⟩ = some (.int .i64 x.kept) := q1 0 _ rfl
        have c2 : w.cell? ⟨b1, o1 + k * 2 + 1, none⟩ = some (.int .i64 x.torn) := q1 1 _ rfl
        have d1 : w.cell? ⟨b2, o2 + k * 2, none⟩ = some (.int .i64 y.kept) := q2 0 _ rfl
        have d2 : w.cell? ⟨b2, o2 + k * 2 + 1, none⟩ = some (.int .i64 y.torn) := q2 1 _ rfl
        clear q1 q2
        by_cases hxy : x = y
        · subst hxy
          have NX := Lib.hid (YE x hx hy ht.out)
          clear NE YE hx hy
          obtain ⟨xk, xt⟩ := x
          have e1 : (xk == xk) = true := by simp
          have e2 : (xt == xt) = true := by simp
          go_wp2
          go_quiet (fail)
          go_wp2
          go_roundw
          case rel => exact ⟨k + 1, _, by omega, by go_num, by first | rfl | exact World.drewN_drewN _ _ _, NX⟩
          case measure => simp [intOf]; omega
        · have hf := Lib.hid (NE hxy)
          clear NE YE hx hy
          obtain ⟨xk, xt⟩ := x
          obtain ⟨yk, yt⟩ := y
          by_cases hk1 : xk = yk
          · have hk2 : xt ≠ yt := fun h => hxy (by rw [hk1, h])
            subst hk1
            have e1 : (xk == xk) = true := by simp
            have e2 : (xt == yt) = false := by simpa using hk2
            clear hk2 hxy
            go_wp2
            go_quiet (fail)
            go_wp2
            go_ret
            exact ⟨ret_bool hf.out.symm, _, by first | rfl | exact World.drewN_drewN _ _ _⟩
          · have e1 : (xk == yk) = false := by simpa using hk1
            clear hk1 hxy
            go_wp2
            go_quiet (fail)
            go_wp2
            go_ret
            exact ⟨ret_bool hf.out.symm, _, by first | rfl | exact World.drewN_drewN _ _ _⟩
      · have hi : ¬ (k : Int) < (n : Int) := by omega
        have hf := Lib.hid (HE.out (by rw [show n = k by omega]; exact ht.out))
        go_wp2
        go_ret
        exact ⟨ret_bool hf.out.symm, q, rfl⟩
  · have h0 : ((xs.length : Int) != (ys.length : Int)) = true := by rw [bne_iff_ne]; omega
    have hf : Hid (r = false) := by
      show r = false
      rw [hr, decide_eq_false_iff_not]
      rintro rfl
      exact hl rfl
    clear ha hb hr
    go_enter Try.func84, Try.ntmps84
    go_wp2
    go_ret
    exact ⟨ret_bool hf.out.symm, 0, rfl⟩

theorem clone_i (l : List Int) (v : Value) (F : Nat → Prop) (w : World) (hv : ML icells 1 w F v l) (hn : l.length ≤ 1000000) :
    Calls Try.prog 78 #[v] w fun e w' => ∃ A c, e = .returned (.slice A l.length c) ∧ ML icells 1 w' (fun b => w.heap.size ≤ b) (.slice A l.length c) l ∧ Below w.heap.size w w' := by
  obtain ⟨i0, hi0, hz0, hz1, hz2⟩ := info_parts info_intS
  have HN := Lib.hid hn
  clear hn
  obtain ⟨A, c, rfl, h1, h2, h4, h3⟩ := hv
  have h1v : ∀ u ∈ l.flatMap icells, u.oneCell' = true := fun u hu => by
    obtain ⟨x, _, hx⟩ := List.mem_flatMap.1 hu
    unfold icells at hx
    simp at hx
    first | (rcases hx with rfl | rfl <;> rfl) | (subst hx; rfl)
  rcases A with _ | a
  · have h0 : l.length = 0 := by have := h3 rfl; omega
    have hl : l = [] := List.eq_nil_of_length_eq_zero h0
    subst hl
    clear h1 h2 h3 h4 h0
    have hq := fun (w : World) => Lib.run_eql_slice_nil (P := Try.prog) w 43 3 none 0 c 0 0 Try.underlying43
    go_enter Try.func78, Try.ntmps78
    go_wp2
    go_ret
    exact ⟨_, _, rfl, ML.nil _ _ _ _, Below.refl _ _⟩
  · have hq := fun (w : World) => Lib.run_eql_slice_nil (P := Try.prog) w 43 3 (some a) l.length c 0 0 Try.underlying43
    have hs := (h4.alloc (.cells #[] 3)).src (c := c) (P := Try.prog) Try.underlying43 h1v (by omega)
    have HS := Lib.hid hs
    clear hs h4 h1v
    obtain ⟨n, hn⟩ : ∃ n, n = l.length := ⟨_, rfl⟩
    have NL := Lib.hid hn
    rw [← hn] at hq h1 HS HN
    rw [← hn]
    clear hn
    generalize hxs : l.flatMap icells = xs at *
    have XS := Lib.hid hxs
    clear hxs
    go_enter Try.func78, Try.ntmps78
    go_wp2_with (at_builtin; refine wpList_append_gen _ rfl _ _ _ _ rfl w.heap.size 3 i0 _ 1 8 Try.underlying43 hi0 hz0 hz1 hz2 rfl _ _ _ rfl (Own.none_ _ _ _ _ _) _ n xs rfl HS.out ?c1 ?c2 ?c3 ?_)
    case c1 => have := HN.out; unfold maxLen; omega
    case c2 => have := HN.out; omega
    case c3 => simp
    intro v' w1 hown' hk1 _
    have hb1 := append_below (Below.refl _ w) (Own.none_ w w.heap.size 3 1 _) hk1
    clear hk1
    rw [NL.out, ← XS.out] at hown'
    have hml := Own.ml (n := 0) (by decide) icells_len hown'
    obtain ⟨A', c', hv'⟩ := hml.form
    subst hv'
    rw [← NL.out] at hml
    go_wp2
    go_ret
    exact ⟨A', c', by first | rfl | (rw [NL.out]; rfl), hml, hb1⟩

set_option maxHeartbeats 4000000 in
theorem equal_i (xs ys : List Int) (u v : Value) (F G : Nat → Prop) (w : World) (ha : ML icells 1 w F u xs) (hb : ML icells 1 w G v ys) (hn : xs.length ≤ 1000000) :
    Calls Try.prog 85 #[u, v] w fun e w' => e = .returned (.bool (decide (xs = ys))) ∧ ∃ q, w' = w.drewN q := by
  obtain ⟨A, c, rfl⟩ := ha.form
  obtain ⟨B, d, rfl⟩ := hb.form
  obtain ⟨r, hr⟩ : ∃ r, r = decide (xs = ys) := ⟨_, rfl⟩
  rw [← hr]
  by_cases hl : xs.length = ys.length
  · have HL := Lib.hid hl
    have HA := Lib.hid ha
    have HB := Lib.hid hb
    have h0 : ((xs.length : Int) != (ys.length : Int)) = false := by rw [hl]; simp
    have HE := Lib.hid (show xs.take xs.length = ys.take xs.length → r = true from fun h => by
      rw [hr, decide_eq_true_iff]
      rw [List.take_length, HL.out, List.take_length] at h
      exact h)
    have HN := Lib.hid (show ∀ (k : Nat) x y, xs[k]? = some x → ys[k]? = some y → x ≠ y → r = false from fun k x y h1 h2 h => by
      rw [hr, decide_eq_false_iff_not]
      rintro rfl
      rw [h1] at h2
      injection h2 with h2
      exact h h2)
    have HR := Lib.hid (show ∀ (k : Nat) x, xs[k]? = some x → ys[k]? = some x → xs.take k = ys.take k → xs.take (k + 1) = ys.take (k + 1) from fun k x h1 h2 h => by
      rw [List.take_add_one, List.take_add_one, h, h1, h2])
    clear hr ha hb hl
    generalize hnx : xs.length = n at *
    have HQ := HL.out
    generalize ys.length = nn at *
    subst HQ
    clear hnx HL
    go_enter Try.func85, Try.ntmps85
    go_wp2
    go_loopw [13] (fun i wr => ∃ (k q : Nat), k ≤ n ∧ i = .int .i64 k ∧ wr = w.drewN q ∧ Hid (xs.take k = ys.take k)) (fun i _ => n - (intOf i).toNat)
    case atStart => exact ⟨0, 0, by omega, rfl, rfl, Lib.hid rfl⟩
    case round =>
      obtain ⟨k, q, hk, rfl, rfl, ht⟩ := hrel
      by_cases hlt : k < n
      · obtain ⟨b1, o1, x, rfl, -, hx, q1⟩ := ML.at_ icells_len (by decide) HA.out hlt
        obtain ⟨b2, o2, y, rfl, -, hy, q2⟩ := ML.at_ icells_len (by decide) HB.out hlt
        have hi : (k : Int) < (n : Int) := by omega
        have h00 : (0 : Int) ≤ (k : Int) := by omega
        have NE := HN.out k x y hx hy
        have YE := HR.out k
        have c1 : w.cell? ⟨b1, o1 + k, none⟩ = some (.int .i64 x) := by have h := q1 0 _ rfl; rwa [Nat.mul_one, Nat.add_zero] at h
        have d1 : w.cell? ⟨b2, o2 + k, none⟩ = some (.int .i64 y) := by have h := q2 0 _ rfl; rwa [Nat.mul_one, Nat.add_zero] at h
        clear q1 q2
        by_cases hxy : x = y
        · subst hxy
          have NX := Lib.hid (YE x hx hy ht.out)
          clear NE YE hx hy
          have e1 : (x == x) = true := by simp
          have e2 : (x != x) = false := by simp
          go_wp2
          go_quiet (fail)
          go_wp2
          go_roundw
          case rel => exact ⟨k + 1, _, by omega, by go_num, by first | rfl | exact World.drewN_drewN _ _ _, NX⟩
          case measure => simp [intOf]; omega
        · have hf := Lib.hid (NE hxy)
          clear NE YE hx hy
          have e2 : (x != y) = true := by simpa using hxy
          clear hxy
          go_wp2
          go_quiet (fail)
          go_wp2
          go_ret
          exact ⟨ret_bool hf.out.symm, _, by first | rfl | exact World.drewN_drewN _ _ _⟩
      · have hi : ¬ (k : Int) < (n : Int) := by omega
        have hf := Lib.hid (HE.out (by rw [show n = k by omega]; exact ht.out))
        go_wp2
        go_ret
        exact ⟨ret_bool hf.out.symm, q, rfl⟩
  · have h0 : ((xs.length : Int) != (ys.length : Int)) = true := by rw [bne_iff_ne]; omega
    have hf : Hid (r = false) := by
      show r = false
      rw [hr, decide_eq_false_iff_not]
      rintro rfl
      exact hl rfl
    clear ha hb hr
    go_enter Try.func85, Try.ntmps85
    go_wp2
    go_ret
    exact ⟨ret_bool hf.out.symm, 0, rfl⟩

end Go.Proofs.Ythkgchlndfcmpaa

/- Contracts of slices.Equal at bytes and of script.exact. Printed by genscr3.py. -/
import Derived.Test.YthkgchlndfcmpaaScr2
namespace Go.Proofs.Ythkgchlndfcmpaa
open Go.RowKit
set_option maxRecDepth 100000
set_option linter.unusedVariables false
set_option linter.unusedSimpArgs false

set_option maxHeartbeats 4000000 in
theorem equal_b (xs ys : List UInt8) (u v : Value) (F G : Nat → Prop) (w : World) (ha : By w F u xs) (hb : By w G v ys) (hn : xs.length ≤ 1000000) :
    Calls Try.prog 116 #[u, v] w fun e w' => e = .returned (.bool (decide (xs = ys))) ∧ ∃ q, w' = w.drewN q := by
  obtain ⟨A, c, rfl, -, -, -, ra⟩ := ha
  obtain ⟨B, d, rfl, -, -, -, rb⟩ := hb
  obtain ⟨r, hr⟩ : ∃ r, r = decide (xs = ys) := ⟨_, rfl⟩
  rw [← hr]
  by_cases hl : xs.length = ys.length
  · have HL := Lib.hid hl
    have HA := Lib.hid ra
    have HB := Lib.hid rb
    have h0 : ((xs.length : Int) != (ys.length : Int)) = false := by rw [hl]; simp
    have HE := Lib.hid (show xs.take xs.length = ys.take xs.length → r = true from fun h => by
      rw [hr, decide_eq_true_iff]
      rw [List.take_length, HL.out, List.take_length] at h
      exact h)
    have HN := Lib.hid (show ∀ (k : Nat) x y, xs[k]? = some x → ys[k]? = some y → x ≠ y → r = false from fun k x y h1 h2 h => by
      rw [hr, decide_eq_false_iff_not]
      rintro rfl
      rw [h1] at h2
      injection h2 with h2
      exact h h2)
    have HR := Lib.hid (show ∀ (k : Nat) x, xs[k]? = some x → ys[k]? = some x → xs.take k = ys.take k → xs.take (k + 1) = ys.take (k + 1) from fun k x h1 h2 h => by
      rw [List.take_add_one, List.take_add_one, h, h1, h2])
    clear hr ra rb hl
    obtain ⟨n, hnx⟩ : ∃ n, n = xs.length := ⟨_, rfl⟩
    have NX := Lib.hid hnx
    have NY := Lib.hid (show n = ys.length from hnx.trans HL.out)
    rw [← hnx] at h0 HA HE hn ⊢
    rw [← NY.out] at h0 HB ⊢
    clear hnx HL
    go_enter Try.func116, Try.ntmps116
    go_wp2
    go_loopw [13] (fun i wr => ∃ (k q : Nat), k ≤ n ∧ i = .int .i64 k ∧ wr = w.drewN q ∧ Hid (xs.take k = ys.take k)) (fun i _ => n - (intOf i).toNat)
    case atStart => exact ⟨0, 0, by omega, rfl, rfl, Lib.hid rfl⟩
    case round =>
      obtain ⟨k, q, hk, rfl, rfl, ht⟩ := hrel
      by_cases hlt : k < n
      · have bx := bv_at (l := xs) (k := k) (by have := NX.out; omega)
        have yx := bv_at (l := ys) (k := k) (by have := NY.out; omega)
        obtain ⟨b1, o1, rfl, -, q1⟩ := HA.out.at_ (show k < n * 1 by omega)
        obtain ⟨b2, o2, rfl, -, q2⟩ := HB.out.at_ (show k < n * 1 by omega)
        have c1 := q1 k _ bx.1
        have d1 := q2 k _ yx.1
        have hi : (k : Int) < (n : Int) := by omega
        have h00 : (0 : Int) ≤ (k : Int) := by omega
        have NE := HN.out k _ _ bx.2 yx.2
        have YE := HR.out k (xs.getD k 0) bx.2
        have yx2 := yx.2
        clear q1 q2 bx yx
        generalize xs.getD k 0 = x at *
        generalize ys.getD k 0 = y at *
        by_cases hxy : x = y
        · subst hxy
          have NX2 := Lib.hid (YE yx2 ht.out)
          clear NE YE yx2
          generalize (x.toNat : Int) = z at *
          have e1 : (z == z) = true := by simp
          have e2 : (z != z) = false := by simp
          go_wp2
          go_quiet (fail)
          go_wp2
          go_roundw
          case rel => exact ⟨k + 1, _, by omega, by go_num, by first | rfl | exact World.drewN_drewN _ _ _, NX2⟩
          case measure => simp [intOf]; omega
        · have hf := Lib.hid (NE hxy)
          have hz : (x.toNat : Int) ≠ (y.toNat : Int) := fun h => hxy (UInt8.toNat_inj.1 (by omega))
          clear NE YE yx2 hxy
          generalize (x.toNat : Int) = z1 at *
          generalize (y.toNat : Int) = z2 at *
          have e2 : (z1 != z2) = true := by simpa using hz
          clear hz
          go_wp2
          go_quiet (fail)
          go_wp2
          go_ret
          exact ⟨ret_bool hf.out.symm, _, by first | rfl | exact World.drewN_drewN _ _ _⟩
      · have hi : ¬ (k : Int) < (n : Int) := by omega
        have hf := Lib.hid (HE.out (by rw [show n = k by omega]; exact ht.out))
        go_wp2
        go_ret
        exact ⟨ret_bool hf.out.symm, q, rfl⟩
  · have h0 : ((xs.length : Int) != (ys.length : Int)) = true := by rw [bne_iff_ne]; omega
    have hf : Hid (r = false) := by
      show r = false
      rw [hr, decide_eq_false_iff_not]
      rintro rfl
      exact hl rfl
    clear ra rb hr
    go_enter Try.func116, Try.ntmps116
    go_wp2
    go_ret
    exact ⟨ret_bool hf.out.symm, 0, rfl⟩
theorem sexact_raw (a1 a3 a4 a5 b1 b3 b4 b5 : Int) (a2 b2 r : Bool) (A B : Option Addr) (n c m d : Nat) (w : World)
    (hs : ∀ W, Keep (fun _ => False) w W → Calls Try.prog 116 #[.slice A n c, .slice B m d] W fun e w' => e = .returned (.bool r) ∧ ∃ q, w' = W.drewN q) :
    Calls Try.prog 83 #[.agg #[.int .i64 a1, .bool a2, .int .i64 a3, .int .i64 a4, .int .i64 a5, .slice A n c], .agg #[.int .i64 b1, .bool b2, .int .i64 b3, .int .i64 b4, .int .i64 b5, .slice B m d]] w fun e w' =>
      e = .returned (.bool (decide (a1 = b1) && (decide (a2 = b2) && (decide (a3 = b3 ∧ a4 = b4) && (decide (a5 = b5) && r))))) ∧ Below w.heap.size w w' := by
  have S := Lib.hid hs
  clear hs
  obtain ⟨z, hz⟩ : ∃ z, z = (decide (a1 = b1) && (decide (a2 = b2) && (decide (a3 = b3 ∧ a4 = b4) && (decide (a5 = b5) && r)))) := ⟨_, rfl⟩
  rw [← hz]
  by_cases h1 : ¬ a1 = b1
  · have Z := Lib.hid (show z = false by rw [hz]; simp [h1])
    have e1 : (a1 == b1) = false := by rw [beq_eq_false_iff_ne]; exact h1
    clear hz
    go_enter Try.func83, Try.ntmps83
    go_wp2
    go_ret
    exact ⟨ret_bool (Z.out.symm), (by repeat first | exact Below.refl _ _ | refine Below.setCell ?_ (by first | omega | (simp; done) | (simp; omega)) _ | refine Below.alloc ?_ (by first | omega | (simp; done) | (simp; omega)) _ | refine Below.drew ?_ | refine below_drewN ?_ _ | assumption)⟩
  have h1 := Decidable.not_not.1 h1
  subst h1
  by_cases h2 : ¬ a2 = b2
  · have Z := Lib.hid (show z = false by rw [hz]; simp [h2])
    have e1 : (a2 == b2) = false := by rw [beq_eq_false_iff_ne]; exact h2
    clear hz
    go_enter Try.func83, Try.ntmps83
    go_wp2
    go_ret
    exact ⟨ret_bool (Z.out.symm), (by repeat first | exact Below.refl _ _ | refine Below.setCell ?_ (by first | omega | (simp; done) | (simp; omega)) _ | refine Below.alloc ?_ (by first | omega | (simp; done) | (simp; omega)) _ | refine Below.drew ?_ | refine below_drewN ?_ _ | assumption)⟩
  have h2 := Decidable.not_not.1 h2
  subst h2
  by_cases h3 : ¬ a3 = b3
  · have Z := Lib.hid (show z = false by rw [hz]; simp [h3])
    have e1 : (a3 == b3) = false := by rw [beq_eq_false_iff_ne]; exact h3
    clear hz
    go_enter Try.func83, Try.ntmps83
    go_wp2
    go_ret
    exact ⟨ret_bool (Z.out.symm), (by repeat first | exact Below.refl _ _ | refine Below.setCell ?_ (by first | omega | (simp; done) | (simp; omega)) _ | refine Below.alloc ?_ (by first | omega | (simp; done) | (simp; omega)) _ | refine Below.drew ?_ | refine below_drewN ?_ _ | assumption)⟩
  have h3 := Decidable.not_not.1 h3
  subst h3
  by_cases h4 : ¬ a4 = b4
  · have Z := Lib.hid (show z = false by rw [hz]; simp [h4])
    have e1 : (a4 == b4) = false := by rw [beq_eq_false_iff_ne]; exact h4
    clear hz
    go_enter Try.func83, Try.ntmps83
    go_wp2
    go_ret
    exact ⟨ret_bool (Z.out.symm), (by repeat first | exact Below.refl _ _ | refine Below.setCell ?_ (by first | omega | (simp; done) | (simp; omega)) _ | refine Below.alloc ?_ (by first | omega | (simp; done) | (simp; omega)) _ | refine Below.drew ?_ | refine below_drewN ?_ _ | assumption)⟩
  have h4 := Decidable.not_not.1 h4
  subst h4
  by_cases h5 : ¬ a5 = b5
  · have Z := Lib.hid (show z = false by rw [hz]; simp [h5])
    have e1 : (a5 == b5) = false := by rw [beq_eq_false_iff_ne]; exact h5
    clear hz
    go_enter Try.func83, Try.ntmps83
    go_wp2
    go_ret
    exact ⟨ret_bool (Z.out.symm), (by repeat first | exact Below.refl _ _ | refine Below.setCell ?_ (by first | omega | (simp; done) | (simp; omega)) _ | refine Below.alloc ?_ (by first | omega | (simp; done) | (simp; omega)) _ | refine Below.drew ?_ | refine below_drewN ?_ _ | assumption)⟩
  have h5 := Decidable.not_not.1 h5
  subst h5
  have Z := Lib.hid (show z = r by rw [hz]; simp)
  clear hz
  go_enter Try.func83, Try.ntmps83
  go_wp2_with (go_at_call 116; refine (S.out _ (by exact (by repeat first | exact Keep.refl _ _ | refine Keep.alloc ?_ _ | refine Keep.drew ?_ | refine Keep.drewN ?_ _))).mono ?_; rintro e w1 ⟨rfl, q, rfl⟩)
  go_ret
  exact ⟨ret_bool (Z.out.symm), (by repeat first | exact Below.refl _ _ | refine Below.setCell ?_ (by first | omega | (simp; done) | (simp; omega)) _ | refine Below.alloc ?_ (by first | omega | (simp; done) | (simp; omega)) _ | refine Below.drew ?_ | refine below_drewN ?_ _ | assumption)⟩

theorem sexact_any (a b : Cmd) (u v : Value) (F G : Nat → Prop) (w : World) (hu : By w F u a.l) (hv : By w G v b.l) (hn : a.l.length ≤ 1000000) :
    Calls Try.prog 83 #[cmdV a u, cmdV b v] w fun e w' => e = .returned (.bool (exactC a b)) ∧ Below w.heap.size w w' := by
  have hs := fun W (hk : Keep (fun _ => False) w W) => equal_b a.l b.l u v F G W (hu.keep hk (fun _ _ _ h => h)) (hv.keep hk (fun _ _ _ h => h)) hn
  obtain ⟨A, c, rfl, _, _, _, _⟩ := hu
  obtain ⟨B, d, rfl, _, _, _, _⟩ := hv
  exact sexact_raw a.do_ a.idx a.gen a.comp b.do_ b.idx b.gen b.comp a.loc b.loc _ A B _ c _ d w hs
end Go.Proofs.Ythkgchlndfcmpaa

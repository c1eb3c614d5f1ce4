/- Slices of acts in memory; vivariumref31.Much. -/
import Derived.Test.YthkgchlndfcmpaaScr8
namespace Go.Proofs.Ythkgchlndfcmpaa
open Go.RowKit
set_option maxRecDepth 100000
set_option linter.unusedVariables false
set_option linter.unusedSimpArgs false

/-- An act's cells, with its three slices. -/
def acL (p : Ac × (Value × Value × Value)) : List Value := [.int .i64 p.1.do_, .int .i64 p.1.c.do_, .bool p.1.c.loc, .int .i64 p.1.c.idx, .int .i64 p.1.c.gen, .int .i64 p.1.c.comp, p.2.1, .int .i64 p.1.room, .int .i64 p.1.frames, .int .i64 p.1.n, p.2.2.1, p.2.2.2]
theorem acL_len (p : Ac × (Value × Value × Value)) : (acL p).length = 12 := rfl
/-- v holds the acts l, all in blocks of F. -/
def AS (w : World) (F : Nat → Prop) (v : Value) (l : List Ac) : Prop :=
  ∃ us : List (Value × Value × Value), us.length = l.length ∧ ML acL 12 w F v (l.zip us) ∧ ∀ (i : Nat) x u, l[i]? = some x → us[i]? = some u → AM w F x u.1 u.2.1 u.2.2
section
variable {w w' : World} {F G S : Nat → Prop} {v : Value} {l : List Ac}
theorem AS.keep (h : AS w F v l) (hk : Keep S w w') (hs : ∀ b, b < w.heap.size → F b → ¬ S b) : AS w' F v l := by
  obtain ⟨us, h1, h2, h3⟩ := h
  exact ⟨us, h1, h2.keep hk hs, fun i x u hx hu => (h3 i x u hx hu).keep hk hs⟩
theorem AS.same (h : AS w F v l) (hk : Keep (fun _ => False) w w') : AS w' F v l := h.keep hk (fun _ _ _ h => h)
theorem AS.mono (h : AS w F v l) (hf : ∀ b, b < w.heap.size → F b → G b) : AS w G v l := by
  obtain ⟨us, h1, h2, h3⟩ := h
  exact ⟨us, h1, h2.mono hf, fun i x u hx hu => (h3 i x u hx hu).mono hf⟩
theorem AS.nil (w : World) (F : Nat → Prop) : AS w F (.slice none 0 0) [] := ⟨[], rfl, ML.nil _ _ _ _, fun i x u hx => by simp at hx⟩
theorem AS.form (h : AS w F v l) : ∃ A c, v = .slice A l.length c ∧ c ≤ maxLen := by
  obtain ⟨us, h1, ⟨A, c, e, h3, h4, h5⟩, _⟩ := h
  refine ⟨A, c, ?_, h4⟩
  rw [e, List.length_zip, h1, Nat.min_self]
theorem AS.len (h : AS w F v l) : l.length ≤ 9223372036854775807 := by
  obtain ⟨us, h1, ⟨A, c, e, h3, h4, h5⟩, _⟩ := h
  rw [List.length_zip, h1, Nat.min_self] at h3
  unfold maxLen at h4
  omega
theorem AS.at_ {A : Option Addr} {n c : Nat} (h : AS w F (.slice A n c) l) {k : Nat} (hk : k < n) :
    ∃ b off x u1 u2 u3, A = some ⟨b, off, none⟩ ∧ F b ∧ l[k]? = some x ∧ AM w F x u1 u2 u3 ∧ ∀ j u, (acL (x, u1, u2, u3))[j]? = some u → w.cell? ⟨b, off + k * 12 + j, none⟩ = some u := by
  obtain ⟨us, h1, h2, h3⟩ := h
  obtain ⟨b, off, ⟨x, u1, u2, u3⟩, e, hF, hx, hc⟩ := ML.at_ acL_len (by decide) h2 hk
  have hk2 := (List.getElem?_zip_eq_some.1 hx)
  exact ⟨b, off, x, u1, u2, u3, e, hF, hk2.1, h3 k x (u1, u2, u3) hk2.1 hk2.2, hc⟩
end
/-- More than is asked? -/
def muchA (l : List Ac) : Bool := (l.take 100).any bigA || decide (80 < l.length)
theorem cells_at12 {w : World} {b o : Nat} {x : Ac} {u1 u2 u3 : Value} (h : ∀ j u, (acL (x, u1, u2, u3))[j]? = some u → w.cell? ⟨b, o + j, none⟩ = some u) :
    w.cell? ⟨b, o, none⟩ = some (.int .i64 x.do_) ∧ w.cell? ⟨b, o + 1, none⟩ = some (.int .i64 x.c.do_) ∧ w.cell? ⟨b, o + 2, none⟩ = some (.bool x.c.loc) ∧ w.cell? ⟨b, o + 3, none⟩ = some (.int .i64 x.c.idx) ∧ w.cell? ⟨b, o + 4, none⟩ = some (.int .i64 x.c.gen) ∧ w.cell? ⟨b, o + 5, none⟩ = some (.int .i64 x.c.comp) ∧ w.cell? ⟨b, o + 6, none⟩ = some u1 ∧
    w.cell? ⟨b, o + 7, none⟩ = some (.int .i64 x.room) ∧ w.cell? ⟨b, o + 8, none⟩ = some (.int .i64 x.frames) ∧ w.cell? ⟨b, o + 9, none⟩ = some (.int .i64 x.n) ∧ w.cell? ⟨b, o + 10, none⟩ = some u2 ∧ w.cell? ⟨b, o + 11, none⟩ = some u3 :=
  ⟨h 0 _ rfl, h 1 _ rfl, h 2 _ rfl, h 3 _ rfl, h 4 _ rfl, h 5 _ rfl, h 6 _ rfl, h 7 _ rfl, h 8 _ rfl, h 9 _ rfl, h 10 _ rfl, h 11 _ rfl⟩
set_option maxHeartbeats 4000000 in
theorem much31 (l : List Ac) (v : Value) (F : Nat → Prop) (w : World) (h : AS w F v l) :
    Calls Try.prog 25 #[v] w fun e w' => e = .returned (.bool (muchA l)) ∧ w' = w := by
  have HA := Lib.hid h
  obtain ⟨A, c, rfl, hc⟩ := h.form
  clear h
  obtain ⟨z, hz⟩ : ∃ z, z = muchA l := ⟨_, rfl⟩
  rw [← hz]
  obtain ⟨n, hn⟩ : ∃ n, n = l.length := ⟨_, rfl⟩
  rw [← hn] at HA ⊢
  have HB := Lib.hid (show ∀ k x, k < n → k < 100 → l[k]? = some x → bigA x = true → z = true from fun k x h1 h2 h3 h4 => by
    rw [hz, muchA, Bool.or_eq_true]
    exact .inl (List.any_eq_true.2 ⟨x, List.mem_of_getElem? (by rw [List.getElem?_take, if_pos h2]; exact h3), h4⟩))
  have HE := Lib.hid (show ∀ k, (n ≤ k ∨ 100 ≤ k) → (l.take k).any bigA = false → z = decide (80 < n) from fun k h1 h2 => by
    rw [hz, muchA, ← hn]
    have : (l.take 100).any bigA = false := by
      rw [List.any_eq_false] at h2 ⊢
      intro x hx
      apply h2
      rcases h1 with h1 | h1
      · rw [List.take_of_length_le (by omega)]
        exact List.mem_of_mem_take hx
      · have : (l.take k).take 100 = l.take 100 := by rw [List.take_take, Nat.min_eq_left h1]
        rw [← this] at hx
        exact List.mem_of_mem_take hx
    rw [this, Bool.false_or])
  have HR := Lib.hid (show ∀ k x, l[k]? = some x → bigA x = false → (l.take k).any bigA = false → (l.take (k + 1)).any bigA = false from fun k x h1 h2 h3 => by
    rw [List.take_add_one, List.any_append, h3, h1]
    simp [h2])
  clear hz hn
  go_enter Try.func25, Try.ntmps25
  go_wp2
  go_loopw [3] (fun i wr => ∃ k : Nat, k ≤ n ∧ i = .int .i64 k ∧ wr = w ∧ Hid ((l.take k).any bigA = false)) (fun i _ => n - (intOf i).toNat)
  case atStart => exact ⟨0, by omega, rfl, rfl, Lib.hid rfl⟩
  case round =>
    obtain ⟨k, hk, rfl, rfl, ht⟩ := hrel
    by_cases hlt : k < n
    · have hi : (k : Int) < (n : Int) := by omega
      by_cases hh : k < 100
      · have hi2 : (k : Int) < 100 := by omega
        have h00 : (0 : Int) ≤ (k : Int) := by omega
        obtain ⟨b, off, x, u1, u2, u3, rfl, -, hx, ham, hcs⟩ := HA.out.at_ hlt
        obtain ⟨⟨A1, m1, rfl, -⟩, h2, h3⟩ := ham
        obtain ⟨A2, m2, rfl⟩ := h2.form
        obtain ⟨A3, m3, rfl⟩ := h3.form
        obtain ⟨y0, y1, y2, y3, y4, y5, y6, y7, y8, y9, y10, y11⟩ := cells_at12 hcs
        have B1 := HB.out k x hlt hh hx
        have R1 := HR.out k x hx
        clear hcs h2 h3 hx
        unfold bigA at B1 R1
        generalize x.c.l.length = q1 at *
        generalize x.fa.length = q2 at *
        generalize x.fu.length = q3 at *
        by_cases c1 : 200 < q1
        · have Z := Lib.hid (B1 (decide_eq_true (by omega)))
          have t1 : (200 : Int) < (q1 : Int) := by omega
          clear B1 R1
          go_wp2
          go_ret
          exact ⟨ret_bool Z.out.symm, rfl⟩
        by_cases c2 : 40 < q2
        · have Z := Lib.hid (B1 (decide_eq_true (by omega)))
          have t1 : ¬ (200 : Int) < (q1 : Int) := by omega
          have t2 : (40 : Int) < (q2 : Int) := by omega
          clear B1 R1
          go_wp2
          go_ret
          exact ⟨ret_bool Z.out.symm, rfl⟩
        by_cases c3 : 10 < q3
        · have Z := Lib.hid (B1 (decide_eq_true (by omega)))
          have t1 : ¬ (200 : Int) < (q1 : Int) := by omega
          have t2 : ¬ (40 : Int) < (q2 : Int) := by omega
          have t3 : (10 : Int) < (q3 : Int) := by omega
          clear B1 R1
          go_wp2
          go_ret
          exact ⟨ret_bool Z.out.symm, rfl⟩
        have NT := Lib.hid (R1 (decide_eq_false (by omega)) ht.out)
        have t1 : ¬ (200 : Int) < (q1 : Int) := by omega
        have t2 : ¬ (40 : Int) < (q2 : Int) := by omega
        have t3 : ¬ (10 : Int) < (q3 : Int) := by omega
        clear B1 R1
        go_wp2
        go_roundw
        case rel => exact ⟨k + 1, by omega, by first | rfl | trivial | go_num, by first | rfl | trivial, NT⟩
        case measure => simp [intOf]; omega
      · have hi2 : ¬ (k : Int) < 100 := by omega
        have Z := Lib.hid (HE.out k (by omega) ht.out)
        have t4 : (80 : Int) < (n : Int) := by omega
        have Z2 := Lib.hid (show z = true by rw [Z.out]; exact decide_eq_true (by omega))
        go_wp2
        go_ret
        exact ⟨ret_bool Z2.out.symm, rfl⟩
    · have hi : ¬ (k : Int) < (n : Int) := by omega
      have Z := Lib.hid (HE.out k (by omega) ht.out)
      by_cases h80 : 80 < n
      · have t4 : (80 : Int) < (n : Int) := by omega
        have Z2 := Lib.hid (show z = true by rw [Z.out]; exact decide_eq_true (by omega))
        go_wp2
        go_ret
        exact ⟨ret_bool Z2.out.symm, rfl⟩
      · have t4 : ¬ (80 : Int) < (n : Int) := by omega
        have Z2 := Lib.hid (show z = false by rw [Z.out]; exact decide_eq_false (by omega))
        go_wp2
        go_ret
        exact ⟨ret_bool Z2.out.symm, rfl⟩
end Go.Proofs.Ythkgchlndfcmpaa

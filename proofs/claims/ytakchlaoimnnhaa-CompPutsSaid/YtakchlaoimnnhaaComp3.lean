/- Contracts of vivariumref07.Find, Much, Size, comp.Size. -/
import Derived.Test.YtakchlaoimnnhaaComp1
import Derived.Test.YtakchlaoimnnhaaComp2
import Derived.Deep.DeepCutAuto
import Derived.OwnWalk
namespace Go.Proofs.Ytakchlaoimnnhaa
open Go.RowKit
set_option maxRecDepth 100000
set_option linter.unusedVariables false

/-- A layout's box has been laid. -/
def BF (w : World) (F : Nat → Prop) (c : Cf) (u : Value) (X : World) : Prop :=
  X.heap[w.heap.size]? = some (.cells #[.int .i64 c.log, .int .i64 c.pages, .int .i64 c.ents, .int .i64 c.gens, u] 66 (0, 0)) ∧ CL X F u c.l ∧ Below w.heap.size w X
theorem BF.first {w : World} {F : Nat → Prop} {c : Cf} {u : Value} (h : CL w F u c.l) : BF w F c u (w.alloc (.cells #[.int .i64 c.log, .int .i64 c.pages, .int .i64 c.ents, .int .i64 c.gens, u] 66 (0, 0))) :=
  ⟨heap_alloc_new w _, h.same ((Keep.refl _ w).alloc _), (Below.refl _ w).alloc (Nat.le_refl _) _⟩
theorem rfind_any (c : Cf) (u : Value) (F : Nat → Prop) (nm : ByteArray) (w : World) (hu : CL w F u c.l) (h40 : c.l.length ≤ 1000) :
    Calls Try.prog 85 #[confV c u, .string nm] w fun e w' => (findN c.l nm < c.l.length ∧ e = .returned (.tuple #[.int .i64 (findN c.l nm : Nat), .bool true]) ∨ findN c.l nm = c.l.length ∧ e = .returned (.tuple #[.int .i64 0, .bool false])) ∧ Below w.heap.size w w' := by
  have hu0 := hu
  obtain ⟨A, cap, rfl, hnc, hcm, -⟩ := hu
  obtain ⟨n, hn⟩ : ∃ n, n = c.l.length := ⟨_, rfl⟩
  have HN := Lib.hid hn
  have B0 := Lib.hid (BF.first hu0)
  unfold confV
  rw [← hn] at hnc hu0 B0 h40 ⊢
  clear hn
  obtain ⟨log, pages, ents, gens, l⟩ := c
  simp only at hnc hu0 B0 HN h40 ⊢
  have hn2 : n ≤ 1000 := by omega
  clear hcm h40
  go_enter Try.func85, Try.ntmps85
  go_upto_region 1 with fail
  refine wp_world (S := BF w F ⟨log, pages, ents, gens, l⟩ (.slice A n cap)) B0.out ?_
  intro X hX
  have HX := Lib.hid hX
  clear hX hu0 B0
  obtain ⟨x0, x1, x2, x3, x4, xf⟩ := cells5 HX.out.1
  go_wp2
  go_loopw [6] (fun i wr => ∃ k : Nat, k ≤ n ∧ i = .int .i64 k ∧ wr = X ∧ Hid (noneTo l nm k)) (fun i _ => n - (intOf i).toNat)
  case atStart => exact ⟨0, by omega, rfl, rfl, Lib.hid (noneTo_zero l nm)⟩
  case round =>
    obtain ⟨k, hk, rfl, rfl, ht⟩ := hrel
    by_cases hlt : k < n
    · have hi : (k : Int) < (n : Int) := by omega
      obtain ⟨b, off, rfl, -, e1, e2⟩ := CL.at_ HX.out.2.1 hlt
      have ST := str_eq (nmAt l k) nm
      have FN : nmAt l k = nm → Hid (findN l nm = k) := fun h => Lib.hid (findN_at (by have := HN.out; omega) ht.out h)
      have NT : nmAt l k ≠ nm → Hid (noneTo l nm (k + 1)) := fun h => Lib.hid (noneTo_next ht.out h)
      generalize nmAt l k = a at *
      by_cases hq : a = nm
      · rw [decide_eq_true hq] at ST
        have FN := FN hq
        have HL := Lib.hid hlt
        clear hq NT
        go_wp2
        go_ret2
        exact ⟨.inl ⟨by rw [FN.out]; exact HL.out, by rw [FN.out]; rfl⟩, HX.out.2.2⟩
      · rw [decide_eq_false hq] at ST
        have NT := NT hq
        clear hq FN
        go_wp2
        go_roundw
        case rel => exact ⟨k + 1, by omega, by go_num, by first | rfl | trivial, NT⟩
        case measure => simp [intOf]; omega
    · have FN := Lib.hid (show findN l nm = l.length from findN_no (by have := HN.out; rw [show l.length = k by omega]; exact ht.out))
      have hi : ¬ (k : Int) < (n : Int) := by omega
      go_wp2
      go_ret2
      exact ⟨.inr ⟨by rw [FN.out]; exact HN.out.symm, rfl⟩, HX.out.2.2⟩
theorem rmuch_any (c : Cf) (u : Value) (F : Nat → Prop) (w : World) (hu : CL w F u c.l) :
    Calls Try.prog 48 #[confV c u] w fun e w' => e = .returned (.bool (muchB c.l)) ∧ Below w.heap.size w w' := by
  have hu0 := hu
  obtain ⟨A, cap, rfl, hnc, hcm, -⟩ := hu
  obtain ⟨n, hn⟩ : ∃ n, n = c.l.length := ⟨_, rfl⟩
  have HN := Lib.hid hn
  have B0 := Lib.hid (BF.first hu0)
  unfold confV
  rw [← hn] at hnc hu0 B0 ⊢
  clear hn
  obtain ⟨log, pages, ents, gens, l⟩ := c
  simp only at hnc hu0 B0 HN ⊢
  go_enter Try.func48, Try.ntmps48
  go_upto_region 1 with fail
  refine wp_world (S := BF w F ⟨log, pages, ents, gens, l⟩ (.slice A n cap)) B0.out ?_
  intro X hX
  have HX := Lib.hid hX
  clear hX hu0 B0
  obtain ⟨x0, x1, x2, x3, x4, xf⟩ := cells5 HX.out.1
  go_wp2
  go_loopw [3] (fun i wr => ∃ k : Nat, k ≤ n ∧ k ≤ 50 ∧ i = .int .i64 k ∧ wr = X ∧ Hid (bigTo l k)) (fun i _ => 50 - (intOf i).toNat)
  case atStart => exact ⟨0, by omega, by omega, rfl, rfl, Lib.hid (fun i h => absurd h (by omega))⟩
  case round =>
    obtain ⟨k, hk, hk5, rfl, rfl, ht⟩ := hrel
    by_cases hlt : k < n
    · have hi : (k : Int) < (n : Int) := by omega
      by_cases h50 : k < 50
      · have hj : (k : Int) < 50 := by omega
        obtain ⟨b, off, rfl, -, e1, e2⟩ := CL.at_ HX.out.2.1 hlt
        by_cases hq : 100 < (nmAt l k).size
        · have MB := Lib.hid (show muchB l = true from decide_eq_true (.inr (fun h => by have := h k (by have := HN.out; omega) h50; omega)))
          generalize nmAt l k = a at *
          go_wp2
          go_ret
          exact ⟨ret_bool MB.out.symm, HX.out.2.2⟩
        · have NT := Lib.hid (show bigTo l (k + 1) from fun i hi h5 => by
            by_cases e : i = k
            · subst e; omega
            · exact ht.out i (by omega) h5)
          generalize nmAt l k = a at *
          go_wp2
          go_roundw
          case rel => exact ⟨k + 1, by omega, by omega, by go_num, by first | rfl | trivial, NT⟩
          case measure => simp [intOf]; omega
      · have hj : ¬ (k : Int) < 50 := by omega
        have MB := Lib.hid (show muchB l = decide ((40 : Int) < (n : Int)) from by
          have := HN.out
          rw [decide_eq_true (show (40 : Int) < (n : Int) by omega)]
          exact decide_eq_true (.inl (by omega)))
        go_wp2
        go_ret
        exact ⟨ret_bool MB.out.symm, HX.out.2.2⟩
    · have hi : ¬ (k : Int) < (n : Int) := by omega
      have MB := Lib.hid (show muchB l = decide ((40 : Int) < (n : Int)) from by
        have := HN.out
        by_cases h4 : 40 < n
        · rw [decide_eq_true (show (40 : Int) < (n : Int) by omega)]
          exact decide_eq_true (.inl (by omega))
        · rw [decide_eq_false (show ¬ (40 : Int) < (n : Int) by omega)]
          exact decide_eq_false (fun h => by
            rcases h with h | h
            · omega
            · exact h (by rw [show l.length = k by omega]; exact ht.out)))
      go_wp2
      go_ret
      exact ⟨ret_bool MB.out.symm, HX.out.2.2⟩
end Go.Proofs.Ytakchlaoimnnhaa

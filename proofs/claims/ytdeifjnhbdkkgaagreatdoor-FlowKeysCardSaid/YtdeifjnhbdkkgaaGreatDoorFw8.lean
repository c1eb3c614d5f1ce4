/- The rows of a core with none; flow.nums of none. -/
import Derived.Test.YtdeifjnhbdkkgaaGreatDoorFw7
import Derived.Test.YtdeifjnhbdkkgaaGreatDoorEcsT
namespace Go.Proofs.YtdeifjnhbdkkgaaGreatDoor
open Go.RowKit
set_option maxRecDepth 100000
set_option linter.unusedVariables false
set_option linter.unusedSimpArgs false

section
variable {w : World} {c : Cf} {xp q : Nat} {B : CoB} {a : Co}
theorem rows_none (h : CoM w c xp B q a) (h0 : ∀ t ∈ a.tabs, t.ids = []) :
    Calls Tryz.prog 27 #[.pointer (some ⟨xp, 0, none⟩)] w fun e w' => e = .returned (.slice none 0 0) ∧ Keep (fun _ => False) w w' := by
  have H := Lib.hid h
  have SN := Lib.hid (fun f X => sort_none f X)
  have c7 : w.cell? ⟨xp, 7, none⟩ = some B.vT := (cells_of_row' h.box).1 7 _ rfl
  have hso := h.oT.sl
  obtain ⟨AT, cT, eT, hT1, hT2, hT3, hT4⟩ := hso
  rw [Nat.mul_one] at hT4
  obtain ⟨n, hn⟩ : ∃ n, a.tabs.length = n := ⟨_, rfl⟩
  rw [eT] at c7
  rw [hn] at c7 hT1
  have AT' := Lib.hid (show ∀ k, k < n → ∃ b off, AT = some ⟨b, off, none⟩ ∧ w.cell? ⟨b, off + k, none⟩ = some (.pointer (some ⟨B.tp k, 0, none⟩)) from fun k hk => by
    obtain ⟨b, off, e, -, hc⟩ := hT4.2 (by omega)
    exact ⟨b, off, e, hc k _ (by simp [hn, hk])⟩)
  have TB := Lib.hid (show ∀ k, k < n → ∀ X, Keep (fun _ => False) w X → Calls Tryz.prog 44 #[.pointer (some ⟨B.tp k, 0, none⟩)] X fun e w' => e = .returned (.int .i64 0) ∧ X = w' from fun k hk X hX => by
    have ht : a.tabs[k]? = some a.tabs[k] := List.getElem?_eq_getElem (by omega)
    have := tb_len ((h.tab k _ ht).1.same hX)
    rw [h0 _ (List.getElem_mem _)] at this
    exact this)
  unfold maxLen at hT2
  clear hT4 hT3 h h0 hn eT
  go_enter Tryz.func27, Tryz.ntmps27
  go_wp2
  go_loopw [3, 18] (fun y i wr => ∃ k : Nat, k ≤ n ∧ i = .int .i64 (k : Int) ∧ y = .slice none 0 0 ∧ Hid (Keep (fun _ => False) w wr)) (fun _ i _ => n - (intOf i).toNat)
  case atStart => exact ⟨0, by omega, rfl, rfl, Lib.hid (Keep.refl _ _)⟩
  case round =>
    obtain ⟨k, hk, rfl, rfl, hkw⟩ := hrel
    by_cases hlt : k < n
    · have hi : (k : Int) < (n : Int) := by omega
      have hi0 : (0 : Int) ≤ (k : Int) := by omega
      obtain ⟨b, off, rfl, hc0⟩ := AT'.out k hlt
      have hc := hkw.out.cell (fun h => h) hc0
      have TL := Lib.hid (fun X (hX : Keep (fun _ => False) wr X) => TB.out k hlt X (hkw.out.trans hX (fun _ _ h => h)))
      clear hc0
      go_wp2_with (first | (go_at_call 44; with_reducible refine (TL.out _ (by exact (by repeat first | (with_reducible assumption) | (with_reducible exact Keep.refl _ _) | (with_reducible refine Keep.alloc ?_ _) | (with_reducible refine Keep.drew ?_) | (with_reducible refine Keep.drewN ?_ _) | (with_reducible refine Keep.setCell ?_ (.inl (by first | omega | (simp; done) | (simp; omega) | fail)) _)))).mono ?_; rintro e w1 ⟨rfl, rfl⟩) | fail)
      go_roundw
      case rel => exact ⟨k + 1, by omega, by go_num, rfl, Lib.hid (Keep.trans (T := fun _ => False) hkw.out (by exact (by repeat first | (with_reducible assumption) | (with_reducible exact Keep.refl _ _) | (with_reducible refine Keep.alloc ?_ _) | (with_reducible refine Keep.drew ?_) | (with_reducible refine Keep.drewN ?_ _) | (with_reducible refine Keep.setCell ?_ (.inl (by first | omega | (simp; done) | (simp; omega) | fail)) _))) (fun _ _ h => h))⟩
      case measure => simp [intOf]; omega
    · have hi : ¬ (k : Int) < (n : Int) := by omega
      go_wp2_with (first | (go_at_call 48; with_reducible refine (SN.out _ _).mono ?_; rintro e w1 ⟨rfl, rfl⟩) | fail)
      go_ret
      exact ⟨rfl, hkw.out⟩
end
end Go.Proofs.YtdeifjnhbdkkgaaGreatDoor

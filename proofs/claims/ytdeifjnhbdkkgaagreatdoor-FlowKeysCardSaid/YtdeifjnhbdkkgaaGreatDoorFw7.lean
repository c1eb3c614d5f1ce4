/- SortFunc of no rows; flow.nums of no numbers; flow.Size. -/
import Derived.Test.YtdeifjnhbdkkgaaGreatDoorFw3
namespace Go.Proofs.YtdeifjnhbdkkgaaGreatDoor
open Go.RowKit
set_option maxRecDepth 100000
set_option linter.unusedVariables false
set_option linter.unusedSimpArgs false

theorem ins_none (f : Value) (w : World) : Calls Tryz.prog 79 #[.slice none 0 0, .int .i64 0, .int .i64 0, f] w fun e w' => e = .returned (.tuple #[]) ∧ w = w' := by
  go_enter Tryz.func79, Tryz.ntmps79
  go_wp2
  go_loopw [8] (fun i wr => i = .int .i64 1 ∧ w = wr) (fun _ _ => 0)
  case atStart => exact ⟨rfl, rfl⟩
  case round =>
    obtain ⟨rfl, rfl⟩ := hrel
    go_wp2
    (first | go_end0 | ((try simp only [Exit.inBlock, Exit.then]); refine bodyPost_ret (results_none rfl _ _ _) rfl ?_))
    exact ⟨rfl, rfl⟩
theorem pdq_none (f : Value) (n : Int) (w : World) : Calls Tryz.prog 68 #[.slice none 0 0, .int .i64 0, .int .i64 0, .int .i64 n, f] w fun e w' => e = .returned (.tuple #[]) ∧ w = w' := by
  have IN := Lib.hid (fun X => ins_none f X)
  go_enter Tryz.func68, Tryz.ntmps68
  go_wp2
  go_loopw [1, 2] (fun a b wr => a = .int .i64 0 ∧ b = .int .i64 0 ∧ w = wr) (fun _ _ _ => 0)
  case atStart => exact ⟨rfl, rfl, rfl⟩
  case round =>
    obtain ⟨rfl, rfl, rfl⟩ := hrel
    go_wp2_with (first | (go_at_call 79; with_reducible refine (IN.out _).mono ?_; rintro e w1 ⟨rfl, rfl⟩) | fail)
    (first | go_end0 | ((try simp only [Exit.inBlock, Exit.then]); refine bodyPost_ret (results_none rfl _ _ _) rfl ?_))
    exact ⟨rfl, rfl⟩
theorem len_zero (w : World) : Calls Tryz.prog 69 #[.int .u64 0] w fun e w' => (∃ n, e = .returned (.int .i64 n)) ∧ w = w' := by
  go_enter Tryz.func69, Tryz.ntmps69
  go_wp2
  go_ret
  exact ⟨⟨_, rfl⟩, rfl⟩
theorem sort_none (f : Value) (w : World) : Calls Tryz.prog 48 #[.slice none 0 0, f] w fun e w' => e = .returned (.tuple #[]) ∧ w = w' := by
  go_enter Tryz.func48, Tryz.ntmps48
  go_wp2_with fail
  with_reducible refine (len_zero w).mono ?_
  rintro e w1 ⟨⟨n, rfl⟩, rfl⟩
  have PD := Lib.hid (fun X => pdq_none f n X)
  go_wp2_with (first | (go_at_call 68; with_reducible refine (PD.out _).mono ?_; rintro e w1 ⟨rfl, rfl⟩) | fail)
  (first | go_end0 | ((try simp only [Exit.inBlock, Exit.then]); refine bodyPost_ret (results_none rfl _ _ _) rfl ?_))
  exact ⟨rfl, rfl⟩
theorem flow_size (l : List FwZ) (v : Value) (F : Nat → Prop) (w : World) (hv : NS fwN w F v l) (hl : l.length ≤ 1000) (hd : ∀ x ∈ l, x.data.length ≤ 1000000) :
    Calls Tryz.prog 15 #[v] w fun e w' => e = .returned (.int .i64 (((l.map (·.data.length)).sum : Nat) : Int)) ∧ Keep (fun _ => False) w w' := by
  have HV := Lib.hid hv
  obtain ⟨A, c, rfl, h2, h1⟩ := hv.form
  unfold maxLen at h2
  obtain ⟨n, hn⟩ : ∃ n, l.length = n := ⟨_, rfl⟩
  have HN := Lib.hid hn
  have HD := Lib.hid hd
  rw [hn] at HV h1 hl ⊢
  have NX := Lib.hid (show ∀ j x, l[j]? = some x → ((l.take (j + 1)).map (·.data.length)).sum = ((l.take j).map (·.data.length)).sum + x.data.length from fun j x h => by
    rw [List.take_add_one, h, List.map_append, List.sum_append]; simp)
  have TT := Lib.hid (show ((l.take n).map (·.data.length)).sum = (l.map (·.data.length)).sum from by rw [List.take_of_length_le (by rw [hn]; exact Nat.le_refl _)])
  generalize (l.map (·.data.length)).sum = S at *
  clear hn hd hv
  go_enter Tryz.func15, Tryz.ntmps15
  go_wp2
  go_loopw [3, 8] (fun s i wr => ∃ (k z : Nat), k ≤ n ∧ z ≤ k * 1000000 ∧ i = .int .i64 k ∧ s = .int .i64 (z : Int) ∧ Hid (Keep (fun _ => False) w wr) ∧ Hid (((l.take k).map (·.data.length)).sum = z)) (fun _ i _ => n - (intOf i).toNat)
  case atStart => exact ⟨0, 0, by omega, by omega, rfl, rfl, Lib.hid (Keep.refl _ _), Lib.hid (by simp)⟩
  case round =>
    obtain ⟨k, z, hk, hz, rfl, rfl, hkw, hs⟩ := hrel
    by_cases hlt : k < n
    · have hi : (k : Int) < (n : Int) := by omega
      have h0 : (0 : Int) ≤ (k : Int) := by omega
      obtain ⟨b, off, x, d, rfl, -, hx, hin, hc⟩ := NS.at_ (HV.out.same hkw.out) hlt
      have g0 := hc 0 _ rfl
      have g1 := hc 1 _ rfl
      have g2 := hc 2 _ rfl
      have g3 := hc 3 _ rfl
      simp only [show fwN.m = 4 from rfl, Nat.add_zero] at g0 g1 g2 g3
      have hdl := HD.out x (List.mem_of_getElem? hx)
      have NX1 := Lib.hid (NX.out k x hx)
      obtain ⟨A9, c9, rfl, -⟩ := (show By wr F d x.data from hin)
      generalize x.data.length = nd at *
      have HB := heap_alloc_new wr (.cells #[.int .i64 x.key.kind, .int .u64 (x.key.sig : Int), .int .i64 x.key.comp, .slice A9 nd c9] 36 (0, 0))
      obtain ⟨y0, y1, y2, y3, yf⟩ := cells4 HB
      clear hc hx hin HB
      go_wp2
      go_roundw
      case rel => exact ⟨k + 1, z + nd, by omega, by omega, by go_num, by go_num, Lib.hid (Keep.trans (T := fun _ => False) hkw.out (by exact (by repeat first | (with_reducible assumption) | (with_reducible exact Keep.refl _ _) | (with_reducible refine Keep.alloc ?_ _) | (with_reducible refine Keep.drew ?_) | (with_reducible refine Keep.drewN ?_ _) | (with_reducible refine Keep.setCell ?_ (.inl (by first | omega | (simp; done) | (simp; omega) | fail)) _))) (fun _ _ h => h)), Lib.hid (by rw [NX1.out, hs.out])⟩
      case measure => simp [intOf]; omega
    · obtain rfl : k = n := by omega
      have hi : ¬ (k : Int) < (k : Int) := by omega
      have ez := Lib.hid (show S = z from TT.out.symm.trans hs.out)
      go_wp2
      go_ret
      exact ⟨by rw [ez.out]; rfl, hkw.out⟩
end Go.Proofs.YtdeifjnhbdkkgaaGreatDoor

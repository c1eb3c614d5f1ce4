/- Contract of vivariumlaw14.live. -/
import Derived.Test.YthkgchlndfcmpaaFrm3
import Derived.Test.YthkgchlndfcmpaaScrD
namespace Go.Proofs.Ythkgchlndfcmpaa
open Go.RowKit
set_option maxRecDepth 100000
set_option linter.unusedVariables false
set_option linter.unusedSimpArgs false

theorem putF_nil : putF [] = (0 :: leB (word (crcOf [0] : Nat)) 4, 0) := by
  have h : fronB [] 0 = [0] := rfl
  show (frameB [], (0 : Int)) = _
  unfold frameB
  rw [show fronB [] ([] : List Cmd).length = [0] from h]
  rfl
set_option maxHeartbeats 8000000 in
theorem live14 (w : World) : Calls Try.prog 50 #[] w fun e w' => e = .returned (.bool true) ∧ Below w.heap.size w w' := by
  have PT := fput_any [] (.slice none 0 0) (fun _ => True) w (NS.nil _ _ _)
  rw [putF_nil] at PT
  have hcl := crcOf_lt [0]
  have CO := Lib.hid (fun W V (hv : Keep (fun _ => False) (W.alloc (.cells #[.int .u8 0] 5)) V) => rcrc [0] _ _ V ((By.byte W 0 0 rfl).keep hv (fun _ _ _ h => h)))
  have PN := Lib.hid (fun W => refNumZ 4 (crcOf [0] : Nat) 4 rfl (by omega) W)
  have SM := Lib.hid (fun W a b Fa Fb (ha : By W Fa a (leB (word (crcOf [0] : Nat)) 4)) (hb : By W Fb b (leB (word (crcOf [0] : Nat)) 4)) => same_any _ _ a b Fa Fb W ha hb)
  rw [decide_eq_true rfl] at SM
  have l4 : (leB (word (crcOf [0] : Nat)) 4).length = 4 := leB_len _ _
  unfold FPost at PT
  generalize crcOf [0] = cz at *
  generalize leB (word (cz : Nat)) 4 = cb at *
  have pw : IntKind.i64.wrap (cz : Int) = cz := IntWalk.i64_in _ (by omega)
  go_enter Try.func50, Try.ntmps50
  go_wp2_with fail
  with_reducible refine PT.mono ?_
  rintro e w1 ⟨A, n, c, rfl, hy, hn, hb⟩
  have hn5 : n = 5 := by rw [hn]; show cb.length + 1 = 5; omega
  subst hn5
  have HB := Lib.hid hb
  have bx := bv_at (l := (0 : UInt8) :: cb) (k := 0) (by simp)
  obtain ⟨A', c', e, hbc, hcm, hnil, hrd⟩ := id hy
  injection e with e1 e2 e3
  subst e1 e3
  obtain ⟨gb, go, rfl, -, q1⟩ := hrd.at_ (show 0 < ((0 : UInt8) :: cb).length * 1 by simp)
  have c0 : w1.cell? ⟨gb, go, none⟩ = some (.int .u8 0) := by
    have := q1 0 _ bx.1
    rw [Nat.add_zero] at this
    exact this
  have hc5 : 5 ≤ c := by have : cb.length + 1 ≤ c := hbc; omega
  have HT := Lib.hid (show By w1 (fun _ => True) (.slice (some ⟨gb, go + 1, none⟩) 4 (c - 1)) cb from by
    have := hy.tail (a := 1) (by simp)
    rw [if_neg (by omega), Option.map_some, addr_add, show ((0 : UInt8) :: cb).length - 1 = 4 from by show cb.length + 1 - 1 = 4; omega] at this
    exact this)
  have t1 : (1 : Int) ≤ (c : Int) := by omega
  have t2 : ¬ c = 1 := by omega
  have t3 : 1 ≤ c := by omega
  have CE := Lib.hid (show ∀ W', Keep (fun _ => False) w1 W' → W'.cell? ⟨gb, go, none⟩ = some (.int .u8 0) ∧ Keep (fun _ => False) w1 W' from fun W' hk => ⟨hk.cell (fun h => h) c0, hk⟩)
  clear PT hy hn hb bx hbc hcm hnil hrd q1 e2 hc5 l4
  go_upto_region 2 with fail
  go_region_held3 (fun W' => W'.cell? ⟨gb, go, none⟩ = some (.int .u8 0) ∧ Keep (fun _ => False) w1 W') (exact CE.out _ (by exact (by repeat first | (with_reducible assumption) | (with_reducible exact Keep.refl _ _) | (with_reducible refine Keep.alloc ?_ _) | (with_reducible refine Keep.drew ?_) | (with_reducible refine Keep.drewN ?_ _) | (with_reducible refine Keep.setCell ?_ (.inl (by first | omega | (simp; done) | (simp; omega) | fail)) _)))) (first
    | (go_at_call 54; (with_reducible refine (code14 _ _).mono ?_); rintro e w3 ⟨rfl, rfl⟩)
    | (go_at_call 57; (with_reducible refine (CO.out w1 _ (by exact (by repeat first | (with_reducible assumption) | (with_reducible exact Keep.refl _ _) | (with_reducible refine Keep.alloc ?_ _) | (with_reducible refine Keep.drew ?_) | (with_reducible refine Keep.drewN ?_ _) | (with_reducible refine Keep.setCell ?_ (.inl (by first | omega | (simp; done) | (simp; omega) | fail)) _)))).mono ?_); rintro e w3 ⟨rfl, rfl⟩)
    | (go_at_call 56; (with_reducible refine (PN.out _).mono ?_); rintro e w4 ⟨A4, n4, c4, rfl, hy4, hb4⟩; have hk4 : Keep (fun _ => False) w1 w4 := Keep.trans (T := fun _ => False) (by exact (by repeat first | (with_reducible assumption) | (with_reducible exact Keep.refl _ _) | (with_reducible refine Keep.alloc ?_ _) | (with_reducible refine Keep.drew ?_) | (with_reducible refine Keep.drewN ?_ _) | (with_reducible refine Keep.setCell ?_ (.inl (by first | omega | (simp; done) | (simp; omega) | fail)) _))) (Keep.of_below' hb4) (fun _ _ h => h))
    | (go_at_call 39; (with_reducible refine (SM.out _ _ _ _ _ (HT.out.keep (S := fun _ => False) (by exact (by repeat first | (with_reducible assumption) | (with_reducible exact Keep.refl _ _) | (with_reducible refine Keep.alloc ?_ _) | (with_reducible refine Keep.drew ?_) | (with_reducible refine Keep.drewN ?_ _) | (with_reducible refine Keep.setCell ?_ (.inl (by first | omega | (simp; done) | (simp; omega) | fail)) _))) (fun _ _ _ h => h)) (hy4.by_.keep (S := fun _ => False) (by repeat first | (with_reducible assumption) | (with_reducible exact Keep.refl _ _) | (with_reducible refine Keep.alloc ?_ _) | (with_reducible refine Keep.drew ?_) | (with_reducible refine Keep.drewN ?_ _) | (with_reducible refine Keep.setCell ?_ (.inl (by first | omega | (simp; done) | (simp; omega) | fail)) _)) (fun _ _ _ h => h))).mono ?_); rintro e w5 ⟨rfl, rfl⟩)
    | fail)
  go_wp2
  go_ret
  exact ⟨rfl, ((Keep.of_below' HB.out).trans hk4 (fun _ _ h => h)).to_below'⟩
end Go.Proofs.Ythkgchlndfcmpaa

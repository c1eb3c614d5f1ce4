/- The walks of vivariumlaw14.FrameGets and FrameSums: they return true, old memory unchanged. -/
import Derived.Test.YthkgchlndfcmpaaFrm7
import Derived.Test.YthkgchlndfcmpaaFrmL
import Derived.Test.YthkgchlndfcmpaaFrmLv
namespace Go.Proofs.Ythkgchlndfcmpaa
open Go.RowKit
set_option maxRecDepth 100000
set_option linter.unusedVariables false
set_option linter.unusedSimpArgs false

set_option maxHeartbeats 8000000 in
theorem frameGets_walk (b : List UInt8) (v : Value) (w : World) (h : By w (fun _ => True) v b) :
    Calls Try.prog 9 #[v] w fun e w' => e = .returned (.bool true) ∧ Below w.heap.size w w' := by
  have LV := Lib.hid (fun W => live14 W)
  have h0 := h
  obtain ⟨A, c, rfl, -, -⟩ := h
  by_cases hbig : 1000 < b.length
  · have h1 : (1000 : Int) < (b.length : Int) := by omega
    generalize b.length = n at *
    clear h0
    go_enter Try.func9, Try.ntmps9
    go_wp2_with fail
    refine (LV.out _).mono ?_
    rintro e w2 ⟨rfl, hb2⟩
    go_wp2
    go_ret
    exact ⟨rfl, hb2⟩
  have h1 : ¬ (1000 : Int) < (b.length : Int) := by omega
  have SG := Lib.hid (fun W (hk : Keep (fun _ => False) w W) => fget_any b _ _ W (h0.keep hk (fun _ _ _ h => h)) (by omega))
  have RG := Lib.hid (fun W (hk : Keep (fun _ => False) w W) => rfget_any b _ _ W (h0.keep hk (fun _ _ _ h => h)) (by omega))
  have HB := Lib.hid (fun W (hk : Keep (fun _ => False) w W) => h0.keep hk (fun _ _ _ h => h))
  have PG := put_get b
  generalize getFr b = r at *
  obtain ⟨l, er⟩ := r
  dsimp only at PG
  have SL := Lib.hid (fun W a b Fa Fb (ha : NS cmN W Fa a l) (hb : NS cmN W Fb b l) => fsame_any _ _ a b Fa Fb W ha hb)
  rw [decide_eq_true rfl] at SL
  have PT := Lib.hid (fun W u G (hu : NS cmN W G u l) => fput_any l u G W hu)
  have PE := Lib.hid (show er = 0 → putF l = (b, 0) from PG)
  have SM := Lib.hid (fun W a v Fa Fb (ha : By W Fa a b) (hb : By W Fb v b) => same_any _ _ a v Fa Fb W ha hb)
  rw [decide_eq_true rfl] at SM
  clear PG h0 hbig
  generalize b.length = n at *
  go_enter Try.func9, Try.ntmps9
  have K1 := SG.out w (Keep.refl _ _)
  unfold GfPost at K1
  go_wp2_with fail
  with_reducible refine K1.mono ?_
  rintro e w1 ⟨A1, c1, rfl, ha1, hb1⟩
  have k1 := Lib.hid (Keep.of_below' hb1)
  have H1 := Lib.hid ha1
  clear ha1 hb1 K1 SG
  have K1 := RG.out w1 k1.out
  unfold GfPost at K1
  go_wp2_with fail
  with_reducible refine K1.mono ?_
  rintro e w2 ⟨A2, c2, rfl, ha2, hb2⟩
  have k2 := Lib.hid (k1.out.trans (Keep.of_below' hb2) (fun _ _ h => h))
  have H2 := Lib.hid (And.intro (H1.out.same (Keep.of_below' hb2)) ha2)
  clear ha2 hb2 K1 RG H1
  have K1 := SL.out w2 _ _ _ _ H2.out.1 H2.out.2
  go_wp2_with fail
  with_reducible refine K1.mono ?_
  rintro e w3 ⟨rfl, hb3⟩
  have k3 := Lib.hid (k2.out.trans (Keep.of_below' hb3) (fun _ _ h => h))
  have H3 := Lib.hid (H2.out.1.same (Keep.of_below' hb3))
  clear hb3 K1 SL H2
  have K1 := code14 er w3
  go_wp2_with fail
  with_reducible refine K1.mono ?_
  rintro e w4 ⟨rfl, rfl⟩
  have K2 := PT.out w3 _ _ H3.out
  by_cases he : er = 0
  · have e1 : (er != 0) = false := by simp [he]
    rw [PE.out he] at K2
    clear he
    unfold FPost at K2
    go_wp2_with fail
    with_reducible refine K2.mono ?_
    rintro e w5 ⟨A5, n5, c5, rfl, hy5, hn5, hb5⟩
    have k5 := Lib.hid (k3.out.trans (Keep.of_below' hb5) (fun _ _ h => h))
    have K3 := SM.out w5 _ _ _ _ hy5 (HB.out w5 k5.out)
    clear hy5 hn5 hb5 K2 K1
    have K1 := code14 0 w5
    go_wp2_with fail
    with_reducible refine K1.mono ?_
    rintro e w6 ⟨rfl, rfl⟩
    go_wp2_with fail
    with_reducible refine K3.mono ?_
    rintro e w6 ⟨rfl, rfl⟩
    go_wp2_with fail
    refine (LV.out _).mono ?_
    rintro e w7 ⟨rfl, hb7⟩
    go_wp2
    go_ret
    exact ⟨rfl, (k5.out.trans (Keep.of_below' hb7) (fun _ _ h => h)).to_below'⟩
  · have e1 : (er != 0) = true := by simp [he]
    clear he K1 PE
    unfold FPost at K2
    generalize putF l = pf at *
    obtain ⟨pb, pe⟩ := pf
    go_wp2_with fail
    with_reducible refine K2.mono ?_
    rintro e w5 ⟨A5, n5, c5, rfl, hy5, hn5, hb5⟩
    have k5 := Lib.hid (k3.out.trans (Keep.of_below' hb5) (fun _ _ h => h))
    clear hy5 hn5 hb5 K2
    go_wp2_with fail
    refine (LV.out _).mono ?_
    rintro e w7 ⟨rfl, hb7⟩
    go_wp2
    go_ret
    exact ⟨rfl, (k5.out.trans (Keep.of_below' hb7) (fun _ _ h => h)).to_below'⟩
set_option maxHeartbeats 8000000 in
theorem frameSums_walk (b : List UInt8) (v : Value) (w : World) (h : By w (fun _ => True) v b) :
    Calls Try.prog 10 #[v] w fun e w' => e = .returned (.bool true) ∧ Below w.heap.size w w' := by
  have LV := Lib.hid (fun W => live14 W)
  have h0 := h
  obtain ⟨A, c, rfl, -, -⟩ := h
  by_cases hbig : 1000 < b.length
  · have h1 : (1000 : Int) < (b.length : Int) := by omega
    generalize b.length = n at *
    clear h0
    go_enter Try.func10, Try.ntmps10
    go_wp2_with fail
    refine (LV.out _).mono ?_
    rintro e w2 ⟨rfl, hb2⟩
    go_wp2
    go_ret
    exact ⟨rfl, hb2⟩
  have h1 : ¬ (1000 : Int) < (b.length : Int) := by omega
  have HB := Lib.hid (fun W (hk : Keep (fun _ => False) w W) => h0.keep hk (fun _ _ _ h => h))
  have CO := Lib.hid (fun W (hk : Keep (fun _ => False) w W) => rcrc b _ _ W (h0.keep hk (fun _ _ _ h => h)))
  have hcl := crcOf_lt b
  have PN := Lib.hid (fun W => refNumZ 4 (crcOf b : Nat) 4 rfl (by omega) W)
  have l4 := Lib.hid (show (leB (word (crcOf b : Nat)) 4).length = 4 from leB_len _ _)
  obtain ⟨all, hall⟩ : ∃ all, all = b ++ leB (word (crcOf b : Nat)) 4 := ⟨_, rfl⟩
  have HAL := Lib.hid hall
  have hal : all.length ≤ 1004 := by rw [hall, List.length_append, l4.out]; omega
  have SG := Lib.hid (fun W u G (hy : By W G u all) => fget_any all u G W hy (by omega))
  have RG := Lib.hid (fun W u G (hy : By W G u all) => rfget_any all u G W hy (by omega))
  generalize getFr all = r at *
  obtain ⟨l, er⟩ := r
  have SL := Lib.hid (fun W a b Fa Fb (ha : NS cmN W Fa a l) (hb : NS cmN W Fb b l) => fsame_any _ _ a b Fa Fb W ha hb)
  rw [decide_eq_true rfl] at SL
  have HN := Lib.hid (show b.length ≤ 1000 by omega)
  clear h0 hbig hall hal
  generalize crcOf b = cz at *
  have pw : IntKind.i64.wrap (cz : Int) = cz := IntWalk.i64_in _ (by omega)
  generalize hbn : b.length = n at *
  have HBN := Lib.hid hbn
  clear hbn
  go_enter Try.func10, Try.ntmps10
  go_wp2_with (at_builtin; refine wpList_app rfl _ _ rfl w.heap.size _ [] rfl (Ob.nil _ _ _) _ _ b rfl (HB.out _ (by exact (by repeat first | assumption | exact Keep.refl _ _ | refine Keep.alloc ?_ _ | refine Keep.drew ?_ | refine Keep.drewN ?_ _ | refine Keep.setCell ?_ (.inl (by first | omega | (simp; done) | (simp; omega))) _))) ?c1 (by simp) ?_)
  case c1 => have := HN.out; have := HBN.out; simp; omega
  intro A1 n1 c1 w1 ho1 hk1
  have K1 := Lib.hid (show Keep (fun _ => False) w w1 from ((Keep.refl _ w).alloc _).trans hk1 (fun x hx e => by simp [ownB] at e))
  have O1 := Lib.hid ho1
  clear ho1 hk1
  go_wp2_with fail
  with_reducible refine (CO.out w1 K1.out).mono ?_
  rintro e w2 ⟨rfl, rfl⟩
  go_wp2_with fail
  with_reducible refine (PN.out _).mono ?_
  rintro e w3 ⟨A3, n3, c3, rfl, hy3, hb3⟩
  have K3 := Lib.hid (K1.out.trans (Keep.of_below' hb3) (fun _ _ h => h))
  have O3 := Lib.hid (O1.out.same (Keep.of_below' hb3))
  have Y3 := Lib.hid hy3.by_
  have hz3 := K3.out.size
  clear hy3 hb3 O1 CO PN
  go_wp2_with (at_builtin; refine wpList_app rfl _ _ rfl w.heap.size _ b rfl O3.out _ _ (leB (word (cz : Nat)) 4) rfl Y3.out ?c3 ?c4 ?_)
  case c3 => have := HN.out; have := HBN.out; have := l4.out; omega
  case c4 => omega
  intro A4 n4 c4 w4 ho4 hk4
  rw [← HAL.out] at ho4
  have K4 := Lib.hid (show Keep (fun _ => False) w w4 from K3.out.trans hk4 (fun x hx e => by have := (O3.out.ownB_ x e).1; omega))
  have Y4 := Lib.hid ho4.by_
  clear ho4 hk4 Y3 O3 K3 K1
  have K1 := SG.out w4 _ _ Y4.out
  unfold GfPost at K1
  go_wp2_with fail
  with_reducible refine K1.mono ?_
  rintro e w5 ⟨A5, c5, rfl, ha5, hb5⟩
  have k5 := Lib.hid (K4.out.trans (Keep.of_below' hb5) (fun _ _ h => h))
  have H5 := Lib.hid (And.intro ha5 (Y4.out.keep (Keep.of_below' hb5) (fun _ _ _ h => h)))
  clear ha5 hb5 K1 SG
  have K1 := RG.out w5 _ _ H5.out.2
  unfold GfPost at K1
  go_wp2_with fail
  with_reducible refine K1.mono ?_
  rintro e w6 ⟨A6, c6, rfl, ha6, hb6⟩
  have k6 := Lib.hid (k5.out.trans (Keep.of_below' hb6) (fun _ _ h => h))
  have H6 := Lib.hid (And.intro (H5.out.1.same (Keep.of_below' hb6)) ha6)
  clear ha6 hb6 K1 RG H5
  have K1 := SL.out w6 _ _ _ _ H6.out.1 H6.out.2
  go_wp2_with fail
  with_reducible refine K1.mono ?_
  rintro e w7 ⟨rfl, hb7⟩
  have k7 := Lib.hid (k6.out.trans (Keep.of_below' hb7) (fun _ _ h => h))
  clear hb7 K1 SL H6
  have K1 := code14 er w7
  go_wp2_with fail
  with_reducible refine K1.mono ?_
  rintro e w8 ⟨rfl, rfl⟩
  go_wp2_with fail
  refine (LV.out _).mono ?_
  rintro e w9 ⟨rfl, hb9⟩
  go_wp2
  go_ret
  exact ⟨rfl, (k7.out.trans (Keep.of_below' hb9) (fun _ _ h => h)).to_below'⟩
end Go.Proofs.Ythkgchlndfcmpaa

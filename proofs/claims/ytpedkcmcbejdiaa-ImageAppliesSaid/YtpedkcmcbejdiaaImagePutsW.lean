/- The walks of vivariumlaw38.ImagePuts and ImageGets: they return true, old memory unchanged. -/
import Derived.Test.YtpedkcmcbejdiaaImgE
namespace Go.Proofs.Ytpedkcmcbejdiaa
open Go.RowKit
set_option maxRecDepth 100000
set_option linter.unusedVariables false
set_option linter.unusedSimpArgs false

theorem Dk.some_ {w : World} {F : Nat → Prop} {d : Value} {R : List (List UInt8)} (h : Dk w F d R) (hd : d ≠ .pointer none) : ∃ p, d = .pointer (some ⟨p, 0, none⟩) := by
  obtain ⟨_, ⟨rfl, _⟩ | ⟨p, u, m, rfl, _⟩⟩ := h
  · exact absurd rfl hd
  · exact ⟨p, rfl⟩
set_option maxHeartbeats 8000000 in
theorem imagePuts_walk (b : List UInt8) (v : Value) (w : World) (h : By w (fun _ => True) v b) :
    Calls Try.prog 4 #[v] w fun e w' => e = .returned (.bool true) ∧ Below w.heap.size w w' := by
  have LV := Lib.hid (fun W => live38 W)
  have h0 := h
  obtain ⟨A, c, rfl, -, -⟩ := h
  by_cases hbig : 10000 < b.length
  · have h1 : (10000 : Int) < (b.length : Int) := by omega
    generalize b.length = n at *
    clear h0
    go_enter Try.func4, Try.ntmps4
    go_wp2_with fail
    refine (LV.out _).mono ?_
    rintro e w2 ⟨rfl, hb2⟩
    go_wp2
    go_ret
    exact ⟨rfl, hb2⟩
  have h1 : ¬ (10000 : Int) < (b.length : Int) := by omega
  have hn : b.length / 512 ≤ 4096 := by omega
  have HB := Lib.hid (fun W (hk : Keep (fun _ => False) w W) => h0.keep hk (fun _ _ _ h => h))
  have OF := Lib.hid (dof_any b _ _ w h0 hn)
  have SL := secs_len b
  have GE := Lib.hid (show getI (putB (secs b)) = (0, wholeB b) by rw [getI_putB (secs_512 b) (by omega), flat_secs])
  have SW := Lib.hid (secs_whole b)
  have FS := Lib.hid (flat_secs b)
  have PL := Lib.hid (show (putB (secs b)).length ≤ 16777216 by
    have := enc_len _ (R := secs b) rfl (secs_512 b)
    unfold putB; rw [List.length_append, leB_len]; omega)
  have WH := Lib.hid (fun W (hk : Keep (fun _ => False) w W) => show Calls Try.prog 11 #[.slice A b.length c] W fun e w' => ∃ A' n' c', e = .returned (.slice A' n' c') ∧ By W (fun _ => True) (.slice A' n' c') (wholeB b) ∧ W = w' from (rwhole_any b _ _ W (h0.keep hk (fun _ _ _ h => h)) hn).mono fun e w' ⟨A', c', e1, e2, e3⟩ => ⟨A', _, c', e1, e2, e3⟩)
  have WL := Lib.hid (show (wholeB b).length / 512 ≤ 4096 by rw [wholeB_len]; omega)
  have SM := Lib.hid (fun W (l : List UInt8) u v G1 G2 (h1 : By W G1 u l) (h2 : By W G2 v l) => show Calls Try.prog 13 #[u, v] W fun e w' => e = .returned (.bool true) ∧ W = w' from by have := same_any l l u v G1 G2 W h1 h2; rwa [decide_eq_true rfl] at this)
  clear h0 hbig
  generalize b.length = n at *
  go_enter Try.func4, Try.ntmps4
  go_wp2_with fail
  with_reducible refine OF.out.mono ?_
  rintro e w1 ⟨p, gs, u, rfl, hd⟩
  have PU := Lib.hid (iput_any _ _ _ w1 hd.dk (by simp) (by omega))
  have HB1 := Lib.hid hd.below
  clear hd OF
  go_wp2_with fail
  with_reducible refine PU.out.mono ?_
  rintro e w2 ⟨A2, n2, c2, rfl, ho, hb⟩
  have H2 := Lib.hid (And.intro ho.by_ (HB1.out.trans (hb.mono HB1.out.size)))
  have GT := Lib.hid (iget_any _ _ _ w2 ho.by_ PL.out)
  rw [GE.out, SW.out] at GT
  clear ho hb PU HB1
  go_wp2_with fail
  with_reducible refine GT.out.mono ?_
  rintro e w3 ⟨d, rfl, hd, hdn, hb3⟩
  obtain ⟨pd, rfl⟩ := hd.some_ (by intro e; exact (hdn.1 e) rfl)
  have H3 := Lib.hid (And.intro (show By w3 (fun k => w1.heap.size ≤ k) (.slice A2 n2 c2) (putB (secs b)) from H2.out.1.keep (Keep.of_below' hb3) (fun _ _ _ h => h)) (And.intro hd (show Below w.heap.size w w3 from H2.out.2.trans (hb3.mono H2.out.2.size))))
  clear hd hdn hb3 GT H2
  go_wp2_with fail
  with_reducible refine (WH.out _ (Keep.of_below' H3.out.2.2)).mono ?_
  rintro e w4 ⟨A4, n4, c4, rfl, hy4, rfl⟩
  have RB := Lib.hid (rbytes38_any _ _ _ _ hy4 WL.out)
  rw [SW.out] at RB
  clear hy4
  go_wp2_with fail
  with_reducible refine RB.out.mono ?_
  rintro e w5 ⟨A5, n5, c5, rfl, ho5, hb5⟩
  have H5 := Lib.hid (And.intro (H3.out.2.1.same (Keep.of_below' hb5)) (show Below w.heap.size w w5 from H3.out.2.2.trans (hb5.mono H3.out.2.2.size)))
  have S5 := Lib.hid (SM.out w5 _ _ _ _ _ (H3.out.1.keep (Keep.of_below' hb5) (fun _ _ _ h => h)) ho5.by_)
  clear ho5 hb5 RB H3
  go_wp2_with fail
  with_reducible refine S5.out.mono ?_
  rintro e w6 ⟨rfl, rfl⟩
  go_wp2_with fail
  with_reducible refine (code38 _ _).mono ?_
  rintro e w6 ⟨rfl, rfl⟩
  have DB := Lib.hid (dbytes_any _ _ _ _ H5.out.1 (by omega))
  rw [FS.out] at DB
  clear S5
  go_wp2_with fail
  with_reducible refine DB.out.mono ?_
  rintro e w7 ⟨A7, n7, c7, rfl, ho7, hb7⟩
  have H7 := Lib.hid (And.intro ho7.by_ (show Below w.heap.size w w7 from H5.out.2.trans (hb7.mono H5.out.2.size)))
  clear ho7 hb7 DB H5
  go_wp2_with fail
  with_reducible refine (WH.out _ (Keep.of_below' H7.out.2)).mono ?_
  rintro e w8 ⟨A8, n8, c8, rfl, hy8, rfl⟩
  have S8 := Lib.hid (SM.out _ _ _ _ _ _ H7.out.1 hy8)
  clear hy8
  go_wp2_with fail
  with_reducible refine S8.out.mono ?_
  rintro e w9 ⟨rfl, rfl⟩
  go_wp2_with fail
  with_reducible refine (iput_nil _).mono ?_
  rintro e w9 ⟨rfl, rfl⟩
  go_wp2_with fail
  refine (LV.out _).mono ?_
  rintro e wa ⟨rfl, hba⟩
  go_wp2
  go_ret
  exact ⟨rfl, H7.out.2.trans (hba.mono H7.out.2.size)⟩
set_option maxHeartbeats 8000000 in
theorem imageGets_walk (b : List UInt8) (v : Value) (w : World) (h : By w (fun _ => True) v b) :
    Calls Try.prog 5 #[v] w fun e w' => e = .returned (.bool true) ∧ Below w.heap.size w w' := by
  have LV := Lib.hid (fun W => live38 W)
  have h0 := h
  obtain ⟨A, c, rfl, -, -⟩ := h
  by_cases hbig : 10000 < b.length
  · have h1 : (10000 : Int) < (b.length : Int) := by omega
    generalize b.length = n at *
    clear h0
    go_enter Try.func5, Try.ntmps5
    go_wp2_with fail
    refine (LV.out _).mono ?_
    rintro e w2 ⟨rfl, hb2⟩
    go_wp2
    go_ret
    exact ⟨rfl, hb2⟩
  have h1 : ¬ (10000 : Int) < (b.length : Int) := by omega
  have HB := Lib.hid (fun W (hk : Keep (fun _ => False) w W) => h0.keep hk (fun _ _ _ h => h))
  have GT := Lib.hid (iget_any b _ _ w h0 (by omega))
  have RT := Lib.hid (fun W (hk : Keep (fun _ => False) w W) => rget38_any b _ _ W (h0.keep hk (fun _ _ _ h => h)) (by omega))
  have OK := Lib.hid (@getI_ok b)
  obtain ⟨er, x, hx⟩ : ∃ er x, getI b = (er, x) := ⟨_, _, rfl⟩
  rw [hx] at GT RT OK
  have SM := Lib.hid (fun W (l : List UInt8) u v G1 G2 (h1 : By W G1 u l) (h2 : By W G2 v l) => show Calls Try.prog 13 #[u, v] W fun e w' => e = .returned (.bool true) ∧ W = w' from by have := same_any l l u v G1 G2 W h1 h2; rwa [decide_eq_true rfl] at this)
  clear h0 hbig hx
  generalize b.length = n at *
  go_enter Try.func5, Try.ntmps5
  go_wp2_with fail
  with_reducible refine GT.out.mono ?_
  rintro e w1 ⟨d, rfl, hd, hdn, hb1⟩
  have H1 := Lib.hid (And.intro hd hb1)
  have HN := Lib.hid (show d = .pointer none ↔ er ≠ 0 from hdn)
  have R1 := Lib.hid (RT.out w1 (Keep.of_below' hb1))
  clear hd hdn hb1 GT RT
  go_wp2_with fail
  with_reducible refine R1.out.mono ?_
  rintro e w2 ⟨A2, n2, c2, rfl, ho2, hb2⟩
  have H2 := Lib.hid (And.intro (H1.out.1.same (Keep.of_below' hb2)) (And.intro ho2.by_ (show Below w.heap.size w w2 from H1.out.2.trans (hb2.mono H1.out.2.size))))
  clear ho2 hb2 H1 R1
  go_wp2_with fail
  with_reducible refine (code38 _ _).mono ?_
  rintro e w3 ⟨rfl, rfl⟩
  by_cases he : er = 0
  · subst he
    obtain ⟨pd, rfl⟩ := H2.out.1.some_ (fun e => (HN.out.1 e) rfl)
    obtain ⟨o1, o2, o3⟩ := OK.out rfl
    have DB := Lib.hid (dbytes_any _ _ _ _ H2.out.1 (by rw [secs_len]; have o4 : x.length ≤ 2097152 := o3; omega))
    rw [flat_secs, o2] at DB
    have PU := Lib.hid (fun W (hk : Keep (fun _ => False) w2 W) => iput_any _ _ _ W (H2.out.1.same hk) (by simp) (by rw [secs_len]; have o4 : x.length ≤ 2097152 := o3; omega))
    rw [o1] at PU
    clear o1 o2 o3 OK
    try dsimp only at DB PU
    go_wp2_with fail
    with_reducible refine DB.out.mono ?_
    rintro e w4 ⟨A4, n4, c4, rfl, ho4, hb4⟩
    have S4 := Lib.hid (SM.out w4 _ _ _ _ _ ho4.by_ (H2.out.2.1.keep (Keep.of_below' hb4) (fun _ _ _ h => h)))
    have H4 := Lib.hid (And.intro (Keep.of_below' hb4) (show Below w.heap.size w w4 from H2.out.2.2.trans (hb4.mono H2.out.2.2.size)))
    clear ho4 hb4 DB
    go_wp2_with fail
    with_reducible refine S4.out.mono ?_
    rintro e w5 ⟨rfl, rfl⟩
    go_wp2_with fail
    with_reducible refine (PU.out _ H4.out.1).mono ?_
    rintro e w5 ⟨A5, n5, c5, rfl, ho5, hb5⟩
    have H5 := Lib.hid (show Below w.heap.size w w5 from H4.out.2.trans (hb5.mono H4.out.2.size))
    have S5 := Lib.hid (SM.out w5 _ _ _ _ _ ho5.by_ (HB.out _ (Keep.of_below' H5.out)))
    clear ho5 hb5 PU H4 S4
    go_wp2_with fail
    with_reducible refine S5.out.mono ?_
    rintro e w6 ⟨rfl, rfl⟩
    go_wp2_with fail
    refine (LV.out _).mono ?_
    rintro e wa ⟨rfl, hba⟩
    go_wp2
    go_ret
    exact ⟨rfl, H5.out.trans (hba.mono H5.out.size)⟩
  · obtain rfl := HN.out.2 he
    have e1 : (er != 0) = true := by simpa using he
    clear he OK HN
    go_wp2_with fail
    refine (LV.out _).mono ?_
    rintro e wa ⟨rfl, hba⟩
    go_wp2
    go_ret
    exact ⟨rfl, H2.out.2.2.trans (hba.mono H2.out.2.2.size)⟩
end Go.Proofs.Ytpedkcmcbejdiaa

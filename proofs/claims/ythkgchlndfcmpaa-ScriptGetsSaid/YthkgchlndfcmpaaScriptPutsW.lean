/- The walk of vivariumlaw31.ScriptPuts: it returns true, old memory unchanged. -/
import Derived.Test.YthkgchlndfcmpaaScrF
import Derived.Test.YthkgchlndfcmpaaScrJ
import Derived.Test.YthkgchlndfcmpaaScrL
import Derived.Test.YthkgchlndfcmpaaScrI
import Derived.Test.YthkgchlndfcmpaaScr4
import Derived.Test.YthkgchlndfcmpaaScrA
namespace Go.Proofs.Ythkgchlndfcmpaa
open Go.RowKit
set_option maxRecDepth 100000
set_option linter.unusedVariables false
set_option linter.unusedSimpArgs false

theorem code31 (z : Int) (w : World) : Calls Try.prog 68 #[.int .i64 z] w fun e w' => e = .returned (.int .i64 z) ∧ w' = w := by
  go_enter Try.func68, Try.ntmps68
  go_wp2
  go_ret
  exact ⟨rfl, rfl⟩
theorem small_not {l : List Ac} (h : muchA l = false) : l.length ≤ 80 ∧ ∀ x ∈ l, bigA x = false := by
  unfold muchA at h
  rw [Bool.or_eq_false_iff] at h
  have h2 := of_decide_eq_false h.2
  refine ⟨by omega, fun x hx => ?_⟩
  have h1 := h.1
  rw [List.take_of_length_le (by omega), List.any_eq_false] at h1
  simpa using h1 x hx
theorem smallA_nb {x : Ac} (h : bigA x = false) : smallA x := by
  unfold bigA at h
  have h := of_decide_eq_false h
  unfold smallA
  omega
theorem oneB_le {x : Ac} (h : bigA x = false) : (oneB x).length ≤ 1000 := by
  unfold bigA at h
  have h := of_decide_eq_false h
  unfold oneB
  rw [List.length_append, leB_len, tailA_eq]
  have h1 := bytesC_le x.c
  have h2 := fatesB_len x.fa x.fa.length
  have h3 := fusesB_len x.fu x.fu.length
  split
  · omega
  · split
    · rw [List.length_append, leB_len, leB_len]; omega
    · split
      · rw [leB_len]; omega
      · split
        · simp only [List.length_append, leB_len]; omega
        · simp
theorem putsB_le {l : List Ac} (h : ∀ x ∈ l, bigA x = false) (hl : l.length ≤ 80) (k : Nat) : (putsB l k).length ≤ 80000 := by
  have key : ∀ m : List Ac, (∀ x ∈ m, bigA x = false) → (m.flatMap gB).length ≤ m.length * 1000 := by
    intro m
    induction m with
    | nil => intro _; simp
    | cons x m ih =>
      intro hm
      have h1 := ih (fun y hy => hm y (List.mem_cons_of_mem _ hy))
      have h2 : (gB x).length ≤ 1000 := by
        unfold gB
        split
        · exact oneB_le (hm x (List.mem_cons_self ..))
        · simp
      rw [List.flatMap_cons, List.length_append, List.length_cons]
      omega
  have h1 := key (l.take k) (fun x hx => h x (List.mem_of_mem_take hx))
  have h2 : (l.take k).length ≤ 80 := by rw [List.length_take]; omega
  show ((l.take k).flatMap gB).length ≤ _
  omega
/-- What is wanted of the first ones. -/
def wantA (l : List Ac) (k : Nat) : List Ac := ((l.take k).filter rightA).map plainA
theorem wantA_next {l : List Ac} {k : Nat} {x : Ac} (hx : l[k]? = some x) : wantA l (k + 1) = wantA l k ++ (if rightA x = true then [plainA x] else []) := by
  unfold wantA
  rw [List.take_add_one, hx, Option.toList_some, List.filter_append, List.map_append]
  by_cases h : rightA x = true
  · rw [if_pos h, List.filter_cons_of_pos h]; rfl
  · rw [if_neg h, List.filter_cons_of_neg h]; rfl
theorem wantA_len (l : List Ac) (k : Nat) : (wantA l k).length ≤ l.length := by
  unfold wantA
  rw [List.length_map]
  exact Nat.le_trans (List.length_filter_le _ _) (List.length_take_le' _ _)
set_option maxHeartbeats 8000000 in
theorem scriptPuts_walk (l : List Ac) (v : Value) (w : World) (h : AS w (fun _ => True) v l) (hr : ∀ x ∈ l, rngA x) :
    Calls Try.prog 12 #[v] w fun e w' => e = .returned (.bool true) ∧ Below w.heap.size w w' := by
  obtain ⟨i0, hi0, hz0, hz1, hz2⟩ := info_parts info_act
  have LV := Lib.hid (fun W => live31 W)
  have MU := Lib.hid (fun W (hk : Keep (fun _ => False) w W) => much31 l v _ W (h.same hk))
  have h0 := h
  obtain ⟨A, c, rfl, hc⟩ := h.form
  by_cases hbig : muchA l = true
  · rw [hbig] at MU
    clear h h0 hr hbig
    generalize l.length = n at *
    go_enter Try.func12, Try.ntmps12
    go_wp2_with fail
    have K1 := MU.out w (Keep.refl _ _)
    with_reducible refine K1.mono ?_
    rintro e w1 ⟨rfl, rfl⟩
    clear K1 MU
    go_wp2_with fail
    refine (LV.out _).mono ?_
    rintro e w2 ⟨rfl, hb2⟩
    go_wp2
    go_ret
    exact ⟨rfl, hb2⟩
  rw [Bool.not_eq_true] at hbig
  rw [hbig] at MU
  obtain ⟨hl, hsm⟩ := small_not hbig
  have hsa : ∀ x ∈ l, smallA x := fun x hx => smallA_nb (hsm x hx)
  have hpl := putsB_le hsm hl
  have PT := Lib.hid (fun W (hk : Keep (fun _ => False) w W) => sputs_any l _ _ W (h0.same hk) hsa (fun k => by have := hpl k; omega))
  have RB := Lib.hid (fun W (hk : Keep (fun _ => False) w W) => rbytesA_any l _ _ W (h0.same hk) hsa (fun k => by have := hpl k; omega))
  have GT := Lib.hid (fun W u G (hy : By W G u (putsB l l.length)) => sgets_any (putsB l l.length) u G W hy (by have := hpl l.length; omega))
  rw [gets_puts l hr] at GT
  have SM := Lib.hid (fun W a b Fa Fb (ha : By W Fa a (putsB l l.length)) (hb : By W Fb b (putsB l l.length)) => same_any _ _ a b Fa Fb W ha hb)
  rw [decide_eq_true rfl] at SM
  have WN : (l.filter rightA).map plainA = wantA l l.length := by unfold wantA; rw [List.take_length]
  rw [WN] at GT
  have FU : ∀ x ∈ wantA l l.length, x.fu.length ≤ 1000000 := fun x hx => by
    unfold wantA at hx
    obtain ⟨y, hy, rfl⟩ := List.mem_map.1 hx
    exact (smallA_plain (hsa y (List.mem_of_mem_take (List.mem_filter.1 hy).1))).2.2
  have SL := Lib.hid (fun W a b Fa Fb (ha : AS W Fa a (wantA l l.length)) (hb : AS W Fb b (wantA l l.length)) => sameL31 _ _ a b Fa Fb W ha hb FU FU)
  rw [(sameLA_iff _ _).2 rfl] at SL
  have RI := Lib.hid (fun W (hk : Keep (fun _ => False) w W) => (h0.mono (G := fun b => b < w.heap.size) (fun b hb _ => hb)).same hk)
  have WX := Lib.hid (fun (k : Nat) x (hx : l[k]? = some x) => wantA_next hx)
  have WL := Lib.hid (fun k => wantA_len l k)
  have W0 := Lib.hid (show wantA l 0 = [] from rfl)
  clear h h0 hr hbig hsm hsa hpl WN FU hc
  generalize putsB l = PB1 at *
  generalize wantA l = WA at *
  generalize hn : l.length = n at *
  clear hn
  go_enter Try.func12, Try.ntmps12
  go_wp2_with fail
  have K1 := MU.out w (Keep.refl _ _)
  with_reducible refine K1.mono ?_
  rintro e w1 ⟨rfl, rfl⟩
  clear K1 MU
  go_wp2_with fail
  have K1 := PT.out w1 (Keep.refl _ _)
  with_reducible refine K1.mono ?_
  rintro e w2 ⟨A2, n2, c2, rfl, hy2, hb2⟩
  have H2 := Lib.hid (And.intro hy2 (Keep.of_below' hb2))
  clear hy2 hb2 K1 PT
  go_wp2_with fail
  have K1 := GT.out w2 _ _ H2.out.1
  unfold GsPost at K1
  with_reducible refine K1.mono ?_
  rintro e w3 ⟨A3, c3, rfl, ha3, hb3⟩
  have k3 := Keep.of_below' hb3
  have H3 := Lib.hid (And.intro (H2.out.1.keep k3 (fun _ _ _ h => h)) (And.intro ha3 (H2.out.2.trans k3 (fun _ _ h => h))))
  clear ha3 hb3 K1 GT H2 k3
  go_wp2
  go_loopw [6, 7] (fun t i wr => ∃ (k q : Nat) (B : Option Addr) (d : Nat), i = .int .i64 k ∧ k ≤ n ∧ q ≤ n ∧ t = .slice B q d ∧ Hid (ActSt w3.heap.size wr (.slice B q d) (WA k) ∧ q = (WA k).length ∧ Keep (fun _ => False) w3 wr)) (fun _ i _ => n - (intOf i).toNat)
  case atStart => exact ⟨0, 0, none, 0, rfl, Nat.zero_le _, Nat.zero_le _, rfl, Lib.hid ⟨by rw [W0.out]; exact ActSt.nil _ _, by rw [W0.out]; rfl, Keep.refl _ _⟩⟩
  case round =>
    obtain ⟨k, q, B, d, rfl, hk, hq, rfl, ht⟩ := hrel
    by_cases hlt : k < n
    · have hi : (k : Int) < (n : Int) := by omega
      have h00 : (0 : Int) ≤ (k : Int) := by omega
      have KW := Lib.hid (H3.out.2.2.trans ht.out.2.2 (fun _ _ h => h))
      obtain ⟨b, off, x, u1, u2, u3, rfl, -, hx, ham, hcs⟩ := (RI.out _ KW.out).at_ hlt
      have PN := Lib.hid (WX.out k x hx)
      obtain ⟨A1, m1, rfl, -⟩ := ham.1
      obtain ⟨A4, m4, rfl⟩ := ham.2.1.form
      obtain ⟨A5, m5, rfl⟩ := ham.2.2.form
      have HC := Lib.hid hcs
      have HM := Lib.hid ham
      clear hcs hx ham
      have hsz := H3.out.2.2.size
      have hsz2 := ht.out.2.2.size
      obtain ⟨y0, y1, y2, y3, y4, y5, y6, y7, y8, y9, y10, y11⟩ := cells_at12 HC.out
      have K1 := rrightA x _ _ _ _ wr HM.out
      have RP := Lib.hid (fun W (hk : Keep (fun _ => False) wr W) => rplainA_any x _ _ _ _ W (HM.out.same hk))
      unfold actV at K1 RP
      go_wp2_with fail
      with_reducible refine K1.mono ?_
      rintro e w4 ⟨rfl, hb⟩
      have k4 := Lib.hid (Keep.of_below' hb)
      clear hb K1 y0 y1 y2 y3 y4 y5 y6 y7 y8 y9 y10 y11
      by_cases hr : rightA x = true
      · have PN2 := Lib.hid (show WA (k + 1) = WA k ++ [plainA x] by rw [PN.out, if_pos hr])
        obtain ⟨y0, y1, y2, y3, y4, y5, y6, y7, y8, y9, y10, y11⟩ := cells_at12 (fun j u hu => k4.out.cell (fun h => h) (HC.out j u hu))
        have K1 := RP.out w4 k4.out
        generalize plainA x = px at *
        unfold APost actV at K1
        go_wp2_with fail
        with_reducible refine K1.mono ?_
        rintro e w5 ⟨A6, c6, A7, c7, A8, c8, rfl, hm5, hb5⟩
        have k5 := Lib.hid (k4.out.trans (Keep.of_below' hb5) (fun _ _ h => h))
        have hz4 := k4.out.size
        have HA5 := ht.out.1.same k5.out
        have HX5 := Lib.hid (hm5.mono (G := fun b => ownB (.slice B q d) ≠ some b) (fun b _ hb e => by have := ht.out.1.own_lt e; rcases hb with hb | hb <;> omega))
        have KW5 := Lib.hid (KW.out.trans k5.out (fun _ _ h => h))
        have K35 := Lib.hid (ht.out.2.2.trans k5.out (fun _ _ h => h))
        have NQ := Lib.hid ht.out.2.1
        have WLk := WL.out (k + 1)
        obtain ⟨us, h1, h2, h3⟩ := HA5
        rw [← NQ.out] at h2
        have OW := Lib.hid h2
        have H33 := Lib.hid (And.intro h1 h3)
        have hz5 := K35.out.size
        clear h1 h2 h3 hm5 hb5 K1 HM HC RP y0 y1 y2 y3 y4 y5 y6 y7 y8 y9 y10 y11
        go_wp2_with (at_builtin; refine wpList_append_gen _ rfl _ _ _ _ rfl w3.heap.size 45 i0 _ 12 144 Try.underlying47 hi0 hz0 hz1 hz2 rfl _ q _ rfl (OW.out.alloc _) _ 1 (acL (px, (.slice A6 px.c.l.length c6), (.slice A7 px.fa.length c7), (.slice A8 px.fu.length c8))) rfl (lit_src Try.underlying47 _ 12 rfl (by decide) (by intro u hu; simp [acL] at hu; rcases hu with rfl | rfl | rfl | rfl | rfl | rfl | rfl | rfl | rfl | rfl | rfl | rfl <;> rfl)) ?c1 ?c2 ?c3 ?_)
        case c1 => unfold maxLen; omega
        case c2 => omega
        case c3 => simp; omega
        intro v' w6 ho hk6 hn6
        obtain rfl := NQ.out
        have AP := Lib.hid (ActSt.push (W := w5.alloc (.cells (acL (px, (.slice A6 px.c.l.length c6), (.slice A7 px.fa.length c7), (.slice A8 px.fu.length c8))).toArray 45)) (v := ((.slice A6 px.c.l.length c6), (.slice A7 px.fa.length c7), (.slice A8 px.fu.length c8))) H33.out.1 OW.out H33.out.2 ((Keep.refl _ w5).alloc _) (HX5.out.same ((Keep.refl _ w5).alloc _)) ho hk6 (fun k e => (hn6 k e).imp id (fun h => by simp; omega)))
        rw [← PN2.out] at AP
        have LN : (WA (k + 1)).length = (WA k).length + 1 := by rw [PN2.out, List.length_append]; rfl
        have K6 := Lib.hid (show Keep (fun _ => False) w3 w6 from (K35.out.alloc _).trans hk6 (fun b hb e => by have := (OW.out.ownB b e).1; omega))
        obtain ⟨B5, c5, hv'⟩ := AP.out.form
        subst hv'
        clear ho hk6 hn6
        go_wp2
        go_roundw
        case rel => exact ⟨k + 1, (WA (k + 1)).length, B5, c5, by first | rfl | go_num, by omega, by omega, rfl, Lib.hid ⟨AP.out, rfl, K6.out⟩⟩
        case measure => simp [intOf]; omega
      · have PN2 := Lib.hid (show WA (k + 1) = WA k by rw [PN.out, if_neg hr, List.append_nil])
        have hr : rightA x = false := by simpa using hr
        have NT := Lib.hid (show ActSt w3.heap.size w4 (.slice B q d) (WA (k + 1)) ∧ q = (WA (k + 1)).length ∧ Keep (fun _ => False) w3 w4 from ⟨by rw [PN2.out]; exact ht.out.1.same k4.out, by rw [PN2.out]; exact ht.out.2.1, ht.out.2.2.trans k4.out (fun _ _ h => h)⟩)
        go_wp2
        go_roundw
        case rel => exact ⟨k + 1, q, B, d, by first | rfl | go_num, by omega, by omega, rfl, NT⟩
        case measure => simp [intOf]; omega
    · have hi : ¬ (k : Int) < (n : Int) := by omega
      obtain rfl : k = n := by omega
      have KW := Lib.hid (H3.out.2.2.trans ht.out.2.2 (fun _ _ h => h))
      have K1 := RB.out wr KW.out
      go_wp2_with fail
      with_reducible refine K1.mono ?_
      rintro e w4 ⟨A4, n4, c4, rfl, hy4, hb4⟩
      have k4 := Keep.of_below' hb4
      have H4 := Lib.hid (And.intro (H3.out.1.keep (ht.out.2.2.trans k4 (fun _ _ h => h)) (fun _ _ _ h => h)) (And.intro hy4 (And.intro (H3.out.2.1.same (ht.out.2.2.trans k4 (fun _ _ h => h))) (And.intro (ht.out.1.as_.same k4) (KW.out.trans k4 (fun _ _ h => h))))))
      have LN := Lib.hid ht.out.2.1
      clear hy4 hb4 K1 k4 ht H3 KW
      have K1 := SM.out w4 _ _ _ _ H4.out.1 H4.out.2.1
      go_wp2_with fail
      with_reducible refine K1.mono ?_
      rintro e w5 ⟨rfl, rfl⟩
      have K1 := SL.out w4 _ _ _ _ H4.out.2.2.1 H4.out.2.2.2.1
      go_wp2_with fail
      with_reducible refine K1.mono ?_
      rintro e w5 ⟨rfl, hb5⟩
      have K5 := Lib.hid (H4.out.2.2.2.2.trans (Keep.of_below' hb5) (fun _ _ h => h))
      clear hb5 K1 H4
      have K1 := code31 0 w5
      go_wp2_with fail
      with_reducible refine K1.mono ?_
      rintro e w6 ⟨rfl, rfl⟩
      go_wp2_with fail
      refine (LV.out _).mono ?_
      rintro e w7 ⟨rfl, hb7⟩
      go_wp2
      go_ret
      exact ⟨rfl, (K5.out.trans (Keep.of_below' hb7) (fun _ _ h => h)).to_below'⟩
end Go.Proofs.Ythkgchlndfcmpaa

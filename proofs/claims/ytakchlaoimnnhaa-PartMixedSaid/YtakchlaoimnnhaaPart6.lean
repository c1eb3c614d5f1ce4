/- Contract of vivariumref17.Split. Printed by genpart6.py. -/
import Derived.Test.YtakchlaoimnnhaaPart2
namespace Go.Proofs.Ytakchlaoimnnhaa
open Go.RowKit
set_option maxRecDepth 100000
set_option linter.unusedVariables false

theorem rchunk_src {W : World} {F : Nat → Prop} {A A' : Option Addr} {len c c' m : Nat} {b : List UInt8} (hv : By W F (.slice A len c) b) (k : Nat) (hm : m = min 460 (len - 460 * k)) (hk : 460 * k ≤ len) (hA : 0 < m → ∀ a, A = some a → A' = some (a.add (460 * k))) (hmc : m ≤ c') (hc' : c' ≤ maxLen) (hn : A' = none → c' = 0) :
    Src Try.prog 1 22 (.slice A' m c') m (bv (chunk b k)) W := by
  have hl : b.length = len := by obtain ⟨_, _, e, _⟩ := hv; injection e with _ e2 _; exact e2.symm
  have hq : (b.drop (460 * k)).take m = chunk b k := by
    unfold chunk
    rcases Nat.lt_or_ge 460 (len - 460 * k) with h | h
    · rw [show m = 460 by omega]
    · rw [List.take_of_length_le (by rw [List.length_drop]; omega), List.take_of_length_le (by rw [List.length_drop]; omega)]
  have h := hv.piece (A' := A') (lo := 460 * k) (m := m) (c' := c') (by omega) hA hmc hc' hn
  rw [hq] at h
  have hs := By.src (P := Try.prog) h Try.underlying22
  rwa [show (chunk b k).length = m by rw [chunk_len]; omega] at hs
theorem numO (width n : Int) (w : World) :
    Calls Try.prog 62 #[.int .i64 width, .int .i64 n] w (OwnPost w (leB (word n) (wideN width))) :=
  (refNum_any width n w).mono fun e w' ⟨u, he, ho, hb⟩ => by
    obtain ⟨A, c, rfl, _⟩ := ho.form
    exact ⟨A, _, c, he, ho, hb⟩

set_option maxHeartbeats 4000000 in
theorem rsplit_any (z : Int) (b : List UInt8) (v : Value) (F : Nat → Prop) (w : World) (hv : By w F v b) (hb : b.length ≤ 1099511627776) :
    Calls Try.prog 18 #[.int .i64 z, v] w fun e w' => ∃ u, e = .returned u ∧ ListSt w.heap.size w' u (splitL z b) ∧ Below w.heap.size w w' := by
  obtain ⟨ib, hib, hb0, hb1, hb2⟩ := info_parts info_byte
  obtain ⟨is, his, hs0, hs1, hs2⟩ := info_parts info_bytes
  have ND := Lib.hid (rneed_any b.length w hb)
  have hnl := need_le b.length
  obtain ⟨n, hn⟩ : ∃ n, need b.length = n := ⟨_, rfl⟩
  have NB := Lib.hid (need_bd hn)
  unfold splitL
  rw [hn] at ND hnl ⊢
  by_cases hbig : 1024 < n
  · rw [if_pos hbig]
    obtain ⟨A, c, rfl, _, _, _, _⟩ := hv
    generalize hl : b.length = len at *
    clear hl hn
    rcases (show z < 0 ∨ (0 ≤ z ∧ 281474976710656 < z) ∨ (0 ≤ z ∧ z ≤ 281474976710656) by omega) with h | ⟨h, h'⟩ | ⟨h, h'⟩
    all_goals
      go_enter Try.func18, Try.ntmps18
      go_wp2_with (go_at_call 61; refine ND.out.mono ?_; rintro e w1 ⟨rfl, rfl⟩)
      all_goals
        go_ret
        exact ⟨_, rfl, ListSt.nil _ _, Below.refl _ _⟩
  rw [if_neg hbig]
  have hbig : n ≤ 1024 := by omega
  have hn1 := NB.out.1
  have hb3 : b.length ≤ 460 * n := NB.out.2.1
  have W : ∃ Z : Int, leB (word Z) 8 = leB (clampSeq z) 8 ∧ (z < 0 ∧ Z = 0 ∨ 0 ≤ z ∧ 281474976710656 < z ∧ Z = 281474976710656 ∨ 0 ≤ z ∧ z ≤ 281474976710656 ∧ Z = z) := by
    unfold clampSeq
    rcases (show z < 0 ∨ (0 ≤ z ∧ 281474976710656 < z) ∨ (0 ≤ z ∧ z ≤ 281474976710656) by omega) with h | ⟨h, h'⟩ | ⟨h, h'⟩
    · exact ⟨0, by rw [if_pos h]; rfl, .inl ⟨h, rfl⟩⟩
    · exact ⟨281474976710656, by rw [if_neg (by omega), if_pos h']; rfl, .inr (.inl ⟨h, h', rfl⟩)⟩
    · exact ⟨z, by rw [if_neg (by omega), if_neg (by omega)]; congr 1; unfold word; omega, .inr (.inr ⟨h, h', rfl⟩)⟩
  generalize clampSeq z = s at *
  have NXT := Lib.hid (fun k (h : k < n) => @pieces_next s n k b h)
  have FULL := Lib.hid (show (pieces s b n).take n = pieces s b n from List.take_of_length_le (by rw [pieces_len]; exact Nat.le_refl _))
  have CH := Lib.hid (chunk_len b)
  have hv0 := hv
  obtain ⟨A, c, rfl, hlc, hcm, hAn, _⟩ := hv
  unfold maxLen at hcm
  have CSRC := Lib.hid (fun W (hk : Keep (fun _ => False) w W) k m hm hke A' hA c' hmc hc' hn => @rchunk_src W F A A' b.length c c' m b (hv0.keep hk (fun _ _ _ h => h)) k hm hke hA hmc hc' hn)
  have AN : Hid (A = none → c = 0) := fun h => hAn h
  have TL := Lib.hid (show ∀ k, k ≤ n → ((pieces s b n).take k).length = k from fun k hk => by rw [List.length_take, pieces_len]; omega)
  have HDR := Lib.hid (show ∀ k : Nat, k ≤ 1024 → ∀ Z : Int, leB (word Z) 8 = leB s 8 → (bv (leB (word (k : Int)) (wideN 2)) ++ bv (leB (word (n : Int)) (wideN 2))) ++ bv (leB (word Z) (wideN 8)) = bv (hdrB k n s) from fun k hk Z hZ => by
    rw [← split_hdr k n Z s hk hbig hZ]; simp [bv])
  have CK := Lib.hid (fun k => (show bv (hdrB k n s) ++ bv (chunk b k) = bv (hdrB k n s ++ chunk b k) from (bv_append _ _).symm))
  generalize hl : b.length = len at *
  have NZ := Lib.hid (show ∀ k, k < n → (len < 460 * k → False) ∧ (len - 460 * k = 0 → k = 0 ∧ len = 0) from fun k hk => by
    obtain ⟨q1, q2, q3⟩ := NB.out
    have := fun h => q3 h
    rcases Nat.lt_or_ge 1 n with h1 | h1
    · have := q3 h1; omega
    · omega)
  clear hl hn hv0 NB
  obtain ⟨Z, hZ, hcase⟩ := W
  have WZ := Lib.hid hZ
  clear hZ
  rcases hcase with ⟨h, rfl⟩ | ⟨h, h', rfl⟩ | ⟨h, h', rfl⟩
  all_goals
    go_enter Try.func18, Try.ntmps18
    go_wp2_with (go_at_call 61; refine ND.out.mono ?_; rintro e w1 ⟨rfl, rfl⟩)
  all_goals
    go_loopw [6, 7] (fun u i wr => ∃ k : Nat, k ≤ n ∧ i = .int .i64 k ∧ Hid (ListSt w.heap.size wr u ((pieces s b n).take k) ∧ Below w.heap.size w wr)) (fun _ i _ => n - (intOf i).toNat)
    case atStart => exact ⟨0, by omega, rfl, Lib.hid ⟨ListSt.nil _ _, Below.refl _ _⟩⟩
    case round =>
      obtain ⟨k, hk, rfl, hst⟩ := hrel
      by_cases hlt : k < n
      · have CL := CH.out k
        have NZk := NZ.out k hlt
        have f1 : (k : Int) < (n : Int) := by omega
        obtain ⟨⟨cs, hcs1, hcs2⟩, hbelr⟩ := hst.out
        rw [TL.out k hk] at hcs1
        by_cases h0 : c - 460 * k = 0
        · have hk0 : k = 0 := (NZk.2 (by omega)).1
          have hl0 : len = 0 := (NZk.2 (by omega)).2
          subst hk0
          subst hl0
          have hc0 : c = 0 := by omega
          subst hc0
          clear h0 NZk
          go_wp2_with fail
          refine (numO 2 ((0 : Nat) : Int) _).mono ?_
          rintro e w1 ⟨A1, n1, c1, rfl, ho1, hb1⟩
          have hn1' : n1 = 2 := by have := ho1.1; rw [bv_len, leB_len] at this; have : wideN 2 = 2 := rfl; omega
          subst hn1'
          have H1 := Lib.hid (And.intro ho1 hb1)
          clear ho1 hb1
          go_wp2_with fail
          refine (numO 2 (n : Nat) _).mono ?_
          rintro e w2 ⟨A2, n2, c2, rfl, ho2, hb2⟩
          have hn2' : n2 = 2 := by have := ho2.1; rw [bv_len, leB_len] at this; have : wideN 2 = 2 := rfl; omega
          subst hn2'
          have H2 := Lib.hid (And.intro ho2 (And.intro hb2 (H1.out.1.keep (Keep.of_below' hb2) (fun _ _ h => h))))
          clear ho2 hb2
          have S2 := Lib.hid (By.src (P := Try.prog) (sl_by H2.out.1.sl) Try.underlying22)
          rw [leB_len, show wideN 2 = 2 from rfl] at S2
          go_wp2_with (at_builtin; refine wpList_append_gen _ rfl _ _ _ _ rfl wr.heap.size 5 ib _ 1 1 Try.underlying22 hib hb0 hb1 hb2 rfl _ 2 _ rfl H2.out.2.2 _ 2 _ rfl S2.out ?a1 ?a2 ?a3 ?_)
          case a1 => unfold maxLen; omega
          case a2 => omega
          case a3 => have := H1.out.2.size; have := H2.out.2.1.size; omega
          intro v3 w3 ho3 hk3 _
          obtain ⟨A3, c3, rfl, _⟩ := ho3.form
          have H3 := Lib.hid (And.intro ho3 hk3)
          clear ho3 hk3
          go_wp2_with fail
          refine (numO 8 _ _).mono ?_
          rintro e w4 ⟨A4, n4, c4, rfl, ho4, hb4⟩
          have hn4' : n4 = 8 := by have := ho4.1; rw [bv_len, leB_len] at this; have : wideN 8 = 8 := rfl; omega
          subst hn4'
          have H4 := Lib.hid (And.intro ho4 (And.intro hb4 (H3.out.1.keep (Keep.of_below' hb4) (fun _ _ h => h))))
          clear ho4 hb4
          have S4 := Lib.hid (By.src (P := Try.prog) (sl_by H4.out.1.sl) Try.underlying22)
          rw [leB_len, show wideN 8 = 8 from rfl] at S4
          go_wp2_with (at_builtin; refine wpList_append_gen _ rfl _ _ _ _ rfl wr.heap.size 5 ib _ 1 1 Try.underlying22 hib hb0 hb1 hb2 rfl _ _ _ rfl H4.out.2.2 _ 8 _ rfl S4.out ?b1 ?b2 ?b3 ?_)
          case b1 => unfold maxLen; omega
          case b2 => omega
          case b3 => have := H1.out.2.size; have := H2.out.2.1.size; have := H3.out.2.size; have := H4.out.2.1.size; omega
          intro v5 w5 ho5 hk5 _
          have hd := HDR.out 0 (by omega) _ WZ.out
          simp only [List.append_assoc, show wideN 8 = 8 from rfl, show wideN 2 = 2 from rfl, show ((0 : Nat) : Int) = 0 from rfl] at ho5 hd
          rw [hd] at ho5
          clear hd
          obtain ⟨A5, c5, rfl, _⟩ := ho5.form
          have H5 := Lib.hid (And.intro ho5 hk5)
          clear ho5 hk5
          have KR := Lib.hid (show Keep (fun x => wr.heap.size ≤ x) wr w5 from by
            have z1 := H1.out.2.size
            have z2 := H2.out.2.1.size
            have z3 := H3.out.2.size
            have z4 := H4.out.2.1.size
            have q1 := (Keep.of_below' H1.out.2).trans (Keep.of_below' H2.out.2.1) (fun _ _ h => h)
            have q2 := Keep.trans (S := fun x => wr.heap.size ≤ x) (q1.mono (fun _ _ h => h.elim)) H3.out.2 (fun x _ e => (H2.out.2.2.ownB x e).1)
            have q3 := Keep.trans (S := fun x => wr.heap.size ≤ x) q2 (Keep.of_below' H4.out.2.1) (fun _ _ h => h.elim)
            exact Keep.trans (S := fun x => wr.heap.size ≤ x) q3 H5.out.2 (fun x _ e => (H4.out.2.2.ownB x e).1))
          have KW := Lib.hid (show Keep (fun _ => False) w w5 from Keep.trans (T := fun x => wr.heap.size ≤ x) (Keep.of_below' hbelr) KR.out (fun x hx h => by have := hbelr.size; omega))
          have SRC := Lib.hid (show Src Try.prog 1 22 (.slice A 0 0) 0 (bv (chunk b 0)) w5 by rw [show chunk b 0 = [] from List.eq_nil_of_length_eq_zero (by omega)]; exact src_empty A 0 w5)
          go_wp2_with (at_builtin; refine wpList_append_gen _ rfl _ _ _ _ rfl wr.heap.size 5 ib _ 1 1 Try.underlying22 hib hb0 hb1 hb2 rfl _ _ _ rfl H5.out.1 _ _ _ rfl SRC.out ?e1 ?e2 ?e3 ?_)
          case e1 => unfold maxLen; omega
          case e2 => omega
          case e3 => exact KR.out.size
          intro v6 w6 ho6 hk6 _
          rw [CK.out 0] at ho6
          obtain ⟨A6, c6, rfl, _⟩ := ho6.form
          have W6 := Lib.hid (And.intro ho6 (Keep.trans (S := fun x => wr.heap.size ≤ x) KR.out hk6 (fun x _ e => (H5.out.1.ownB x e).1)))
          clear ho6 hk6
          have OL := Lib.hid (show ∀ o, Own (w6.alloc o) w.heap.size 22 1 _ 0 cs from fun o => by
            have := hcs1.keep W6.out.2 (fun x e h => by have := (hcs1.ownB x e).2; omega)
            exact this.alloc _)
          go_wp2_with (at_builtin; refine wpList_append_gen _ rfl _ _ _ _ rfl w.heap.size 22 is _ 1 24 Try.underlying24 his hs0 hs1 hs2 rfl _ 0 cs rfl (OL.out _) _ 1 _ rfl (src_one _ _ Try.underlying24 rfl) ?d1 ?d2 ?d3 ?_)
          case d1 => unfold maxLen; omega
          case d2 => omega
          case d3 => have h1 := W6.out.2.size; have h3 := hbelr.size; simp; omega
          intro v7 w7 ho7 hk7 hn7
          have NX := Lib.hid (show ListSt w.heap.size w7 v7 ((pieces s b n).take (0 + 1)) ∧ Below w.heap.size w w7 from by
            refine ⟨?_, ?_⟩
            · rw [NXT.out 0 hlt]
              exact ListSt.push (w := wr) (by rw [TL.out 0 hk]; exact hcs1) hcs2 (W6.out.2.alloc _) ((sl_by W6.out.1.sl).keep ((Keep.refl (fun _ => False) _).alloc _) (fun _ _ _ h => h)) hbelr.size (by rw [TL.out 0 hk]; exact ho7) hk7 (by simpa using hn7)
            · exact (Keep.trans (S := fun x => w.heap.size ≤ x) (Keep.trans (S := fun x => w.heap.size ≤ x) (T := fun x => wr.heap.size ≤ x) ((Keep.of_below' hbelr).mono (fun _ _ h => h.elim)) (W6.out.2.alloc _) (fun x _ h => by have := hbelr.size; omega)) hk7 (fun x _ e => (hcs1.ownB x e).1)).to_below (Nat.le_refl _))
          clear ho7 hk7 hn7
          go_wp2
          go_roundw
          case rel => (repeat apply Exists.intro); exact ⟨⟨0 + 1, by omega, by go_num, NX⟩, rfl⟩
          case measure => simp [intOf]; omega
        · by_cases hbigr : 460 < len - 460 * k
          · have f2 : (460 : Int) < ((len - 460 * k : Nat) : Int) := by omega
            go_wp2_with fail
            refine (numO 2 (k : Nat) _).mono ?_
            rintro e w1 ⟨A1, n1, c1, rfl, ho1, hb1⟩
            have hn1' : n1 = 2 := by have := ho1.1; rw [bv_len, leB_len] at this; have : wideN 2 = 2 := rfl; omega
            subst hn1'
            have H1 := Lib.hid (And.intro ho1 hb1)
            clear ho1 hb1
            go_wp2_with fail
            refine (numO 2 (n : Nat) _).mono ?_
            rintro e w2 ⟨A2, n2, c2, rfl, ho2, hb2⟩
            have hn2' : n2 = 2 := by have := ho2.1; rw [bv_len, leB_len] at this; have : wideN 2 = 2 := rfl; omega
            subst hn2'
            have H2 := Lib.hid (And.intro ho2 (And.intro hb2 (H1.out.1.keep (Keep.of_below' hb2) (fun _ _ h => h))))
            clear ho2 hb2
            have S2 := Lib.hid (By.src (P := Try.prog) (sl_by H2.out.1.sl) Try.underlying22)
            rw [leB_len, show wideN 2 = 2 from rfl] at S2
            go_wp2_with (at_builtin; refine wpList_append_gen _ rfl _ _ _ _ rfl wr.heap.size 5 ib _ 1 1 Try.underlying22 hib hb0 hb1 hb2 rfl _ 2 _ rfl H2.out.2.2 _ 2 _ rfl S2.out ?a1 ?a2 ?a3 ?_)
            case a1 => unfold maxLen; omega
            case a2 => omega
            case a3 => have := H1.out.2.size; have := H2.out.2.1.size; omega
            intro v3 w3 ho3 hk3 _
            obtain ⟨A3, c3, rfl, _⟩ := ho3.form
            have H3 := Lib.hid (And.intro ho3 hk3)
            clear ho3 hk3
            go_wp2_with fail
            refine (numO 8 _ _).mono ?_
            rintro e w4 ⟨A4, n4, c4, rfl, ho4, hb4⟩
            have hn4' : n4 = 8 := by have := ho4.1; rw [bv_len, leB_len] at this; have : wideN 8 = 8 := rfl; omega
            subst hn4'
            have H4 := Lib.hid (And.intro ho4 (And.intro hb4 (H3.out.1.keep (Keep.of_below' hb4) (fun _ _ h => h))))
            clear ho4 hb4
            have S4 := Lib.hid (By.src (P := Try.prog) (sl_by H4.out.1.sl) Try.underlying22)
            rw [leB_len, show wideN 8 = 8 from rfl] at S4
            go_wp2_with (at_builtin; refine wpList_append_gen _ rfl _ _ _ _ rfl wr.heap.size 5 ib _ 1 1 Try.underlying22 hib hb0 hb1 hb2 rfl _ _ _ rfl H4.out.2.2 _ 8 _ rfl S4.out ?b1 ?b2 ?b3 ?_)
            case b1 => unfold maxLen; omega
            case b2 => omega
            case b3 => have := H1.out.2.size; have := H2.out.2.1.size; have := H3.out.2.size; have := H4.out.2.1.size; omega
            intro v5 w5 ho5 hk5 _
            have hd := HDR.out k (by omega) _ WZ.out
            simp only [List.append_assoc, show wideN 8 = 8 from rfl, show wideN 2 = 2 from rfl] at ho5 hd
            rw [hd] at ho5
            clear hd
            obtain ⟨A5, c5, rfl, _⟩ := ho5.form
            have H5 := Lib.hid (And.intro ho5 hk5)
            clear ho5 hk5
            have KR := Lib.hid (show Keep (fun x => wr.heap.size ≤ x) wr w5 from by
              have z1 := H1.out.2.size
              have z2 := H2.out.2.1.size
              have z3 := H3.out.2.size
              have z4 := H4.out.2.1.size
              have q1 := (Keep.of_below' H1.out.2).trans (Keep.of_below' H2.out.2.1) (fun _ _ h => h)
              have q2 := Keep.trans (S := fun x => wr.heap.size ≤ x) (q1.mono (fun _ _ h => h.elim)) H3.out.2 (fun x _ e => (H2.out.2.2.ownB x e).1)
              have q3 := Keep.trans (S := fun x => wr.heap.size ≤ x) q2 (Keep.of_below' H4.out.2.1) (fun _ _ h => h.elim)
              exact Keep.trans (S := fun x => wr.heap.size ≤ x) q3 H5.out.2 (fun x _ e => (H4.out.2.2.ownB x e).1))
            have KW := Lib.hid (show Keep (fun _ => False) w w5 from Keep.trans (T := fun x => wr.heap.size ≤ x) (Keep.of_below' hbelr) KR.out (fun x hx h => by have := hbelr.size; omega))
            have SRC := Lib.hid (CSRC.out w5 KW.out k (460) (by omega) (by omega) (Option.map (fun x => x.add (460 * k)) A) (by intro h a ha; rw [ha]; rfl) (c - 460 * k) (by omega) (by unfold maxLen; omega) (by intro hh; rcases A with _ | a; (have := AN.out rfl; omega); (cases hh)))
            go_wp2_with (at_builtin; refine wpList_append_gen _ rfl _ _ _ _ rfl wr.heap.size 5 ib _ 1 1 Try.underlying22 hib hb0 hb1 hb2 rfl _ _ _ rfl H5.out.1 _ _ _ rfl SRC.out ?e1 ?e2 ?e3 ?_)
            case e1 => unfold maxLen; omega
            case e2 => omega
            case e3 => exact KR.out.size
            intro v6 w6 ho6 hk6 _
            rw [CK.out k] at ho6
            obtain ⟨A6, c6, rfl, _⟩ := ho6.form
            have W6 := Lib.hid (And.intro ho6 (Keep.trans (S := fun x => wr.heap.size ≤ x) KR.out hk6 (fun x _ e => (H5.out.1.ownB x e).1)))
            clear ho6 hk6
            have OL := Lib.hid (show ∀ o, Own (w6.alloc o) w.heap.size 22 1 _ k cs from fun o => by
              have := hcs1.keep W6.out.2 (fun x e h => by have := (hcs1.ownB x e).2; omega)
              exact this.alloc _)
            go_wp2_with (at_builtin; refine wpList_append_gen _ rfl _ _ _ _ rfl w.heap.size 22 is _ 1 24 Try.underlying24 his hs0 hs1 hs2 rfl _ k cs rfl (OL.out _) _ 1 _ rfl (src_one _ _ Try.underlying24 rfl) ?d1 ?d2 ?d3 ?_)
            case d1 => unfold maxLen; omega
            case d2 => omega
            case d3 => have h1 := W6.out.2.size; have h3 := hbelr.size; simp; omega
            intro v7 w7 ho7 hk7 hn7
            have NX := Lib.hid (show ListSt w.heap.size w7 v7 ((pieces s b n).take (k + 1)) ∧ Below w.heap.size w w7 from by
              refine ⟨?_, ?_⟩
              · rw [NXT.out k hlt]
                exact ListSt.push (w := wr) (by rw [TL.out k hk]; exact hcs1) hcs2 (W6.out.2.alloc _) ((sl_by W6.out.1.sl).keep ((Keep.refl (fun _ => False) _).alloc _) (fun _ _ _ h => h)) hbelr.size (by rw [TL.out k hk]; exact ho7) hk7 (by simpa using hn7)
              · exact (Keep.trans (S := fun x => w.heap.size ≤ x) (Keep.trans (S := fun x => w.heap.size ≤ x) (T := fun x => wr.heap.size ≤ x) ((Keep.of_below' hbelr).mono (fun _ _ h => h.elim)) (W6.out.2.alloc _) (fun x _ h => by have := hbelr.size; omega)) hk7 (fun x _ e => (hcs1.ownB x e).1)).to_below (Nat.le_refl _))
            clear ho7 hk7 hn7
            go_wp2
            go_roundw
            case rel => exact ⟨k + 1, by omega, by go_num, NX⟩
            case measure => simp [intOf]; omega
          · have f2 : ((len - 460 * k : Nat) : Int) ≤ 460 := by omega
            go_wp2_with fail
            refine (numO 2 (k : Nat) _).mono ?_
            rintro e w1 ⟨A1, n1, c1, rfl, ho1, hb1⟩
            have hn1' : n1 = 2 := by have := ho1.1; rw [bv_len, leB_len] at this; have : wideN 2 = 2 := rfl; omega
            subst hn1'
            have H1 := Lib.hid (And.intro ho1 hb1)
            clear ho1 hb1
            go_wp2_with fail
            refine (numO 2 (n : Nat) _).mono ?_
            rintro e w2 ⟨A2, n2, c2, rfl, ho2, hb2⟩
            have hn2' : n2 = 2 := by have := ho2.1; rw [bv_len, leB_len] at this; have : wideN 2 = 2 := rfl; omega
            subst hn2'
            have H2 := Lib.hid (And.intro ho2 (And.intro hb2 (H1.out.1.keep (Keep.of_below' hb2) (fun _ _ h => h))))
            clear ho2 hb2
            have S2 := Lib.hid (By.src (P := Try.prog) (sl_by H2.out.1.sl) Try.underlying22)
            rw [leB_len, show wideN 2 = 2 from rfl] at S2
            go_wp2_with (at_builtin; refine wpList_append_gen _ rfl _ _ _ _ rfl wr.heap.size 5 ib _ 1 1 Try.underlying22 hib hb0 hb1 hb2 rfl _ 2 _ rfl H2.out.2.2 _ 2 _ rfl S2.out ?a1 ?a2 ?a3 ?_)
            case a1 => unfold maxLen; omega
            case a2 => omega
            case a3 => have := H1.out.2.size; have := H2.out.2.1.size; omega
            intro v3 w3 ho3 hk3 _
            obtain ⟨A3, c3, rfl, _⟩ := ho3.form
            have H3 := Lib.hid (And.intro ho3 hk3)
            clear ho3 hk3
            go_wp2_with fail
            refine (numO 8 _ _).mono ?_
            rintro e w4 ⟨A4, n4, c4, rfl, ho4, hb4⟩
            have hn4' : n4 = 8 := by have := ho4.1; rw [bv_len, leB_len] at this; have : wideN 8 = 8 := rfl; omega
            subst hn4'
            have H4 := Lib.hid (And.intro ho4 (And.intro hb4 (H3.out.1.keep (Keep.of_below' hb4) (fun _ _ h => h))))
            clear ho4 hb4
            have S4 := Lib.hid (By.src (P := Try.prog) (sl_by H4.out.1.sl) Try.underlying22)
            rw [leB_len, show wideN 8 = 8 from rfl] at S4
            go_wp2_with (at_builtin; refine wpList_append_gen _ rfl _ _ _ _ rfl wr.heap.size 5 ib _ 1 1 Try.underlying22 hib hb0 hb1 hb2 rfl _ _ _ rfl H4.out.2.2 _ 8 _ rfl S4.out ?b1 ?b2 ?b3 ?_)
            case b1 => unfold maxLen; omega
            case b2 => omega
            case b3 => have := H1.out.2.size; have := H2.out.2.1.size; have := H3.out.2.size; have := H4.out.2.1.size; omega
            intro v5 w5 ho5 hk5 _
            have hd := HDR.out k (by omega) _ WZ.out
            simp only [List.append_assoc, show wideN 8 = 8 from rfl, show wideN 2 = 2 from rfl] at ho5 hd
            rw [hd] at ho5
            clear hd
            obtain ⟨A5, c5, rfl, _⟩ := ho5.form
            have H5 := Lib.hid (And.intro ho5 hk5)
            clear ho5 hk5
            have KR := Lib.hid (show Keep (fun x => wr.heap.size ≤ x) wr w5 from by
              have z1 := H1.out.2.size
              have z2 := H2.out.2.1.size
              have z3 := H3.out.2.size
              have z4 := H4.out.2.1.size
              have q1 := (Keep.of_below' H1.out.2).trans (Keep.of_below' H2.out.2.1) (fun _ _ h => h)
              have q2 := Keep.trans (S := fun x => wr.heap.size ≤ x) (q1.mono (fun _ _ h => h.elim)) H3.out.2 (fun x _ e => (H2.out.2.2.ownB x e).1)
              have q3 := Keep.trans (S := fun x => wr.heap.size ≤ x) q2 (Keep.of_below' H4.out.2.1) (fun _ _ h => h.elim)
              exact Keep.trans (S := fun x => wr.heap.size ≤ x) q3 H5.out.2 (fun x _ e => (H4.out.2.2.ownB x e).1))
            have KW := Lib.hid (show Keep (fun _ => False) w w5 from Keep.trans (T := fun x => wr.heap.size ≤ x) (Keep.of_below' hbelr) KR.out (fun x hx h => by have := hbelr.size; omega))
            have SRC := Lib.hid (CSRC.out w5 KW.out k (len - 460 * k) (by omega) (by omega) (Option.map (fun x => x.add (460 * k)) A) (by intro h a ha; rw [ha]; rfl) (c - 460 * k) (by omega) (by unfold maxLen; omega) (by intro hh; rcases A with _ | a; (have := AN.out rfl; omega); (cases hh)))
            go_wp2_with (at_builtin; refine wpList_append_gen _ rfl _ _ _ _ rfl wr.heap.size 5 ib _ 1 1 Try.underlying22 hib hb0 hb1 hb2 rfl _ _ _ rfl H5.out.1 _ _ _ rfl SRC.out ?e1 ?e2 ?e3 ?_)
            case e1 => unfold maxLen; omega
            case e2 => omega
            case e3 => exact KR.out.size
            intro v6 w6 ho6 hk6 _
            rw [CK.out k] at ho6
            obtain ⟨A6, c6, rfl, _⟩ := ho6.form
            have W6 := Lib.hid (And.intro ho6 (Keep.trans (S := fun x => wr.heap.size ≤ x) KR.out hk6 (fun x _ e => (H5.out.1.ownB x e).1)))
            clear ho6 hk6
            have OL := Lib.hid (show ∀ o, Own (w6.alloc o) w.heap.size 22 1 _ k cs from fun o => by
              have := hcs1.keep W6.out.2 (fun x e h => by have := (hcs1.ownB x e).2; omega)
              exact this.alloc _)
            go_wp2_with (at_builtin; refine wpList_append_gen _ rfl _ _ _ _ rfl w.heap.size 22 is _ 1 24 Try.underlying24 his hs0 hs1 hs2 rfl _ k cs rfl (OL.out _) _ 1 _ rfl (src_one _ _ Try.underlying24 rfl) ?d1 ?d2 ?d3 ?_)
            case d1 => unfold maxLen; omega
            case d2 => omega
            case d3 => have h1 := W6.out.2.size; have h3 := hbelr.size; simp; omega
            intro v7 w7 ho7 hk7 hn7
            have NX := Lib.hid (show ListSt w.heap.size w7 v7 ((pieces s b n).take (k + 1)) ∧ Below w.heap.size w w7 from by
              refine ⟨?_, ?_⟩
              · rw [NXT.out k hlt]
                exact ListSt.push (w := wr) (by rw [TL.out k hk]; exact hcs1) hcs2 (W6.out.2.alloc _) ((sl_by W6.out.1.sl).keep ((Keep.refl (fun _ => False) _).alloc _) (fun _ _ _ h => h)) hbelr.size (by rw [TL.out k hk]; exact ho7) hk7 (by simpa using hn7)
              · exact (Keep.trans (S := fun x => w.heap.size ≤ x) (Keep.trans (S := fun x => w.heap.size ≤ x) (T := fun x => wr.heap.size ≤ x) ((Keep.of_below' hbelr).mono (fun _ _ h => h.elim)) (W6.out.2.alloc _) (fun x _ h => by have := hbelr.size; omega)) hk7 (fun x _ e => (hcs1.ownB x e).1)).to_below (Nat.le_refl _))
            clear ho7 hk7 hn7
            go_wp2
            go_roundw
            case rel => exact ⟨k + 1, by omega, by go_num, NX⟩
            case measure => simp [intOf]; omega
      · obtain rfl : k = n := by omega
        rw [FULL.out] at hst
        go_wp2
        go_ret
        exact ⟨_, rfl, hst.out.1, hst.out.2⟩
end Go.Proofs.Ytakchlaoimnnhaa

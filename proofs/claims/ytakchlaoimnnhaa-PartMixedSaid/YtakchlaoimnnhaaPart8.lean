/- Contract of vivariumref17.Join. Printed by genpart8.py. -/
import Derived.Test.YtakchlaoimnnhaaPart5
import Derived.Test.YtakchlaoimnnhaaPart7
namespace Go.Proofs.Ytakchlaoimnnhaa
open Go.RowKit
set_option maxRecDepth 100000
set_option linter.unusedVariables false

theorem rjoin_no {w w' : World} {R : List (List UInt8)} (h : joinOk R = false) (hb : Below w.heap.size w w') : JoinPost w R (.returned (.tuple #[.int .i64 0, .slice none 0 0, .bool false])) w' :=
  join_no (fun hh => by rw [prog_iff.1 hh] at h; cases h) hb
theorem okAt_not {R : List (List UInt8)} {k : Nat} (hk : k < R.length) (h : okAt R (firstSeq R) k (R.getD k []) = false) : joinOk R = false := by
  rw [Bool.eq_false_iff]
  intro hj
  have := (joinOk_iff.1 hj).2 k (R.getD k []) (by rw [List.getD_eq_getElem?_getD, List.getElem?_eq_getElem hk]; rfl)
  rw [this] at h
  cases h
theorem okAt_all {R : List (List UInt8)} (hne : 0 < R.length) (h : ∀ k, k < R.length → okAt R (firstSeq R) k (R.getD k []) = true) : joinOk R = true := by
  rw [joinOk_iff]
  refine ⟨fun e => by rw [e] at hne; simp at hne, fun i q hq => ?_⟩
  have hi := (List.getElem?_eq_some_iff.1 hq).1
  have := h i hi
  rw [List.getD_eq_getElem?_getD, hq] at this
  exact this

set_option maxHeartbeats 4000000 in
theorem rjoin_any (R : List (List UInt8)) (v : Value) (F : Nat → Prop) (w : World) (hv : Bys w F v R) (hB : (joinB R).length ≤ 1073741824) (hR : R.length ≤ 1073741824) :
    Calls Try.prog 21 #[v] w (JoinPost w R) := by
  obtain ⟨A, c, rfl, hRc, hcm, hat⟩ := hv.form
  unfold maxLen at hcm
  obtain ⟨ib, hib, hb0, hb1, hb2⟩ := info_parts info_byte
  have NO := Lib.hid (fun w' (hb : Below w.heap.size w w') (h : joinOk R = false) => rjoin_no (R := R) h hb)
  have HA := Lib.hid hat
  have NX := Lib.hid (fun k (h : k < R.length) => joinB_next h)
  have LT := Lib.hid (fun k => Nat.le_trans (joinB_take R k) hB)
  have FULL := Lib.hid (show joinB (R.take R.length) = joinB R by rw [List.take_length])
  have OKN := Lib.hid (fun k (hk : k < R.length) => @okAt_not R k hk)
  have OKA := Lib.hid (@okAt_all R)
  have EMP := Lib.hid (show R.length = 0 → joinOk R = false from fun h => by
    have : R = [] := List.eq_nil_of_length_eq_zero h
    subst this; rfl)
  have YES := Lib.hid (fun w' A n c (h : joinOk R = true) hy hb => @join_yes w w' R A n c (prog_iff.2 h) hy hb)
  have FS := Lib.hid (show hSeq (R.getD 0 []) = firstSeq R from rfl)
  have OI := Lib.hid (fun k => @okAt_iff R (firstSeq R) k (R.getD k []))
  clear hat hv hB
  generalize firstSeq R = z at *
  generalize hn : R.length = n at *
  clear hn
  go_enter Try.func21, Try.ntmps21
  go_wp2
  go_loopw [5, 6, 7] (fun u s i wr => ∃ k : Nat, k ≤ n ∧ s = .int .i64 (if k = 0 then 0 else z) ∧ i = .int .i64 k ∧ Hid ((∃ m, Own wr w.heap.size 5 1 u m (bv (joinB (R.take k)))) ∧ Below w.heap.size w wr ∧ ∀ j, j < k → okAt R z j (R.getD j []) = true)) (fun _ _ i _ => n - (intOf i).toNat)
  case atStart => exact ⟨0, by omega, by rw [if_pos rfl], rfl, Lib.hid ⟨⟨0, Own.none_ _ _ _ _ _⟩, Below.refl _ _, fun j hj => by omega⟩⟩
  case round =>
    obtain ⟨k, hk, rfl, rfl, hst⟩ := hrel
    by_cases hlt : k < n
    · obtain ⟨b1, o1, u1, e1, x1, y1⟩ := HA.out k hlt
      subst e1
      obtain ⟨⟨m, ho⟩, hbel, hokj⟩ := hst.out
      have y1' := y1.below hbel
      have x1' : wr.cell? ⟨b1, o1 + k, none⟩ = some u1 := (Keep.of_below' hbel).cell (fun h => h) x1
      obtain ⟨A1, d1, rfl, hd1, hd2, hd3, _⟩ := id y1
      have HD := Lib.hid (rhead_any _ _ _ wr y1')
      have f1 : (k : Int) < (n : Int) := by omega
      have BW := Lib.hid hbel
      clear x1
      by_cases hh : ¬ headOk (R.getD k []) = true
      · rw [headT_no (by simpa using hh)] at HD
        have NP := Lib.hid (NO.out wr hbel (OKN.out k hlt (by
          rw [Bool.eq_false_iff, Ne, OI.out k]; exact fun h => hh h.1)))
        clear ho hbel hokj y1 y1' hh
        generalize (R.getD k []).length = n1 at *
        generalize (if k = 0 then 0 else z) = sq at *
        go_wp2_with (go_at_call 23; refine HD.out.mono ?_; rintro e w1 ⟨rfl, rfl⟩)
        all_goals
          go_ret3
          exact NP.out
      have hh := Decidable.not_not.1 hh
      rw [headT_yes hh] at HD
      have hm : m = (joinB (R.take k)).length := by have := ho.1; rw [bv_len] at this; omega
      have hL1 := LT.out (k + 1)
      rw [NX.out k hlt, List.length_append, List.length_drop, ← hm] at hL1
      have hlong := (headOk_iff.1 hh).1
      have hq : ((R.getD k []).drop 12).take ((R.getD k []).length - 12) = (R.getD k []).drop 12 := List.take_of_length_le (by rw [List.length_drop]; exact Nat.le_refl _)
      have NP := Lib.hid (fun h => NO.out wr hbel (OKN.out k hlt (show okAt R z k (R.getD k []) = false by rw [Bool.eq_false_iff, Ne, OI.out k]; exact h)))
      have OKK := Lib.hid (show (hPlace (R.getD k []) = k ∧ hCount (R.getD k []) = n ∧ hSeq (R.getD k []) = z ∧ (k + 1 = n ∨ (R.getD k []).length = 472) ∧ ¬ (k + 1 = n ∧ 0 < k ∧ (R.getD k []).length = 12)) → ∀ j, j < k + 1 → okAt R z j (R.getD j []) = true from fun h j hj => by
        rcases Nat.lt_or_ge j k with h' | h'
        · exact hokj j h'
        · obtain rfl : j = k := by omega
          exact (OI.out j).2 ⟨hh, h⟩)
      have hs0 : k = 0 → hSeq (R.getD k []) = z := fun h => by rw [h]; exact FS.out
      have SRC : Hid ((d1 = 12 → Src Try.prog 1 22 (.slice A1 0 0) 0 (bv ((R.getD k []).drop 12)) wr) ∧ (12 < d1 → Src Try.prog 1 22 (.slice (Option.map (fun x => x.add 12) A1) ((R.getD k []).length - 12) (d1 - 12)) ((R.getD k []).length - 12) (bv ((R.getD k []).drop 12)) wr)) := by
        refine ⟨fun h => ?_, fun h => ?_⟩
        · rw [show (R.getD k []).drop 12 = [] from List.drop_eq_nil_of_le (by omega)]
          exact src_empty A1 0 wr
        · have h := y1'.piece (A' := Option.map (fun x => x.add 12) A1) (lo := 12) (m := (R.getD k []).length - 12) (c' := d1 - 12) (by omega) (fun _ a ha => by rw [ha]; rfl) (by omega) (by unfold maxLen at *; omega) (fun hh => by rcases A1 with _ | a; (have := hd3 rfl; omega); (cases hh))
          rw [hq] at h
          have hs := By.src (P := Try.prog) h Try.underlying22
          rwa [List.length_drop] at hs
      have HO := Lib.hid (And.intro ho hbel)
      have NXK := Lib.hid (NX.out k hlt)
      have OTH := Lib.hid (fun (h : headOk (R.getD k []) = true ∧ hPlace (R.getD k []) = k ∧ hCount (R.getD k []) = n ∧ hSeq (R.getD k []) = z ∧ (k + 1 = n ∨ (R.getD k []).length = 472) ∧ ¬ (k + 1 = n ∧ 0 < k ∧ (R.getD k []).length = 12)) => h)
      clear ho hbel hokj y1 y1' hh hq hm
      have NP2 : Hid (¬ (hPlace (R.getD k []) = k ∧ hCount (R.getD k []) = n ∧ hSeq (R.getD k []) = z ∧ (k + 1 = n ∨ (R.getD k []).length = 472) ∧ ¬ (k + 1 = n ∧ 0 < k ∧ (R.getD k []).length = 12)) → JoinPost w R (.returned (.tuple #[.int .i64 0, .slice none 0 0, .bool false])) wr) := fun h => NP.out (fun h2 => h h2.2)
      clear NP OTH
      generalize (R.getD k []).length = n1 at *
      generalize hPlace (R.getD k []) = a at *
      generalize hCount (R.getD k []) = b at *
      generalize hSeq (R.getD k []) = s at *
      by_cases hk0 : k = 0
      · have hsz := hs0 hk0
        subst hsz
        rw [if_pos hk0]
        have ek : ((k : Int) == 0) = true := by rw [beq_iff_eq]; omega
        have e3 : (s != s) = false := by simp
        have HZ : Hid (s = s) := rfl
        have hk00 : k ≤ 0 := by omega
        clear hk0
        clear hs0
        by_cases h1 : ¬ a = k
        · have FN := Lib.hid (NP2.out (fun h => h1 h.1))
          have e1 : ((a : Int) != (k : Int)) = true := by rw [bne_iff_ne]; omega
          clear SRC OKK NP2
          go_wp2_with (go_at_call 23; refine HD.out.mono ?_; rintro e w1 ⟨rfl, rfl⟩)
          go_ret3
          exact FN.out
        have e1 : ((a : Int) != (k : Int)) = false := by rw [bne_eq_false_iff_eq]; omega
        by_cases h2 : ¬ b = n
        · have FN := Lib.hid (NP2.out (fun h => h2 h.2.1))
          have e2 : ((b : Int) != (n : Int)) = true := by rw [bne_iff_ne]; omega
          clear SRC OKK NP2
          go_wp2_with (go_at_call 23; refine HD.out.mono ?_; rintro e w1 ⟨rfl, rfl⟩)
          go_ret3
          exact FN.out
        have e2 : ((b : Int) != (n : Int)) = false := by rw [bne_eq_false_iff_eq]; omega
        by_cases hlast : k + 1 = n
        · have el : ((k : Int) == (n : Int) - 1) = true := by rw [beq_iff_eq]; omega
          have f0 : ¬ (0 : Int) < (k : Int) := by omega
          have f00 : (k : Int) ≤ 0 := by omega
          have NS := Lib.hid (OKK.out ⟨by omega, by omega, by first | exact HZ.out | assumption, by omega, by omega⟩)
          by_cases hcap : d1 = 12
          · have hn12 : n1 = 12 := by omega
            have SR := Lib.hid (SRC.out.1 hcap)
            subst hcap
            subst hn12
            clear SRC
            go_wp2_with (first
              | (go_at_call 23; refine HD.out.mono ?_; rintro e w1 ⟨rfl, rfl⟩)
              | (at_builtin; refine wpList_append_gen _ rfl _ _ _ _ rfl w.heap.size 5 ib _ 1 1 Try.underlying22 hib hb0 hb1 hb2 rfl _ m _ rfl HO.out.1 _ _ _ rfl SR.out ?c1 ?c2 ?c3 ?_))
            case c1 => unfold maxLen; omega
            case c2 => omega
            case c3 => exact HO.out.2.size
            intro v2 w2 ho2 hk2 _
            have N2 := Lib.hid (show (∃ m, Own w2 w.heap.size 5 1 v2 m (bv (joinB (R.take (k + 1))))) ∧ Below w.heap.size w w2 ∧ ∀ j, j < k + 1 → okAt R s j (R.getD j []) = true from
              ⟨⟨_, by rw [NXK.out, bv_append]; exact ho2⟩, append_below0 HO.out.2 HO.out.1 hk2, NS.out⟩)
            clear ho2 hk2
            go_wp2
            go_roundw
            case rel => exact ⟨k + 1, by omega, by rw [if_neg (by omega)], by go_num, N2⟩
            case measure => simp [intOf]; omega
          · have hcap' : 12 < d1 := by omega
            have SR := Lib.hid (SRC.out.2 hcap')
            clear SRC
            go_wp2_with (first
              | (go_at_call 23; refine HD.out.mono ?_; rintro e w1 ⟨rfl, rfl⟩)
              | (at_builtin; refine wpList_append_gen _ rfl _ _ _ _ rfl w.heap.size 5 ib _ 1 1 Try.underlying22 hib hb0 hb1 hb2 rfl _ m _ rfl HO.out.1 _ _ _ rfl SR.out ?c1 ?c2 ?c3 ?_))
            case c1 => unfold maxLen; omega
            case c2 => omega
            case c3 => exact HO.out.2.size
            intro v2 w2 ho2 hk2 _
            have N2 := Lib.hid (show (∃ m, Own w2 w.heap.size 5 1 v2 m (bv (joinB (R.take (k + 1))))) ∧ Below w.heap.size w w2 ∧ ∀ j, j < k + 1 → okAt R s j (R.getD j []) = true from
              ⟨⟨_, by rw [NXK.out, bv_append]; exact ho2⟩, append_below0 HO.out.2 HO.out.1 hk2, NS.out⟩)
            clear ho2 hk2
            go_wp2
            go_roundw
            case rel => exact ⟨k + 1, by omega, by rw [if_neg (by omega)], by go_num, N2⟩
            case measure => simp [intOf]; omega
        · have el : ((k : Int) == (n : Int) - 1) = false := by rw [beq_eq_false_iff_ne]; omega
          by_cases h472 : ¬ n1 = 472
          · have FN := Lib.hid (NP2.out (fun h => by have := h.2.2.2.1; omega))
            have e4 : ((n1 : Int) != 472) = true := by rw [bne_iff_ne]; omega
            clear SRC OKK NP2
            go_wp2_with (go_at_call 23; refine HD.out.mono ?_; rintro e w1 ⟨rfl, rfl⟩)
            go_ret3
            exact FN.out
          have e4 : ((n1 : Int) != 472) = false := by rw [bne_eq_false_iff_eq]; omega
          have NS := Lib.hid (OKK.out ⟨by omega, by omega, by first | exact HZ.out | assumption, by omega, by omega⟩)
          by_cases hcap : d1 = 12
          · exfalso; omega
          · have hcap' : 12 < d1 := by omega
            have SR := Lib.hid (SRC.out.2 hcap')
            clear SRC
            go_wp2_with (first
              | (go_at_call 23; refine HD.out.mono ?_; rintro e w1 ⟨rfl, rfl⟩)
              | (at_builtin; refine wpList_append_gen _ rfl _ _ _ _ rfl w.heap.size 5 ib _ 1 1 Try.underlying22 hib hb0 hb1 hb2 rfl _ m _ rfl HO.out.1 _ _ _ rfl SR.out ?c1 ?c2 ?c3 ?_))
            case c1 => unfold maxLen; omega
            case c2 => omega
            case c3 => exact HO.out.2.size
            intro v2 w2 ho2 hk2 _
            have N2 := Lib.hid (show (∃ m, Own w2 w.heap.size 5 1 v2 m (bv (joinB (R.take (k + 1))))) ∧ Below w.heap.size w w2 ∧ ∀ j, j < k + 1 → okAt R s j (R.getD j []) = true from
              ⟨⟨_, by rw [NXK.out, bv_append]; exact ho2⟩, append_below0 HO.out.2 HO.out.1 hk2, NS.out⟩)
            clear ho2 hk2
            go_wp2
            go_roundw
            case rel => exact ⟨k + 1, by omega, by rw [if_neg (by omega)], by go_num, N2⟩
            case measure => simp [intOf]; omega
      · have ek : ((k : Int) == 0) = false := by rw [beq_eq_false_iff_ne]; omega
        rw [if_neg hk0]
        clear hs0
        by_cases h1 : ¬ a = k
        · have FN := Lib.hid (NP2.out (fun h => h1 h.1))
          have e1 : ((a : Int) != (k : Int)) = true := by rw [bne_iff_ne]; omega
          clear SRC OKK NP2
          go_wp2_with (go_at_call 23; refine HD.out.mono ?_; rintro e w1 ⟨rfl, rfl⟩)
          go_ret3
          exact FN.out
        have e1 : ((a : Int) != (k : Int)) = false := by rw [bne_eq_false_iff_eq]; omega
        by_cases h2 : ¬ b = n
        · have FN := Lib.hid (NP2.out (fun h => h2 h.2.1))
          have e2 : ((b : Int) != (n : Int)) = true := by rw [bne_iff_ne]; omega
          clear SRC OKK NP2
          go_wp2_with (go_at_call 23; refine HD.out.mono ?_; rintro e w1 ⟨rfl, rfl⟩)
          go_ret3
          exact FN.out
        have e2 : ((b : Int) != (n : Int)) = false := by rw [bne_eq_false_iff_eq]; omega
        by_cases h3 : ¬ s = z
        · have FN := Lib.hid (NP2.out (fun h => h3 h.2.2.1))
          have e3 : (s != z) = true := by rw [bne_iff_ne]; exact h3
          clear SRC OKK NP2
          go_wp2_with (go_at_call 23; refine HD.out.mono ?_; rintro e w1 ⟨rfl, rfl⟩)
          go_ret3
          exact FN.out
        have h3 := Decidable.not_not.1 h3
        subst h3
        have e3 : (s != s) = false := by simp
        have HZ : Hid (s = s) := rfl
        by_cases hlast : k + 1 = n
        · have el : ((k : Int) == (n : Int) - 1) = true := by rw [beq_iff_eq]; omega
          have f0 : (0 : Int) < (k : Int) := by omega
          by_cases h12 : n1 = 12
          · have FN := Lib.hid (NP2.out (fun h => h.2.2.2.2 ⟨hlast, by omega, h12⟩))
            have e5 : ((n1 : Int) == 12) = true := by rw [beq_iff_eq]; omega
            clear SRC OKK NP2 h12
            go_wp2_with (go_at_call 23; refine HD.out.mono ?_; rintro e w1 ⟨rfl, rfl⟩)
            go_ret3
            exact FN.out
          have e5 : ((n1 : Int) == 12) = false := by rw [beq_eq_false_iff_ne]; omega
          have NS := Lib.hid (OKK.out ⟨by omega, by omega, by first | exact HZ.out | assumption, by omega, by omega⟩)
          by_cases hcap : d1 = 12
          · exfalso; omega
          · have hcap' : 12 < d1 := by omega
            have SR := Lib.hid (SRC.out.2 hcap')
            clear SRC
            go_wp2_with (first
              | (go_at_call 23; refine HD.out.mono ?_; rintro e w1 ⟨rfl, rfl⟩)
              | (at_builtin; refine wpList_append_gen _ rfl _ _ _ _ rfl w.heap.size 5 ib _ 1 1 Try.underlying22 hib hb0 hb1 hb2 rfl _ m _ rfl HO.out.1 _ _ _ rfl SR.out ?c1 ?c2 ?c3 ?_))
            case c1 => unfold maxLen; omega
            case c2 => omega
            case c3 => exact HO.out.2.size
            intro v2 w2 ho2 hk2 _
            have N2 := Lib.hid (show (∃ m, Own w2 w.heap.size 5 1 v2 m (bv (joinB (R.take (k + 1))))) ∧ Below w.heap.size w w2 ∧ ∀ j, j < k + 1 → okAt R s j (R.getD j []) = true from
              ⟨⟨_, by rw [NXK.out, bv_append]; exact ho2⟩, append_below0 HO.out.2 HO.out.1 hk2, NS.out⟩)
            clear ho2 hk2
            go_wp2
            go_roundw
            case rel => exact ⟨k + 1, by omega, by rw [if_neg (by omega)], by go_num, N2⟩
            case measure => simp [intOf]; omega
        · have el : ((k : Int) == (n : Int) - 1) = false := by rw [beq_eq_false_iff_ne]; omega
          by_cases h472 : ¬ n1 = 472
          · have FN := Lib.hid (NP2.out (fun h => by have := h.2.2.2.1; omega))
            have e4 : ((n1 : Int) != 472) = true := by rw [bne_iff_ne]; omega
            clear SRC OKK NP2
            go_wp2_with (go_at_call 23; refine HD.out.mono ?_; rintro e w1 ⟨rfl, rfl⟩)
            go_ret3
            exact FN.out
          have e4 : ((n1 : Int) != 472) = false := by rw [bne_eq_false_iff_eq]; omega
          have NS := Lib.hid (OKK.out ⟨by omega, by omega, by first | exact HZ.out | assumption, by omega, by omega⟩)
          by_cases hcap : d1 = 12
          · exfalso; omega
          · have hcap' : 12 < d1 := by omega
            have SR := Lib.hid (SRC.out.2 hcap')
            clear SRC
            go_wp2_with (first
              | (go_at_call 23; refine HD.out.mono ?_; rintro e w1 ⟨rfl, rfl⟩)
              | (at_builtin; refine wpList_append_gen _ rfl _ _ _ _ rfl w.heap.size 5 ib _ 1 1 Try.underlying22 hib hb0 hb1 hb2 rfl _ m _ rfl HO.out.1 _ _ _ rfl SR.out ?c1 ?c2 ?c3 ?_))
            case c1 => unfold maxLen; omega
            case c2 => omega
            case c3 => exact HO.out.2.size
            intro v2 w2 ho2 hk2 _
            have N2 := Lib.hid (show (∃ m, Own w2 w.heap.size 5 1 v2 m (bv (joinB (R.take (k + 1))))) ∧ Below w.heap.size w w2 ∧ ∀ j, j < k + 1 → okAt R s j (R.getD j []) = true from
              ⟨⟨_, by rw [NXK.out, bv_append]; exact ho2⟩, append_below0 HO.out.2 HO.out.1 hk2, NS.out⟩)
            clear ho2 hk2
            go_wp2
            go_roundw
            case rel => exact ⟨k + 1, by omega, by rw [if_neg (by omega)], by go_num, N2⟩
            case measure => simp [intOf]; omega
    · obtain rfl : k = n := by omega
      obtain ⟨⟨m, ho⟩, hbel, hokj⟩ := hst.out
      rw [FULL.out] at ho
      obtain ⟨A8, c8, rfl, _⟩ := ho.form
      by_cases hz : k = 0
      · have FN := Lib.hid (NO.out wr hbel (EMP.out hz))
        have ek : ((k : Int) == 0) = true := by rw [beq_iff_eq]; omega
        clear ho hbel hokj
        generalize (if k = 0 then 0 else z) = sq at *
        go_wp2
        go_ret3
        exact FN.out
      · have FN := Lib.hid (YES.out wr A8 m c8 (OKA.out (by omega) hokj) (sl_by ho.sl) hbel)
        have ek : ((k : Int) == 0) = false := by rw [beq_eq_false_iff_ne]; omega
        rw [if_neg hz]
        clear ho hbel hokj
        go_wp2
        go_ret3
        exact FN.out
end Go.Proofs.Ytakchlaoimnnhaa

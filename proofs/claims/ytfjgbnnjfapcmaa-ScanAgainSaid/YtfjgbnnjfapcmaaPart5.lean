/- Contract of part.Join. -/
import Derived.Test.YtfjgbnnjfapcmaaPart1
namespace Go.Proofs.Ytfjgbnnjfapcmaa
open Go.RowKit
set_option maxRecDepth 100000
set_option linter.unusedVariables false

/-- What a join leaves. -/
def JoinPost (w : World) (R : List (List UInt8)) (e : Ending) (w' : World) : Prop :=
  ∃ A n c, e = .returned (.tuple #[.int .i64 (if joinOk R = true then firstSeq R else 0), .slice A n c, .bool (joinOk R)]) ∧ By w' (fun b => w.heap.size ≤ b) (.slice A n c) (if joinOk R = true then joinB R else []) ∧ Below w.heap.size w w'
theorem join_no {w w' : World} {R : List (List UInt8)} (h : ¬ progOk R) (hb : Below w.heap.size w w') : JoinPost w R (.returned (.tuple #[.int .i64 0, .slice none 0 0, .bool false])) w' := by
  have hj : joinOk R = false := by
    rw [Bool.eq_false_iff]; exact fun hh => h (prog_iff.2 hh)
  refine ⟨none, 0, 0, ?_, ?_, hb⟩
  · rw [hj]; simp
  · rw [hj]; exact By.nil _ _
theorem join_yes {w w' : World} {R : List (List UInt8)} {A : Option Addr} {n c : Nat} (h : progOk R) (hy : By w' (fun b => w.heap.size ≤ b) (.slice A n c) (joinB R)) (hb : Below w.heap.size w w') : JoinPost w R (.returned (.tuple #[.int .i64 (firstSeq R), .slice A n c, .bool true])) w' := by
  have hj := prog_iff.1 h
  refine ⟨A, n, c, ?_, ?_, hb⟩
  · rw [hj]; simp
  · rw [if_pos hj]; exact hy
theorem joinB_next {R : List (List UInt8)} {k : Nat} (h : k < R.length) : joinB (R.take (k + 1)) = joinB (R.take k) ++ (R.getD k []).drop 12 := by
  unfold joinB
  rw [List.take_add_one, List.flatMap_append, List.getD_eq_getElem?_getD, List.getElem?_eq_getElem h]
  simp
theorem joinB_take (R : List (List UInt8)) (k : Nat) : (joinB (R.take k)).length ≤ (joinB R).length := by
  have : joinB R = joinB (R.take k) ++ joinB (R.drop k) := by
    unfold joinB; rw [← List.flatMap_append, List.take_append_drop]
  rw [this, List.length_append]; omega

set_option maxHeartbeats 1000000 in
theorem pjoin_any (R : List (List UInt8)) (v : Value) (F : Nat → Prop) (w : World) (hv : Bys w F v R) (hB : (joinB R).length ≤ 1073741824) (hR : R.length ≤ 1073741824) (hP : ∀ r ∈ R, r.length ≤ 1099511627776) :
    Calls Try.prog 33 #[v] w (JoinPost w R) := by
  have hv0 := hv
  obtain ⟨A, c, rfl, hRc, hcm, hat⟩ := hv.form
  unfold maxLen at hcm
  obtain ⟨ib, hib, hb0, hb1, hb2⟩ := info_parts info_byte
  rcases Nat.eq_zero_or_pos R.length with h0 | h0
  · have hnil : R = [] := List.eq_nil_of_length_eq_zero h0
    have NO := Lib.hid (fun w' (hb : Below w.heap.size w w') => join_no (R := R) (fun h => h.1 hnil) hb)
    rw [h0]
    clear hat hv0 hv h0 hnil hRc
    go_enter Try.func33, Try.ntmps33
    go_wp2
    go_ret3
    exact NO.out _ (Below.refl _ _)
  obtain ⟨b0, o0, u0, rfl, x0, y0⟩ := hat 0 h0
  rw [Nat.add_zero] at x0
  have HD := Lib.hid (phead_any _ u0 F w y0 (hP _ (by rw [List.getD_eq_getElem?_getD, List.getElem?_eq_getElem h0]; exact List.getElem_mem _)))
  have hlen0 : ((R.length : Int) == 0) = false := by rw [beq_eq_false_iff_ne]; omega
  obtain ⟨A0, d0, rfl, _⟩ := y0
  have hnn : (R.getD 0 []).length = (R.getD 0 []).length := rfl
  by_cases hh : ¬ headOk (R.getD 0 []) = true
  · rw [headT_no (by simpa using hh)] at HD
    have NO := Lib.hid (fun w' (hb : Below w.heap.size w w') => join_no (R := R) (fun h => hh h.2.1) hb)
    generalize (R.getD 0 []).length = n0 at *
    generalize R.length = n at *
    clear hat hv0 hv hh hRc
    go_enter Try.func33, Try.ntmps33
    go_wp2_with (go_at_call 32; refine HD.out.mono ?_; rintro e w1 ⟨rfl, hb1⟩; have B1 := Lib.hid hb1; clear hb1)
    go_ret3
    exact NO.out _ B1.out
  have hh := Decidable.not_not.1 hh
  rw [headT_yes hh] at HD
  have hne : R ≠ [] := fun h => by rw [h] at h0; simp at h0
  have FS := Lib.hid (show hSeq (R.getD 0 []) = firstSeq R from rfl)
  rw [FS.out] at HD
  have NO := Lib.hid (fun w' (hb : Below w.heap.size w w') (h : ¬ progOk R) => join_no (R := R) h hb)
  have HA := Lib.hid hat
  have NX := Lib.hid (fun k (h : k < R.length) => joinB_next h)
  have LT := Lib.hid (fun k => Nat.le_trans (joinB_take R k) hB)
  have FULL := Lib.hid (show joinB (R.take R.length) = joinB R by rw [List.take_length])
  have GP := Lib.hid (show ∀ k, k < R.length → (R.getD k []).length < 12 → ¬ progOk R from fun k hk h hp => by
    have := hp.2.2.1 (R.getD k []) (by rw [List.getD_eq_getElem?_getD, List.getElem?_eq_getElem hk]; exact List.getElem_mem _)
    omega)
  have PK := Lib.hid (show (∀ k, k < R.length → 12 ≤ (R.getD k []).length) → splitL (firstSeq R) (joinB R) = R → progOk R from fun h1 h2 => ⟨hne, hh, fun q hq => by
    obtain ⟨i, hi, rfl⟩ := List.mem_iff_getElem.1 hq
    have := h1 i hi
    rw [List.getD_eq_getElem?_getD, List.getElem?_eq_getElem hi] at this
    exact this, h2⟩)
  have PS := Lib.hid (show progOk R → splitL (firstSeq R) (joinB R) = R from fun h => h.2.2.2)
  have YES := Lib.hid (fun w' A n c (h : progOk R) hy hb => @join_yes w w' R A n c h hy hb)
  have SP := Lib.hid (fun W u G (hu : By W G u (joinB R)) => psplit_any (firstSeq R) (joinB R) u G W hu (by omega))
  have HV := Lib.hid hv0
  have PB := Lib.hid (show ∀ k, k < R.length → (R.getD k []).length ≤ 1099511627776 from fun k hk => hP _ (by rw [List.getD_eq_getElem?_getD, List.getElem?_eq_getElem hk]; exact List.getElem_mem _))
  clear hat hv0 hv hh hP hB hne hnn
  generalize firstSeq R = z at *
  generalize (R.getD 0 []).length = n0 at *
  generalize (hPlace (R.getD 0 []) : Int) = p0 at *
  generalize (hCount (R.getD 0 []) : Int) = q0 at *
  generalize hn : R.length = n at *
  clear hn
  go_enter Try.func33, Try.ntmps33
  go_wp2_with (go_at_call 32; refine HD.out.mono ?_; rintro e w1 ⟨rfl, hb1⟩; have B1 := Lib.hid hb1; clear hb1)
  go_loopw [2, 3, 23] (fun s u i wr => ∃ k : Nat, k ≤ n ∧ s = .int .i64 z ∧ i = .int .i64 k ∧ Hid ((∃ m, Own wr w.heap.size 5 1 u m (bv (joinB (R.take k)))) ∧ Below w.heap.size w wr ∧ ∀ j, j < k → 12 ≤ (R.getD j []).length)) (fun _ _ i _ => n - (intOf i).toNat)
  case atStart => exact ⟨0, by omega, rfl, rfl, Lib.hid ⟨⟨0, Own.none_ _ _ _ _ _⟩, B1.out, fun j hj => by omega⟩⟩
  case round =>
    obtain ⟨k, hk, rfl, rfl, hst⟩ := hrel
    by_cases hlt : k < n
    · obtain ⟨b1, o1, u1, e1, x1, y1⟩ := HA.out k hlt
      injection e1 with e1
      injection e1 with e1 e2
      subst e1 e2
      obtain ⟨⟨m, ho⟩, hbel, hlong⟩ := hst.out
      have y1' := y1.below hbel
      have x1' : wr.cell? ⟨b0, o0 + k, none⟩ = some u1 := (Keep.of_below' hbel).cell (fun h => h) x1
      obtain ⟨A1, d1, rfl, hd1, hd2, hd3, _⟩ := id y1
      have hpb := PB.out k hlt
      have f1 : (k : Int) < (n : Int) := by omega
      clear x1
      by_cases h12 : (R.getD k []).length < 12
      · have NP := Lib.hid (NO.out wr hbel (GP.out k hlt h12))
        clear ho hbel hlong y1 y1'
        generalize (R.getD k []).length = n1 at *
        go_wp2
        go_ret3
        exact NP.out
      · have hm : m = (joinB (R.take k)).length := by have := ho.1; rw [bv_len] at this; omega
        have hL := LT.out k
        rw [← hm] at hL
        have hL1 := LT.out (k + 1)
        rw [NX.out k hlt, List.length_append, List.length_drop, ← hm] at hL1
        have G13 := Lib.hid (show ∀ j, j < k + 1 → 12 ≤ (R.getD j []).length from fun j hj => by
          rcases Nat.lt_or_ge j k with h | h
          · exact hlong j h
          · obtain rfl : j = k := by omega
            omega)
        have hq : ((R.getD k []).drop 12).take ((R.getD k []).length - 12) = (R.getD k []).drop 12 := List.take_of_length_le (by rw [List.length_drop]; exact Nat.le_refl _)
        by_cases hcap : d1 = 12
        · have hn12 : (R.getD k []).length = 12 := by omega
          have hdr : (R.getD k []).drop 12 = [] := List.drop_eq_nil_of_le (by omega)
          have hsrc : Src Try.prog 1 29 (.slice A1 0 0) 0 (bv ((R.getD k []).drop 12)) wr := by rw [hdr]; exact src_empty A1 0 wr
          clear hq hdr
          generalize (R.getD k []).length = n1 at *
          subst hcap
          subst hn12
          have SRC := Lib.hid hsrc
          have HO := Lib.hid (And.intro ho (And.intro hbel hlong))
          have NXK := Lib.hid (NX.out k hlt)
          clear hsrc y1 y1' ho hbel hlong hm
          go_wp2_with (at_builtin; refine wpList_append_gen _ rfl _ _ _ _ rfl w.heap.size 5 ib _ 1 1 Try.underlying29 hib hb0 hb1 hb2 rfl _ m _ rfl HO.out.1 _ _ _ rfl SRC.out ?c1 ?c2 ?c3 ?_)
          case c1 => unfold maxLen; omega
          case c2 => omega
          case c3 => exact HO.out.2.1.size
          intro v2 w2 ho2 hk2 _
          have NS := Lib.hid (show (∃ m, Own w2 w.heap.size 5 1 v2 m (bv (joinB (R.take (k + 1))))) ∧ Below w.heap.size w w2 ∧ ∀ j, j < k + 1 → 12 ≤ (R.getD j []).length from
            ⟨⟨_, by rw [NXK.out, bv_append]; exact ho2⟩, append_below0 HO.out.2.1 HO.out.1 hk2, G13.out⟩)
          clear ho2 hk2
          go_wp2
          go_roundw
          case rel => exact ⟨k + 1, by omega, rfl, by go_num, NS⟩
          case measure => simp [intOf]; omega
        · have hcap' : 12 < d1 := by omega
          have hsrc : Src Try.prog 1 29 (.slice (Option.map (fun x => x.add 12) A1) ((R.getD k []).length - 12) (d1 - 12)) ((R.getD k []).length - 12) (bv ((R.getD k []).drop 12)) wr := by
            have h := y1'.piece (A' := Option.map (fun x => x.add 12) A1) (lo := 12) (m := (R.getD k []).length - 12) (c' := d1 - 12) (by omega) (fun _ a ha => by rw [ha]; rfl) (by omega) (by unfold maxLen at *; omega) (fun hh => by rcases A1 with _ | a; (have := hd3 rfl; omega); (cases hh))
            rw [hq] at h
            have hs := By.src (P := Try.prog) h Try.underlying29
            rwa [List.length_drop] at hs
          clear hq
          have SRC := Lib.hid hsrc
          have HO := Lib.hid (And.intro ho (And.intro hbel hlong))
          have NXK := Lib.hid (NX.out k hlt)
          clear hsrc y1 y1' ho hbel hlong hm
          generalize (R.getD k []).length = n1 at *
          go_wp2_with (at_builtin; refine wpList_append_gen _ rfl _ _ _ _ rfl w.heap.size 5 ib _ 1 1 Try.underlying29 hib hb0 hb1 hb2 rfl _ m _ rfl HO.out.1 _ _ _ rfl SRC.out ?c1 ?c2 ?c3 ?_)
          case c1 => unfold maxLen; omega
          case c2 => omega
          case c3 => exact HO.out.2.1.size
          intro v2 w2 ho2 hk2 _
          have NS := Lib.hid (show (∃ m, Own w2 w.heap.size 5 1 v2 m (bv (joinB (R.take (k + 1))))) ∧ Below w.heap.size w w2 ∧ ∀ j, j < k + 1 → 12 ≤ (R.getD j []).length from
            ⟨⟨_, by rw [NXK.out, bv_append]; exact ho2⟩, append_below0 HO.out.2.1 HO.out.1 hk2, G13.out⟩)
          clear ho2 hk2
          go_wp2
          go_roundw
          case rel => exact ⟨k + 1, by omega, rfl, by go_num, NS⟩
          case measure => simp [intOf]; omega
    · obtain rfl : k = n := by omega
      obtain ⟨⟨m, ho⟩, hbel, hlong⟩ := hst.out
      rw [FULL.out] at ho
      obtain ⟨A8, c8, rfl, _⟩ := ho.form
      have HO := Lib.hid (And.intro (sl_by ho.sl) (And.intro hbel hlong))
      clear ho hbel hlong hst
      go_wp2_with fail
      refine (SP.out _ _ _ HO.out.1).mono ?_
      rintro e w2 ⟨u2, rfl, hls, hb2⟩
      obtain ⟨A9, c9, rfl⟩ := hls.form
      have H2 := Lib.hid (And.intro hls hb2)
      clear hls hb2
      have EF := Lib.hid (efun_any (splitL z (joinB R)) R _ _ _ _ w2 H2.out.1.bys (HV.out.keep (S := fun _ => False) (Keep.trans (T := fun _ => False) (Keep.of_below' HO.out.2.1) (Keep.of_below' H2.out.2) (fun _ _ h => h)) (fun _ _ _ h => h)))
      have BL := Lib.hid (show Below w.heap.size w w2 from HO.out.2.1.trans (H2.out.2.mono HO.out.2.1.size))
      have BY := Lib.hid (show By w2 (fun b => w.heap.size ≤ b) (.slice A8 m c8) (joinB R) from HO.out.1.keep (Keep.of_below' H2.out.2) (fun _ _ _ h => h))
      by_cases hs : splitL z (joinB R) = R
      · have FIN := Lib.hid (YES.out w2 A8 m c8 (PK.out HO.out.2.2 hs) BY.out BL.out)
        rw [decide_eq_true hs] at EF
        clear hs
        generalize (splitL z (joinB R)).length = n9 at *
        go_wp2_with (go_at_call 55; refine EF.out.mono ?_; rintro e w3 ⟨rfl, rfl⟩)
        go_ret3
        exact FIN.out
      · have FIN := Lib.hid (NO.out w2 BL.out (fun h => hs (PS.out h)))
        rw [decide_eq_false hs] at EF
        clear hs
        generalize (splitL z (joinB R)).length = n9 at *
        go_wp2_with (go_at_call 55; refine EF.out.mono ?_; rintro e w3 ⟨rfl, rfl⟩)
        go_ret3
        exact FIN.out
end Go.Proofs.Ytfjgbnnjfapcmaa
namespace Go.Proofs.Ytfjgbnnjfapcmaa
open Go.RowKit
set_option maxRecDepth 100000
set_option linter.unusedVariables false

theorem rjoin_no {w w' : World} {R : List (List UInt8)} (h : joinOk R = false) (hb : Below w.heap.size w w') : JoinPost w R (.returned (.tuple #[.int .i64 0, .slice none 0 0, .bool false])) w' :=
  join_no (fun hh => by rw [prog_iff.1 hh] at h; cases h) hb
theorem okAt_not {R : List (List UInt8)} {k : Nat} (hk : k < R.length) (h : okAt R (firstSeq R) k (R.getD k []) = false) : joinOk R = false := by
  rw [Bool.eq_false_iff]
  intro hj
  have := (joinOk_iff.1 hj).2 k (R.getD k []) (by rw [List.getD_eq_getElem?_getD, List.getElem?_eq_getElem hk]; rfl)
  rw [this] at h
  cases h
theorem okAt_all {R : List (List UInt8)} (hne : 0 < R.length) (h : ∀ k, k < R.length → okAt R (firstSeq R) k (R.getD k []) = true) : joinOk R = true := by
  rw [joinOk_iff]
  refine ⟨fun e => by rw [e] at hne; simp at hne, fun i q hq => ?_⟩
  have hi := (List.getElem?_eq_some_iff.1 hq).1
  have := h i hi
  rw [List.getD_eq_getElem?_getD, hq] at this
  exact this

set_option maxHeartbeats 4000000 in
theorem rjoin_any (R : List (List UInt8)) (v : Value) (F : Nat → Prop) (w : World) (hv : Bys w F v R) (hB : (joinB R).length ≤ 1073741824) (hR : R.length ≤ 1073741824) :
    Calls Try.prog 36 #[v] w (JoinPost w R) := by
  obtain ⟨A, c, rfl, hRc, hcm, hat⟩ := hv.form
  unfold maxLen at hcm
  obtain ⟨ib, hib, hb0, hb1, hb2⟩ := info_parts info_byte
  have NO := Lib.hid (fun w' (hb : Below w.heap.size w w') (h : joinOk R = false) => rjoin_no (R := R) h hb)
  have HA := Lib.hid hat
  have NX := Lib.hid (fun k (h : k < R.length) => joinB_next h)
  have LT := Lib.hid (fun k => Nat.le_trans (joinB_take R k) hB)
  have FULL := Lib.hid (show joinB (R.take R.length) = joinB R by rw [List.take_length])
  have OKN := Lib.hid (fun k (hk : k < R.length) => @okAt_not R k hk)
  have OKA := Lib.hid (@okAt_all R)
  have EMP := Lib.hid (show R.length = 0 → joinOk R = false from fun h => by
    have : R = [] := List.eq_nil_of_length_eq_zero h
    subst this; rfl)
  have YES := Lib.hid (fun w' A n c (h : joinOk R = true) hy hb => @join_yes w w' R A n c (prog_iff.2 h) hy hb)
  have FS := Lib.hid (show hSeq (R.getD 0 []) = firstSeq R from rfl)
  have OI := Lib.hid (fun k => @okAt_iff R (firstSeq R) k (R.getD k []))
  clear hat hv hB
  generalize firstSeq R = z at *
  generalize hn : R.length = n at *
  clear hn
  go_enter Try.func36, Try.ntmps36
  go_wp2
  go_loopw [5, 6, 7] (fun u s i wr => ∃ k : Nat, k ≤ n ∧ s = .int .i64 (if k = 0 then 0 else z) ∧ i = .int .i64 k ∧ Hid ((∃ m, Own wr w.heap.size 5 1 u m (bv (joinB (R.take k)))) ∧ Below w.heap.size w wr ∧ ∀ j, j < k → okAt R z j (R.getD j []) = true)) (fun _ _ i _ => n - (intOf i).toNat)
  case atStart => exact ⟨0, by omega, by rw [if_pos rfl], rfl, Lib.hid ⟨⟨0, Own.none_ _ _ _ _ _⟩, Below.refl _ _, fun j hj => by omega⟩⟩
  case round =>
    obtain ⟨k, hk, rfl, rfl, hst⟩ := hrel
    by_cases hlt : k < n
    · obtain ⟨b1, o1, u1, e1, x1, y1⟩ := HA.out k hlt
      subst e1
      obtain ⟨⟨m, ho⟩, hbel, hokj⟩ := hst.out
      have y1' := y1.below hbel
      have x1' : wr.cell? ⟨b1, o1 + k, none⟩ = some u1 := (Keep.of_below' hbel).cell (fun h => h) x1
      obtain ⟨A1, d1, rfl, hd1, hd2, hd3, _⟩ := id y1
      have HD := Lib.hid (rhead_any _ _ _ wr y1')
      have f1 : (k : Int) < (n : Int) := by omega
      have BW := Lib.hid hbel
      clear x1
      by_cases hh : ¬ headOk (R.getD k []) = true
      · rw [headT_no (by simpa using hh)] at HD
        have NP := Lib.hid (NO.out wr hbel (OKN.out k hlt (by
          rw [Bool.eq_false_iff, Ne, OI.out k]; exact fun h => hh h.1)))
        clear ho hbel hokj y1 y1' hh
        generalize (R.getD k []).length = n1 at *
        generalize (if k = 0 then 0 else z) = sq at *
        go_wp2_with (go_at_call 35; refine HD.out.mono ?_; rintro e w1 ⟨rfl, rfl⟩)
        all_goals
          go_ret3
          exact NP.out
      have hh := Decidable.not_not.1 hh
      rw [headT_yes hh] at HD
      have hm : m = (joinB (R.take k)).length := by have := ho.1; rw [bv_len] at this; omega
      have hL1 := LT.out (k + 1)
      rw [NX.out k hlt, List.length_append, List.length_drop, ← hm] at hL1
      have hlong := (headOk_iff.1 hh).1
      have hq : ((R.getD k []).drop 12).take ((R.getD k []).length - 12) = (R.getD k []).drop 12 := List.take_of_length_le (by rw [List.length_drop]; exact Nat.le_refl _)
      have NP := Lib.hid (fun h => NO.out wr hbel (OKN.out k hlt (show okAt R z k (R.getD k []) = false by rw [Bool.eq_false_iff, Ne, OI.out k]; exact h)))
      have OKK := Lib.hid (show (hPlace (R.getD k []) = k ∧ hCount (R.getD k []) = n ∧ hSeq (R.getD k []) = z ∧ (k + 1 = n ∨ (R.getD k []).length = 472) ∧ ¬ (k + 1 = n ∧ 0 < k ∧ (R.getD k []).length = 12)) → ∀ j, j < k + 1 → okAt R z j (R.getD j []) = true from fun h j hj => by
        rcases Nat.lt_or_ge j k with h' | h'
        · exact hokj j h'
        · obtain rfl : j = k := by omega
          exact (OI.out j).2 ⟨hh, h⟩)
      have hs0 : k = 0 → hSeq (R.getD k []) = z := fun h => by rw [h]; exact FS.out
      have SRC : Hid ((d1 = 12 → Src Try.prog 1 29 (.slice A1 0 0) 0 (bv ((R.getD k []).drop 12)) wr) ∧ (12 < d1 → Src Try.prog 1 29 (.slice (Option.map (fun x => x.add 12) A1) ((R.getD k []).length - 12) (d1 - 12)) ((R.getD k []).length - 12) (bv ((R.getD k []).drop 12)) wr)) := by
        refine ⟨fun h => ?_, fun h => ?_⟩
        · rw [show (R.getD k []).drop 12 = [] from List.drop_eq_nil_of_le (by omega)]
          exact src_empty A1 0 wr
        · have h := y1'.piece (A' := Option.map (fun x => x.add 12) A1) (lo := 12) (m := (R.getD k []).length - 12) (c' := d1 - 12) (by omega) (fun _ a ha => by rw [ha]; rfl) (by omega) (by unfold maxLen at *; omega) (fun hh => by rcases A1 with _ | a; (have := hd3 rfl; omega); (cases hh))
          rw [hq] at h
          have hs := By.src (P := Try.prog) h Try.underlying29
          rwa [List.length_drop] at hs
      have HO := Lib.hid (And.intro ho hbel)
      have NXK := Lib.hid (NX.out k hlt)
      have OTH := Lib.hid (fun (h : headOk (R.getD k []) = true ∧ hPlace (R.getD k []) = k ∧ hCount (R.getD k []) = n ∧ hSeq (R.getD k []) = z ∧ (k + 1 = n ∨ (R.getD k []).length = 472) ∧ ¬ (k + 1 = n ∧ 0 < k ∧ (R.getD k []).length = 12)) => h)
      clear ho hbel hokj y1 y1' hh hq hm
      have NP2 : Hid (¬ (hPlace (R.getD k []) = k ∧ hCount (R.getD k []) = n ∧ hSeq (R.getD k []) = z ∧ (k + 1 = n ∨ (R.getD k []).length = 472) ∧ ¬ (k + 1 = n ∧ 0 < k ∧ (R.getD k []).length = 12)) → JoinPost w R (.returned (.tuple #[.int .i64 0, .slice none 0 0, .bool false])) wr) := fun h => NP.out (fun h2 => h h2.2)
      clear NP OTH
      generalize (R.getD k []).length = n1 at *
      generalize hPlace (R.getD k []) = a at *
      generalize hCount (R.getD k []) = b at *
      generalize hSeq (R.getD k []) = s at *
      by_cases hk0 : k = 0
      · have hsz := hs0 hk0
        subst hsz
        rw [if_pos hk0]
        have ek : ((k : Int) == 0) = true := by rw [beq_iff_eq]; omega
        have e3 : (s != s) = false := by simp
        have HZ : Hid (s = s) := rfl
        have hk00 : k ≤ 0 := by omega
        clear hk0
        clear hs0
        by_cases h1 : ¬ a = k
        · have FN := Lib.hid (NP2.out (fun h => h1 h.1))
          have e1 : ((a : Int) != (k : Int)) = true := by rw [bne_iff_ne]; omega
          clear SRC OKK NP2
          go_wp2_with (go_at_call 35; refine HD.out.mono ?_; rintro e w1 ⟨rfl, rfl⟩)
          go_ret3
          exact FN.out
        have e1 : ((a : Int) != (k : Int)) = false := by rw [bne_eq_false_iff_eq]; omega
        by_cases h2 : ¬ b = n
        · have FN := Lib.hid (NP2.out (fun h => h2 h.2.1))
          have e2 : ((b : Int) != (n : Int)) = true := by rw [bne_iff_ne]; omega
          clear SRC OKK NP2
          go_wp2_with (go_at_call 35; refine HD.out.mono ?_; rintro e w1 ⟨rfl, rfl⟩)
          go_ret3
          exact FN.out
        have e2 : ((b : Int) != (n : Int)) = false := by rw [bne_eq_false_iff_eq]; omega
        by_cases hlast : k + 1 = n
        · have el : ((k : Int) == (n : Int) - 1) = true := by rw [beq_iff_eq]; omega
          have f0 : ¬ (0 : Int) < (k : Int) := by omega
          have f00 : (k : Int) ≤ 0 := by omega
          have NS := Lib.hid (OKK.out ⟨by omega, by omega, by first | exact HZ.out | assumption, by omega, by omega⟩)
          by_cases hcap : d1 = 12
          · have hn12 : n1 = 12 := by omega
            have SR := Lib.hid (SRC.out.1 hcap)
            subst hcap
            subst hn12
            clear SRC
            go_wp2_with (first
              | (go_at_call 35; refine HD.out.mono ?_; rintro e w1 ⟨rfl, rfl⟩)
              | (at_builtin; refine wpList_append_gen _ rfl _ _ _ _ rfl w.heap.size 5 ib _ 1 1 Try.underlying29 hib hb0 hb1 hb2 rfl _ m _ rfl HO.out.1 _ _ _ rfl SR.out ?c1 ?c2 ?c3 ?_))
            case c1 => unfold maxLen; omega
            case c2 => omega
            case c3 => exact HO.out.2.size
            intro v2 w2 ho2 hk2 _
            have N2 := Lib.hid (show (∃ m, Own w2 w.heap.size 5 1 v2 m (bv (joinB (R.take (k + 1))))) ∧ Below w.heap.size w w2 ∧ ∀ j, j < k + 1 → okAt R s j (R.getD j []) = true from
              ⟨⟨_, by rw [NXK.out, bv_append]; exact ho2⟩, append_below0 HO.out.2 HO.out.1 hk2, NS.out⟩)
            clear ho2 hk2
            go_wp2
            go_roundw
            case rel => exact ⟨k + 1, by omega, by rw [if_neg (by omega)], by go_num, N2⟩
            case measure => simp [intOf]; omega
          · have hcap' : 12 < d1 := by omega
            have SR := Lib.hid (SRC.out.2 hcap')
            clear SRC
            go_wp2_with (first
              | (go_at_call 35; refine HD.out.mono ?_; rintro e w1 ⟨rfl, rfl⟩)
              | (at_builtin; refine wpList_append_gen _ rfl _ _ _ _ rfl w.heap.size 5 ib _ 1 1 Try.underlying29 hib hb0 hb1 hb2 rfl _ m _ rfl HO.out.1 _ _ _ rfl SR.out ?c1 ?c2 ?c3 ?_))
            case c1 => unfold maxLen; omega
            case c2 => omega
            case c3 => exact HO.out.2.size
            intro v2 w2 ho2 hk2 _
            have N2 := Lib.hid (show (∃ m, Own w2 w.heap.size 5 1 v2 m (bv (joinB (R.take (k + 1))))) ∧ Below w.heap.size w w2 ∧ ∀ j, j < k + 1 → okAt R s j (R.getD j []) = true from
              ⟨⟨_, by rw [NXK.out, bv_append]; exact ho2⟩, append_below0 HO.out.2 HO.out.1 hk2, NS.out⟩)
            clear ho2 hk2
            go_wp2
            go_roundw
            case rel => exact ⟨k + 1, by omega, by rw [if_neg (by omega)], by go_num, N2⟩
            case measure => simp [intOf]; omega
        · have el : ((k : Int) == (n : Int) - 1) = false := by rw [beq_eq_false_iff_ne]; omega
          by_cases h472 : ¬ n1 = 472
          · have FN := Lib.hid (NP2.out (fun h => by have := h.2.2.2.1; omega))
            have e4 : ((n1 : Int) != 472) = true := by rw [bne_iff_ne]; omega
            clear SRC OKK NP2
            go_wp2_with (go_at_call 35; refine HD.out.mono ?_; rintro e w1 ⟨rfl, rfl⟩)
            go_ret3
            exact FN.out
          have e4 : ((n1 : Int) != 472) = false := by rw [bne_eq_false_iff_eq]; omega
          have NS := Lib.hid (OKK.out ⟨by omega, by omega, by first | exact HZ.out | assumption, by omega, by omega⟩)
          by_cases hcap : d1 = 12
          · exfalso; omega
          · have hcap' : 12 < d1 := by omega
            have SR := Lib.hid (SRC.out.2 hcap')
            clear SRC
            go_wp2_with (first
              | (go_at_call 35; refine HD.out.mono ?_; rintro e w1 ⟨rfl, rfl⟩)
              | (at_builtin; refine wpList_append_gen _ rfl _ _ _ _ rfl w.heap.size 5 ib _ 1 1 Try.underlying29 hib hb0 hb1 hb2 rfl _ m _ rfl HO.out.1 _ _ _ rfl SR.out ?c1 ?c2 ?c3 ?_))
            case c1 => unfold maxLen; omega
            case c2 => omega
            case c3 => exact HO.out.2.size
            intro v2 w2 ho2 hk2 _
            have N2 := Lib.hid (show (∃ m, Own w2 w.heap.size 5 1 v2 m (bv (joinB (R.take (k + 1))))) ∧ Below w.heap.size w w2 ∧ ∀ j, j < k + 1 → okAt R s j (R.getD j []) = true from
              ⟨⟨_, by rw [NXK.out, bv_append]; exact ho2⟩, append_below0 HO.out.2 HO.out.1 hk2, NS.out⟩)
            clear ho2 hk2
            go_wp2
            go_roundw
            case rel => exact ⟨k + 1, by omega, by rw [if_neg (by omega)], by go_num, N2⟩
            case measure => simp [intOf]; omega
      · have ek : ((k : Int) == 0) = false := by rw [beq_eq_false_iff_ne]; omega
        rw [if_neg hk0]
        clear hs0
        by_cases h1 : ¬ a = k
        · have FN := Lib.hid (NP2.out (fun h => h1 h.1))
          have e1 : ((a : Int) != (k : Int)) = true := by rw [bne_iff_ne]; omega
          clear SRC OKK NP2
          go_wp2_with (go_at_call 35; refine HD.out.mono ?_; rintro e w1 ⟨rfl, rfl⟩)
          go_ret3
          exact FN.out
        have e1 : ((a : Int) != (k : Int)) = false := by rw [bne_eq_false_iff_eq]; omega
        by_cases h2 : ¬ b = n
        · have FN := Lib.hid (NP2.out (fun h => h2 h.2.1))
          have e2 : ((b : Int) != (n : Int)) = true := by rw [bne_iff_ne]; omega
          clear SRC OKK NP2
          go_wp2_with (go_at_call 35; refine HD.out.mono ?_; rintro e w1 ⟨rfl, rfl⟩)
          go_ret3
          exact FN.out
        have e2 : ((b : Int) != (n : Int)) = false := by rw [bne_eq_false_iff_eq]; omega
        by_cases h3 : ¬ s = z
        · have FN := Lib.hid (NP2.out (fun h => h3 h.2.2.1))
          have e3 : (s != z) = true := by rw [bne_iff_ne]; exact h3
          clear SRC OKK NP2
          go_wp2_with (go_at_call 35; refine HD.out.mono ?_; rintro e w1 ⟨rfl, rfl⟩)
          go_ret3
          exact FN.out
        have h3 := Decidable.not_not.1 h3
        subst h3
        have e3 : (s != s) = false := by simp
        have HZ : Hid (s = s) := rfl
        by_cases hlast : k + 1 = n
        · have el : ((k : Int) == (n : Int) - 1) = true := by rw [beq_iff_eq]; omega
          have f0 : (0 : Int) < (k : Int) := by omega
          by_cases h12 : n1 = 12
          · have FN := Lib.hid (NP2.out (fun h => h.2.2.2.2 ⟨hlast, by omega, h12⟩))
            have e5 : ((n1 : Int) == 12) = true := by rw [beq_iff_eq]; omega
            clear SRC OKK NP2 h12
            go_wp2_with (go_at_call 35; refine HD.out.mono ?_; rintro e w1 ⟨rfl, rfl⟩)
            go_ret3
            exact FN.out
          have e5 : ((n1 : Int) == 12) = false := by rw [beq_eq_false_iff_ne]; omega
          have NS := Lib.hid (OKK.out ⟨by omega, by omega, by first | exact HZ.out | assumption, by omega, by omega⟩)
          by_cases hcap : d1 = 12
          · exfalso; omega
          · have hcap' : 12 < d1 := by omega
            have SR := Lib.hid (SRC.out.2 hcap')
            clear SRC
            go_wp2_with (first
              | (go_at_call 35; refine HD.out.mono ?_; rintro e w1 ⟨rfl, rfl⟩)
              | (at_builtin; refine wpList_append_gen _ rfl _ _ _ _ rfl w.heap.size 5 ib _ 1 1 Try.underlying29 hib hb0 hb1 hb2 rfl _ m _ rfl HO.out.1 _ _ _ rfl SR.out ?c1 ?c2 ?c3 ?_))
            case c1 => unfold maxLen; omega
            case c2 => omega
            case c3 => exact HO.out.2.size
            intro v2 w2 ho2 hk2 _
            have N2 := Lib.hid (show (∃ m, Own w2 w.heap.size 5 1 v2 m (bv (joinB (R.take (k + 1))))) ∧ Below w.heap.size w w2 ∧ ∀ j, j < k + 1 → okAt R s j (R.getD j []) = true from
              ⟨⟨_, by rw [NXK.out, bv_append]; exact ho2⟩, append_below0 HO.out.2 HO.out.1 hk2, NS.out⟩)
            clear ho2 hk2
            go_wp2
            go_roundw
            case rel => exact ⟨k + 1, by omega, by rw [if_neg (by omega)], by go_num, N2⟩
            case measure => simp [intOf]; omega
        · have el : ((k : Int) == (n : Int) - 1) = false := by rw [beq_eq_false_iff_ne]; omega
          by_cases h472 : ¬ n1 = 472
          · have FN := Lib.hid (NP2.out (fun h => by have := h.2.2.2.1; omega))
            have e4 : ((n1 : Int) != 472) = true := by rw [bne_iff_ne]; omega
            clear SRC OKK NP2
            go_wp2_with (go_at_call 35; refine HD.out.mono ?_; rintro e w1 ⟨rfl, rfl⟩)
            go_ret3
            exact FN.out
          have e4 : ((n1 : Int) != 472) = false := by rw [bne_eq_false_iff_eq]; omega
          have NS := Lib.hid (OKK.out ⟨by omega, by omega, by first | exact HZ.out | assumption, by omega, by omega⟩)
          by_cases hcap : d1 = 12
          · exfalso; omega
          · have hcap' : 12 < d1 := by omega
            have SR := Lib.hid (SRC.out.2 hcap')
            clear SRC
            go_wp2_with (first
              | (go_at_call 35; refine HD.out.mono ?_; rintro e w1 ⟨rfl, rfl⟩)
              | (at_builtin; refine wpList_append_gen _ rfl _ _ _ _ rfl w.heap.size 5 ib _ 1 1 Try.underlying29 hib hb0 hb1 hb2 rfl _ m _ rfl HO.out.1 _ _ _ rfl SR.out ?c1 ?c2 ?c3 ?_))
            case c1 => unfold maxLen; omega
            case c2 => omega
            case c3 => exact HO.out.2.size
            intro v2 w2 ho2 hk2 _
            have N2 := Lib.hid (show (∃ m, Own w2 w.heap.size 5 1 v2 m (bv (joinB (R.take (k + 1))))) ∧ Below w.heap.size w w2 ∧ ∀ j, j < k + 1 → okAt R s j (R.getD j []) = true from
              ⟨⟨_, by rw [NXK.out, bv_append]; exact ho2⟩, append_below0 HO.out.2 HO.out.1 hk2, NS.out⟩)
            clear ho2 hk2
            go_wp2
            go_roundw
            case rel => exact ⟨k + 1, by omega, by rw [if_neg (by omega)], by go_num, N2⟩
            case measure => simp [intOf]; omega
    · obtain rfl : k = n := by omega
      obtain ⟨⟨m, ho⟩, hbel, hokj⟩ := hst.out
      rw [FULL.out] at ho
      obtain ⟨A8, c8, rfl, _⟩ := ho.form
      by_cases hz : k = 0
      · have FN := Lib.hid (NO.out wr hbel (EMP.out hz))
        have ek : ((k : Int) == 0) = true := by rw [beq_iff_eq]; omega
        clear ho hbel hokj
        generalize (if k = 0 then 0 else z) = sq at *
        go_wp2
        go_ret3
        exact FN.out
      · have FN := Lib.hid (YES.out wr A8 m c8 (OKA.out (by omega) hokj) (sl_by ho.sl) hbel)
        have ek : ((k : Int) == 0) = false := by rw [beq_eq_false_iff_ne]; omega
        rw [if_neg hz]
        clear ho hbel hokj
        go_wp2
        go_ret3
        exact FN.out
end Go.Proofs.Ytfjgbnnjfapcmaa
namespace Go.Proofs.Ytfjgbnnjfapcmaa
open Go.RowKit
set_option maxRecDepth 100000
set_option linter.unusedVariables false

theorem rchunk_src {W : World} {F : Nat → Prop} {A A' : Option Addr} {len c c' m : Nat} {b : List UInt8} (hv : By W F (.slice A len c) b) (k : Nat) (hm : m = min 460 (len - 460 * k)) (hk : 460 * k ≤ len) (hA : 0 < m → ∀ a, A = some a → A' = some (a.add (460 * k))) (hmc : m ≤ c') (hc' : c' ≤ maxLen) (hn : A' = none → c' = 0) :
    Src Try.prog 1 29 (.slice A' m c') m (bv (chunk b k)) W := by
  have hl : b.length = len := by obtain ⟨_, _, e, _⟩ := hv; injection e with _ e2 _; exact e2.symm
  have hq : (b.drop (460 * k)).take m = chunk b k := by
    unfold chunk
    rcases Nat.lt_or_ge 460 (len - 460 * k) with h | h
    · rw [show m = 460 by omega]
    · rw [List.take_of_length_le (by rw [List.length_drop]; omega), List.take_of_length_le (by rw [List.length_drop]; omega)]
  have h := hv.piece (A' := A') (lo := 460 * k) (m := m) (c' := c') (by omega) hA hmc hc' hn
  rw [hq] at h
  have hs := By.src (P := Try.prog) h Try.underlying29
  rwa [show (chunk b k).length = m by rw [chunk_len]; omega] at hs
theorem numO (width n : Int) (w : World) :
    Calls Try.prog 46 #[.int .i64 width, .int .i64 n] w (OwnPost w (leB (word n) (wideN width))) :=
  (refNum_any width n w).mono fun e w' ⟨u, he, ho, hb⟩ => by
    obtain ⟨A, c, rfl, _⟩ := ho.form
    exact ⟨A, _, c, he, ho, hb⟩

set_option maxHeartbeats 4000000 in
theorem rsplit_any (z : Int) (b : List UInt8) (v : Value) (F : Nat → Prop) (w : World) (hv : By w F v b) (hb : b.length ≤ 1099511627776) :
    Calls Try.prog 49 #[.int .i64 z, v] w fun e w' => ∃ u, e = .returned u ∧ ListSt w.heap.size w' u (splitL z b) ∧ Below w.heap.size w w' := by
  obtain ⟨ib, hib, hb0, hb1, hb2⟩ := info_parts info_byte
  obtain ⟨is, his, hs0, hs1, hs2⟩ := info_parts info_bytes
  have ND := Lib.hid (rneed_any b.length w hb)
  have hnl := need_le b.length
  obtain ⟨n, hn⟩ : ∃ n, need b.length = n := ⟨_, rfl⟩
  have NB := Lib.hid (need_bd hn)
  unfold splitL
  rw [hn] at ND hnl ⊢
  by_cases hbig : 1024 < n
  · rw [if_pos hbig]
    obtain ⟨A, c, rfl, _, _, _, _⟩ := hv
    generalize hl : b.length = len at *
    clear hl hn
    rcases (show z < 0 ∨ (0 ≤ z ∧ 281474976710656 < z) ∨ (0 ≤ z ∧ z ≤ 281474976710656) by omega) with h | ⟨h, h'⟩ | ⟨h, h'⟩
    all_goals
      go_enter Try.func49, Try.ntmps49
      go_wp2_with (go_at_call 70; refine ND.out.mono ?_; rintro e w1 ⟨rfl, rfl⟩)
      all_goals
        go_ret
        exact ⟨_, rfl, ListSt.nil _ _, Below.refl _ _⟩
  rw [if_neg hbig]
  have hbig : n ≤ 1024 := by omega
  have hn1 := NB.out.1
  have hb3 : b.length ≤ 460 * n := NB.out.2.1
  have W : ∃ Z : Int, leB (word Z) 8 = leB (clampSeq z) 8 ∧ (z < 0 ∧ Z = 0 ∨ 0 ≤ z ∧ 281474976710656 < z ∧ Z = 281474976710656 ∨ 0 ≤ z ∧ z ≤ 281474976710656 ∧ Z = z) := by
    unfold clampSeq
    rcases (show z < 0 ∨ (0 ≤ z ∧ 281474976710656 < z) ∨ (0 ≤ z ∧ z ≤ 281474976710656) by omega) with h | ⟨h, h'⟩ | ⟨h, h'⟩
    · exact ⟨0, by rw [if_pos h]; rfl, .inl ⟨h, rfl⟩⟩
    · exact ⟨281474976710656, by rw [if_neg (by omega), if_pos h']; rfl, .inr (.inl ⟨h, h', rfl⟩)⟩
    · exact ⟨z, by rw [if_neg (by omega), if_neg (by omega)]; congr 1; unfold word; omega, .inr (.inr ⟨h, h', rfl⟩)⟩
  generalize clampSeq z = s at *
  have NXT := Lib.hid (fun k (h : k < n) => @pieces_next s n k b h)
  have FULL := Lib.hid (show (pieces s b n).take n = pieces s b n from List.take_of_length_le (by rw [pieces_len]; exact Nat.le_refl _))
  have CH := Lib.hid (chunk_len b)
  have hv0 := hv
  obtain ⟨A, c, rfl, hlc, hcm, hAn, _⟩ := hv
  unfold maxLen at hcm
  have CSRC := Lib.hid (fun W (hk : Keep (fun _ => False) w W) k m hm hke A' hA c' hmc hc' hn => @rchunk_src W F A A' b.length c c' m b (hv0.keep hk (fun _ _ _ h => h)) k hm hke hA hmc hc' hn)
  have AN : Hid (A = none → c = 0) := fun h => hAn h
  have TL := Lib.hid (show ∀ k, k ≤ n → ((pieces s b n).take k).length = k from fun k hk => by rw [List.length_take, pieces_len]; omega)
  have HDR := Lib.hid (show ∀ k : Nat, k ≤ 1024 → ∀ Z : Int, leB (word Z) 8 = leB s 8 → (bv (leB (word (k : Int)) (wideN 2)) ++ bv (leB (word (n : Int)) (wideN 2))) ++ bv (leB (word Z) (wideN 8)) = bv (hdrB k n s) from fun k hk Z hZ => by
    rw [← split_hdr k n Z s hk hbig hZ]; simp [bv])
  have CK := Lib.hid (fun k => (show bv (hdrB k n s) ++ bv (chunk b k) = bv (hdrB k n s ++ chunk b k) from (bv_append _ _).symm))
  generalize hl : b.length = len at *
  have NZ := Lib.hid (show ∀ k, k < n → (len < 460 * k → False) ∧ (len - 460 * k = 0 → k = 0 ∧ len = 0) from fun k hk => by
    obtain ⟨q1, q2, q3⟩ := NB.out
    have := fun h => q3 h
    rcases Nat.lt_or_ge 1 n with h1 | h1
    · have := q3 h1; omega
    · omega)
  clear hl hn hv0 NB
  obtain ⟨Z, hZ, hcase⟩ := W
  have WZ := Lib.hid hZ
  clear hZ
  rcases hcase with ⟨h, rfl⟩ | ⟨h, h', rfl⟩ | ⟨h, h', rfl⟩
  all_goals
    go_enter Try.func49, Try.ntmps49
    go_wp2_with (go_at_call 70; refine ND.out.mono ?_; rintro e w1 ⟨rfl, rfl⟩)
  all_goals
    go_loopw [6, 7] (fun u i wr => ∃ k : Nat, k ≤ n ∧ i = .int .i64 k ∧ Hid (ListSt w.heap.size wr u ((pieces s b n).take k) ∧ Below w.heap.size w wr)) (fun _ i _ => n - (intOf i).toNat)
    case atStart => exact ⟨0, by omega, rfl, Lib.hid ⟨ListSt.nil _ _, Below.refl _ _⟩⟩
    case round =>
      obtain ⟨k, hk, rfl, hst⟩ := hrel
      by_cases hlt : k < n
      · have CL := CH.out k
        have NZk := NZ.out k hlt
        have f1 : (k : Int) < (n : Int) := by omega
        obtain ⟨⟨cs, hcs1, hcs2⟩, hbelr⟩ := hst.out
        rw [TL.out k hk] at hcs1
        by_cases h0 : c - 460 * k = 0
        · have hk0 : k = 0 := (NZk.2 (by omega)).1
          have hl0 : len = 0 := (NZk.2 (by omega)).2
          subst hk0
          subst hl0
          have hc0 : c = 0 := by omega
          subst hc0
          clear h0 NZk
          go_wp2_with fail
          refine (numO 2 ((0 : Nat) : Int) _).mono ?_
          rintro e w1 ⟨A1, n1, c1, rfl, ho1, hb1⟩
          have hn1' : n1 = 2 := by have := ho1.1; rw [bv_len, leB_len] at this; have : wideN 2 = 2 := rfl; omega
          subst hn1'
          have H1 := Lib.hid (And.intro ho1 hb1)
          clear ho1 hb1
          go_wp2_with fail
          refine (numO 2 (n : Nat) _).mono ?_
          rintro e w2 ⟨A2, n2, c2, rfl, ho2, hb2⟩
          have hn2' : n2 = 2 := by have := ho2.1; rw [bv_len, leB_len] at this; have : wideN 2 = 2 := rfl; omega
          subst hn2'
          have H2 := Lib.hid (And.intro ho2 (And.intro hb2 (H1.out.1.keep (Keep.of_below' hb2) (fun _ _ h => h))))
          clear ho2 hb2
          have S2 := Lib.hid (By.src (P := Try.prog) (sl_by H2.out.1.sl) Try.underlying29)
          rw [leB_len, show wideN 2 = 2 from rfl] at S2
          go_wp2_with (at_builtin; refine wpList_append_gen _ rfl _ _ _ _ rfl wr.heap.size 5 ib _ 1 1 Try.underlying29 hib hb0 hb1 hb2 rfl _ 2 _ rfl H2.out.2.2 _ 2 _ rfl S2.out ?a1 ?a2 ?a3 ?_)
          case a1 => unfold maxLen; omega
          case a2 => omega
          case a3 => have := H1.out.2.size; have := H2.out.2.1.size; omega
          intro v3 w3 ho3 hk3 _
          obtain ⟨A3, c3, rfl, _⟩ := ho3.form
          have H3 := Lib.hid (And.intro ho3 hk3)
          clear ho3 hk3
          go_wp2_with fail
          refine (numO 8 _ _).mono ?_
          rintro e w4 ⟨A4, n4, c4, rfl, ho4, hb4⟩
          have hn4' : n4 = 8 := by have := ho4.1; rw [bv_len, leB_len] at this; have : wideN 8 = 8 := rfl; omega
          subst hn4'
          have H4 := Lib.hid (And.intro ho4 (And.intro hb4 (H3.out.1.keep (Keep.of_below' hb4) (fun _ _ h => h))))
          clear ho4 hb4
          have S4 := Lib.hid (By.src (P := Try.prog) (sl_by H4.out.1.sl) Try.underlying29)
          rw [leB_len, show wideN 8 = 8 from rfl] at S4
          go_wp2_with (at_builtin; refine wpList_append_gen _ rfl _ _ _ _ rfl wr.heap.size 5 ib _ 1 1 Try.underlying29 hib hb0 hb1 hb2 rfl _ _ _ rfl H4.out.2.2 _ 8 _ rfl S4.out ?b1 ?b2 ?b3 ?_)
          case b1 => unfold maxLen; omega
          case b2 => omega
          case b3 => have := H1.out.2.size; have := H2.out.2.1.size; have := H3.out.2.size; have := H4.out.2.1.size; omega
          intro v5 w5 ho5 hk5 _
          have hd := HDR.out 0 (by omega) _ WZ.out
          simp only [List.append_assoc, show wideN 8 = 8 from rfl, show wideN 2 = 2 from rfl, show ((0 : Nat) : Int) = 0 from rfl] at ho5 hd
          rw [hd] at ho5
          clear hd
          obtain ⟨A5, c5, rfl, _⟩ := ho5.form
          have H5 := Lib.hid (And.intro ho5 hk5)
          clear ho5 hk5
          have KR := Lib.hid (show Keep (fun x => wr.heap.size ≤ x) wr w5 from by
            have z1 := H1.out.2.size
            have z2 := H2.out.2.1.size
            have z3 := H3.out.2.size
            have z4 := H4.out.2.1.size
            have q1 := (Keep.of_below' H1.out.2).trans (Keep.of_below' H2.out.2.1) (fun _ _ h => h)
            have q2 := Keep.trans (S := fun x => wr.heap.size ≤ x) (q1.mono (fun _ _ h => h.elim)) H3.out.2 (fun x _ e => (H2.out.2.2.ownB x e).1)
            have q3 := Keep.trans (S := fun x => wr.heap.size ≤ x) q2 (Keep.of_below' H4.out.2.1) (fun _ _ h => h.elim)
            exact Keep.trans (S := fun x => wr.heap.size ≤ x) q3 H5.out.2 (fun x _ e => (H4.out.2.2.ownB x e).1))
          have KW := Lib.hid (show Keep (fun _ => False) w w5 from Keep.trans (T := fun x => wr.heap.size ≤ x) (Keep.of_below' hbelr) KR.out (fun x hx h => by have := hbelr.size; omega))
          have SRC := Lib.hid (show Src Try.prog 1 29 (.slice A 0 0) 0 (bv (chunk b 0)) w5 by rw [show chunk b 0 = [] from List.eq_nil_of_length_eq_zero (by omega)]; exact src_empty A 0 w5)
          go_wp2_with (at_builtin; refine wpList_append_gen _ rfl _ _ _ _ rfl wr.heap.size 5 ib _ 1 1 Try.underlying29 hib hb0 hb1 hb2 rfl _ _ _ rfl H5.out.1 _ _ _ rfl SRC.out ?e1 ?e2 ?e3 ?_)
          case e1 => unfold maxLen; omega
          case e2 => omega
          case e3 => exact KR.out.size
          intro v6 w6 ho6 hk6 _
          rw [CK.out 0] at ho6
          obtain ⟨A6, c6, rfl, _⟩ := ho6.form
          have W6 := Lib.hid (And.intro ho6 (Keep.trans (S := fun x => wr.heap.size ≤ x) KR.out hk6 (fun x _ e => (H5.out.1.ownB x e).1)))
          clear ho6 hk6
          have OL := Lib.hid (show ∀ o, Own (w6.alloc o) w.heap.size 29 1 _ 0 cs from fun o => by
            have := hcs1.keep W6.out.2 (fun x e h => by have := (hcs1.ownB x e).2; omega)
            exact this.alloc _)
          go_wp2_with (at_builtin; refine wpList_append_gen _ rfl _ _ _ _ rfl w.heap.size 29 is _ 1 24 Try.underlying25 his hs0 hs1 hs2 rfl _ 0 cs rfl (OL.out _) _ 1 _ rfl (src_one _ _ Try.underlying25 rfl) ?d1 ?d2 ?d3 ?_)
          case d1 => unfold maxLen; omega
          case d2 => omega
          case d3 => have h1 := W6.out.2.size; have h3 := hbelr.size; simp; omega
          intro v7 w7 ho7 hk7 hn7
          have NX := Lib.hid (show ListSt w.heap.size w7 v7 ((pieces s b n).take (0 + 1)) ∧ Below w.heap.size w w7 from by
            refine ⟨?_, ?_⟩
            · rw [NXT.out 0 hlt]
              exact ListSt.push (w := wr) (by rw [TL.out 0 hk]; exact hcs1) hcs2 (W6.out.2.alloc _) ((sl_by W6.out.1.sl).keep ((Keep.refl (fun _ => False) _).alloc _) (fun _ _ _ h => h)) hbelr.size (by rw [TL.out 0 hk]; exact ho7) hk7 (by simpa using hn7)
            · exact (Keep.trans (S := fun x => w.heap.size ≤ x) (Keep.trans (S := fun x => w.heap.size ≤ x) (T := fun x => wr.heap.size ≤ x) ((Keep.of_below' hbelr).mono (fun _ _ h => h.elim)) (W6.out.2.alloc _) (fun x _ h => by have := hbelr.size; omega)) hk7 (fun x _ e => (hcs1.ownB x e).1)).to_below (Nat.le_refl _))
          clear ho7 hk7 hn7
          go_wp2
          go_roundw
          case rel => (repeat apply Exists.intro); exact ⟨⟨0 + 1, by omega, by go_num, NX⟩, rfl⟩
          case measure => simp [intOf]; omega
        · by_cases hbigr : 460 < len - 460 * k
          · have f2 : (460 : Int) < ((len - 460 * k : Nat) : Int) := by omega
            go_wp2_with fail
            refine (numO 2 (k : Nat) _).mono ?_
            rintro e w1 ⟨A1, n1, c1, rfl, ho1, hb1⟩
            have hn1' : n1 = 2 := by have := ho1.1; rw [bv_len, leB_len] at this; have : wideN 2 = 2 := rfl; omega
            subst hn1'
            have H1 := Lib.hid (And.intro ho1 hb1)
            clear ho1 hb1
            go_wp2_with fail
            refine (numO 2 (n : Nat) _).mono ?_
            rintro e w2 ⟨A2, n2, c2, rfl, ho2, hb2⟩
            have hn2' : n2 = 2 := by have := ho2.1; rw [bv_len, leB_len] at this; have : wideN 2 = 2 := rfl; omega
            subst hn2'
            have H2 := Lib.hid (And.intro ho2 (And.intro hb2 (H1.out.1.keep (Keep.of_below' hb2) (fun _ _ h => h))))
            clear ho2 hb2
            have S2 := Lib.hid (By.src (P := Try.prog) (sl_by H2.out.1.sl) Try.underlying29)
            rw [leB_len, show wideN 2 = 2 from rfl] at S2
            go_wp2_with (at_builtin; refine wpList_append_gen _ rfl _ _ _ _ rfl wr.heap.size 5 ib _ 1 1 Try.underlying29 hib hb0 hb1 hb2 rfl _ 2 _ rfl H2.out.2.2 _ 2 _ rfl S2.out ?a1 ?a2 ?a3 ?_)
            case a1 => unfold maxLen; omega
            case a2 => omega
            case a3 => have := H1.out.2.size; have := H2.out.2.1.size; omega
            intro v3 w3 ho3 hk3 _
            obtain ⟨A3, c3, rfl, _⟩ := ho3.form
            have H3 := Lib.hid (And.intro ho3 hk3)
            clear ho3 hk3
            go_wp2_with fail
            refine (numO 8 _ _).mono ?_
            rintro e w4 ⟨A4, n4, c4, rfl, ho4, hb4⟩
            have hn4' : n4 = 8 := by have := ho4.1; rw [bv_len, leB_len] at this; have : wideN 8 = 8 := rfl; omega
            subst hn4'
            have H4 := Lib.hid (And.intro ho4 (And.intro hb4 (H3.out.1.keep (Keep.of_below' hb4) (fun _ _ h => h))))
            clear ho4 hb4
            have S4 := Lib.hid (By.src (P := Try.prog) (sl_by H4.out.1.sl) Try.underlying29)
            rw [leB_len, show wideN 8 = 8 from rfl] at S4
            go_wp2_with (at_builtin; refine wpList_append_gen _ rfl _ _ _ _ rfl wr.heap.size 5 ib _ 1 1 Try.underlying29 hib hb0 hb1 hb2 rfl _ _ _ rfl H4.out.2.2 _ 8 _ rfl S4.out ?b1 ?b2 ?b3 ?_)
            case b1 => unfold maxLen; omega
            case b2 => omega
            case b3 => have := H1.out.2.size; have := H2.out.2.1.size; have := H3.out.2.size; have := H4.out.2.1.size; omega
            intro v5 w5 ho5 hk5 _
            have hd := HDR.out k (by omega) _ WZ.out
            simp only [List.append_assoc, show wideN 8 = 8 from rfl, show wideN 2 = 2 from rfl] at ho5 hd
            rw [hd] at ho5
            clear hd
            obtain ⟨A5, c5, rfl, _⟩ := ho5.form
            have H5 := Lib.hid (And.intro ho5 hk5)
            clear ho5 hk5
            have KR := Lib.hid (show Keep (fun x => wr.heap.size ≤ x) wr w5 from by
              have z1 := H1.out.2.size
              have z2 := H2.out.2.1.size
              have z3 := H3.out.2.size
              have z4 := H4.out.2.1.size
              have q1 := (Keep.of_below' H1.out.2).trans (Keep.of_below' H2.out.2.1) (fun _ _ h => h)
              have q2 := Keep.trans (S := fun x => wr.heap.size ≤ x) (q1.mono (fun _ _ h => h.elim)) H3.out.2 (fun x _ e => (H2.out.2.2.ownB x e).1)
              have q3 := Keep.trans (S := fun x => wr.heap.size ≤ x) q2 (Keep.of_below' H4.out.2.1) (fun _ _ h => h.elim)
              exact Keep.trans (S := fun x => wr.heap.size ≤ x) q3 H5.out.2 (fun x _ e => (H4.out.2.2.ownB x e).1))
            have KW := Lib.hid (show Keep (fun _ => False) w w5 from Keep.trans (T := fun x => wr.heap.size ≤ x) (Keep.of_below' hbelr) KR.out (fun x hx h => by have := hbelr.size; omega))
            have SRC := Lib.hid (CSRC.out w5 KW.out k (460) (by omega) (by omega) (Option.map (fun x => x.add (460 * k)) A) (by intro h a ha; rw [ha]; rfl) (c - 460 * k) (by omega) (by unfold maxLen; omega) (by intro hh; rcases A with _ | a; (have := AN.out rfl; omega); (cases hh)))
            go_wp2_with (at_builtin; refine wpList_append_gen _ rfl _ _ _ _ rfl wr.heap.size 5 ib _ 1 1 Try.underlying29 hib hb0 hb1 hb2 rfl _ _ _ rfl H5.out.1 _ _ _ rfl SRC.out ?e1 ?e2 ?e3 ?_)
            case e1 => unfold maxLen; omega
            case e2 => omega
            case e3 => exact KR.out.size
            intro v6 w6 ho6 hk6 _
            rw [CK.out k] at ho6
            obtain ⟨A6, c6, rfl, _⟩ := ho6.form
            have W6 := Lib.hid (And.intro ho6 (Keep.trans (S := fun x => wr.heap.size ≤ x) KR.out hk6 (fun x _ e => (H5.out.1.ownB x e).1)))
            clear ho6 hk6
            have OL := Lib.hid (show ∀ o, Own (w6.alloc o) w.heap.size 29 1 _ k cs from fun o => by
              have := hcs1.keep W6.out.2 (fun x e h => by have := (hcs1.ownB x e).2; omega)
              exact this.alloc _)
            go_wp2_with (at_builtin; refine wpList_append_gen _ rfl _ _ _ _ rfl w.heap.size 29 is _ 1 24 Try.underlying25 his hs0 hs1 hs2 rfl _ k cs rfl (OL.out _) _ 1 _ rfl (src_one _ _ Try.underlying25 rfl) ?d1 ?d2 ?d3 ?_)
            case d1 => unfold maxLen; omega
            case d2 => omega
            case d3 => have h1 := W6.out.2.size; have h3 := hbelr.size; simp; omega
            intro v7 w7 ho7 hk7 hn7
            have NX := Lib.hid (show ListSt w.heap.size w7 v7 ((pieces s b n).take (k + 1)) ∧ Below w.heap.size w w7 from by
              refine ⟨?_, ?_⟩
              · rw [NXT.out k hlt]
                exact ListSt.push (w := wr) (by rw [TL.out k hk]; exact hcs1) hcs2 (W6.out.2.alloc _) ((sl_by W6.out.1.sl).keep ((Keep.refl (fun _ => False) _).alloc _) (fun _ _ _ h => h)) hbelr.size (by rw [TL.out k hk]; exact ho7) hk7 (by simpa using hn7)
              · exact (Keep.trans (S := fun x => w.heap.size ≤ x) (Keep.trans (S := fun x => w.heap.size ≤ x) (T := fun x => wr.heap.size ≤ x) ((Keep.of_below' hbelr).mono (fun _ _ h => h.elim)) (W6.out.2.alloc _) (fun x _ h => by have := hbelr.size; omega)) hk7 (fun x _ e => (hcs1.ownB x e).1)).to_below (Nat.le_refl _))
            clear ho7 hk7 hn7
            go_wp2
            go_roundw
            case rel => exact ⟨k + 1, by omega, by go_num, NX⟩
            case measure => simp [intOf]; omega
          · have f2 : ((len - 460 * k : Nat) : Int) ≤ 460 := by omega
            go_wp2_with fail
            refine (numO 2 (k : Nat) _).mono ?_
            rintro e w1 ⟨A1, n1, c1, rfl, ho1, hb1⟩
            have hn1' : n1 = 2 := by have := ho1.1; rw [bv_len, leB_len] at this; have : wideN 2 = 2 := rfl; omega
            subst hn1'
            have H1 := Lib.hid (And.intro ho1 hb1)
            clear ho1 hb1
            go_wp2_with fail
            refine (numO 2 (n : Nat) _).mono ?_
            rintro e w2 ⟨A2, n2, c2, rfl, ho2, hb2⟩
            have hn2' : n2 = 2 := by have := ho2.1; rw [bv_len, leB_len] at this; have : wideN 2 = 2 := rfl; omega
            subst hn2'
            have H2 := Lib.hid (And.intro ho2 (And.intro hb2 (H1.out.1.keep (Keep.of_below' hb2) (fun _ _ h => h))))
            clear ho2 hb2
            have S2 := Lib.hid (By.src (P := Try.prog) (sl_by H2.out.1.sl) Try.underlying29)
            rw [leB_len, show wideN 2 = 2 from rfl] at S2
            go_wp2_with (at_builtin; refine wpList_append_gen _ rfl _ _ _ _ rfl wr.heap.size 5 ib _ 1 1 Try.underlying29 hib hb0 hb1 hb2 rfl _ 2 _ rfl H2.out.2.2 _ 2 _ rfl S2.out ?a1 ?a2 ?a3 ?_)
            case a1 => unfold maxLen; omega
            case a2 => omega
            case a3 => have := H1.out.2.size; have := H2.out.2.1.size; omega
            intro v3 w3 ho3 hk3 _
            obtain ⟨A3, c3, rfl, _⟩ := ho3.form
            have H3 := Lib.hid (And.intro ho3 hk3)
            clear ho3 hk3
            go_wp2_with fail
            refine (numO 8 _ _).mono ?_
            rintro e w4 ⟨A4, n4, c4, rfl, ho4, hb4⟩
            have hn4' : n4 = 8 := by have := ho4.1; rw [bv_len, leB_len] at this; have : wideN 8 = 8 := rfl; omega
            subst hn4'
            have H4 := Lib.hid (And.intro ho4 (And.intro hb4 (H3.out.1.keep (Keep.of_below' hb4) (fun _ _ h => h))))
            clear ho4 hb4
            have S4 := Lib.hid (By.src (P := Try.prog) (sl_by H4.out.1.sl) Try.underlying29)
            rw [leB_len, show wideN 8 = 8 from rfl] at S4
            go_wp2_with (at_builtin; refine wpList_append_gen _ rfl _ _ _ _ rfl wr.heap.size 5 ib _ 1 1 Try.underlying29 hib hb0 hb1 hb2 rfl _ _ _ rfl H4.out.2.2 _ 8 _ rfl S4.out ?b1 ?b2 ?b3 ?_)
            case b1 => unfold maxLen; omega
            case b2 => omega
            case b3 => have := H1.out.2.size; have := H2.out.2.1.size; have := H3.out.2.size; have := H4.out.2.1.size; omega
            intro v5 w5 ho5 hk5 _
            have hd := HDR.out k (by omega) _ WZ.out
            simp only [List.append_assoc, show wideN 8 = 8 from rfl, show wideN 2 = 2 from rfl] at ho5 hd
            rw [hd] at ho5
            clear hd
            obtain ⟨A5, c5, rfl, _⟩ := ho5.form
            have H5 := Lib.hid (And.intro ho5 hk5)
            clear ho5 hk5
            have KR := Lib.hid (show Keep (fun x => wr.heap.size ≤ x) wr w5 from by
              have z1 := H1.out.2.size
              have z2 := H2.out.2.1.size
              have z3 := H3.out.2.size
              have z4 := H4.out.2.1.size
              have q1 := (Keep.of_below' H1.out.2).trans (Keep.of_below' H2.out.2.1) (fun _ _ h => h)
              have q2 := Keep.trans (S := fun x => wr.heap.size ≤ x) (q1.mono (fun _ _ h => h.elim)) H3.out.2 (fun x _ e => (H2.out.2.2.ownB x e).1)
              have q3 := Keep.trans (S := fun x => wr.heap.size ≤ x) q2 (Keep.of_below' H4.out.2.1) (fun _ _ h => h.elim)
              exact Keep.trans (S := fun x => wr.heap.size ≤ x) q3 H5.out.2 (fun x _ e => (H4.out.2.2.ownB x e).1))
            have KW := Lib.hid (show Keep (fun _ => False) w w5 from Keep.trans (T := fun x => wr.heap.size ≤ x) (Keep.of_below' hbelr) KR.out (fun x hx h => by have := hbelr.size; omega))
            have SRC := Lib.hid (CSRC.out w5 KW.out k (len - 460 * k) (by omega) (by omega) (Option.map (fun x => x.add (460 * k)) A) (by intro h a ha; rw [ha]; rfl) (c - 460 * k) (by omega) (by unfold maxLen; omega) (by intro hh; rcases A with _ | a; (have := AN.out rfl; omega); (cases hh)))
            go_wp2_with (at_builtin; refine wpList_append_gen _ rfl _ _ _ _ rfl wr.heap.size 5 ib _ 1 1 Try.underlying29 hib hb0 hb1 hb2 rfl _ _ _ rfl H5.out.1 _ _ _ rfl SRC.out ?e1 ?e2 ?e3 ?_)
            case e1 => unfold maxLen; omega
            case e2 => omega
            case e3 => exact KR.out.size
            intro v6 w6 ho6 hk6 _
            rw [CK.out k] at ho6
            obtain ⟨A6, c6, rfl, _⟩ := ho6.form
            have W6 := Lib.hid (And.intro ho6 (Keep.trans (S := fun x => wr.heap.size ≤ x) KR.out hk6 (fun x _ e => (H5.out.1.ownB x e).1)))
            clear ho6 hk6
            have OL := Lib.hid (show ∀ o, Own (w6.alloc o) w.heap.size 29 1 _ k cs from fun o => by
              have := hcs1.keep W6.out.2 (fun x e h => by have := (hcs1.ownB x e).2; omega)
              exact this.alloc _)
            go_wp2_with (at_builtin; refine wpList_append_gen _ rfl _ _ _ _ rfl w.heap.size 29 is _ 1 24 Try.underlying25 his hs0 hs1 hs2 rfl _ k cs rfl (OL.out _) _ 1 _ rfl (src_one _ _ Try.underlying25 rfl) ?d1 ?d2 ?d3 ?_)
            case d1 => unfold maxLen; omega
            case d2 => omega
            case d3 => have h1 := W6.out.2.size; have h3 := hbelr.size; simp; omega
            intro v7 w7 ho7 hk7 hn7
            have NX := Lib.hid (show ListSt w.heap.size w7 v7 ((pieces s b n).take (k + 1)) ∧ Below w.heap.size w w7 from by
              refine ⟨?_, ?_⟩
              · rw [NXT.out k hlt]
                exact ListSt.push (w := wr) (by rw [TL.out k hk]; exact hcs1) hcs2 (W6.out.2.alloc _) ((sl_by W6.out.1.sl).keep ((Keep.refl (fun _ => False) _).alloc _) (fun _ _ _ h => h)) hbelr.size (by rw [TL.out k hk]; exact ho7) hk7 (by simpa using hn7)
              · exact (Keep.trans (S := fun x => w.heap.size ≤ x) (Keep.trans (S := fun x => w.heap.size ≤ x) (T := fun x => wr.heap.size ≤ x) ((Keep.of_below' hbelr).mono (fun _ _ h => h.elim)) (W6.out.2.alloc _) (fun x _ h => by have := hbelr.size; omega)) hk7 (fun x _ e => (hcs1.ownB x e).1)).to_below (Nat.le_refl _))
            clear ho7 hk7 hn7
            go_wp2
            go_roundw
            case rel => exact ⟨k + 1, by omega, by go_num, NX⟩
            case measure => simp [intOf]; omega
      · obtain rfl : k = n := by omega
        rw [FULL.out] at hst
        go_wp2
        go_ret
        exact ⟨_, rfl, hst.out.1, hst.out.2⟩
end Go.Proofs.Ytfjgbnnjfapcmaa

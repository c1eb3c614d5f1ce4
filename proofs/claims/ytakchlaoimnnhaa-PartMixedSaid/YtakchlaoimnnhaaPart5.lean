/- Contract of part.Join. -/
import Derived.Test.YtakchlaoimnnhaaPart2
import Derived.Test.YtakchlaoimnnhaaPart3
import Derived.Test.YtakchlaoimnnhaaPart4
namespace Go.Proofs.Ytakchlaoimnnhaa
open Go.RowKit
set_option maxRecDepth 100000
set_option linter.unusedVariables false

/-- What a join leaves. -/
def JoinPost (w : World) (R : List (List UInt8)) (e : Ending) (w' : World) : Prop :=
  ∃ A n c, e = .returned (.tuple #[.int .i64 (if joinOk R = true then firstSeq R else 0), .slice A n c, .bool (joinOk R)]) ∧ By w' (fun b => w.heap.size ≤ b) (.slice A n c) (if joinOk R = true then joinB R else []) ∧ Below w.heap.size w w'
theorem join_no {w w' : World} {R : List (List UInt8)} (h : ¬ progOk R) (hb : Below w.heap.size w w') : JoinPost w R (.returned (.tuple #[.int .i64 0, .slice none 0 0, .bool false])) w' := by
  have hj : joinOk R = false := by
    rw [Bool.eq_false_iff]; exact fun hh => h (prog_iff.2 hh)
  refine ⟨none, 0, 0, ?_, ?_, hb⟩
  · rw [hj]; simp
  · rw [hj]; exact By.nil _ _
theorem join_yes {w w' : World} {R : List (List UInt8)} {A : Option Addr} {n c : Nat} (h : progOk R) (hy : By w' (fun b => w.heap.size ≤ b) (.slice A n c) (joinB R)) (hb : Below w.heap.size w w') : JoinPost w R (.returned (.tuple #[.int .i64 (firstSeq R), .slice A n c, .bool true])) w' := by
  have hj := prog_iff.1 h
  refine ⟨A, n, c, ?_, ?_, hb⟩
  · rw [hj]; simp
  · rw [if_pos hj]; exact hy
theorem joinB_next {R : List (List UInt8)} {k : Nat} (h : k < R.length) : joinB (R.take (k + 1)) = joinB (R.take k) ++ (R.getD k []).drop 12 := by
  unfold joinB
  rw [List.take_add_one, List.flatMap_append, List.getD_eq_getElem?_getD, List.getElem?_eq_getElem h]
  simp
theorem joinB_take (R : List (List UInt8)) (k : Nat) : (joinB (R.take k)).length ≤ (joinB R).length := by
  have : joinB R = joinB (R.take k) ++ joinB (R.drop k) := by
    unfold joinB; rw [← List.flatMap_append, List.take_append_drop]
  rw [this, List.length_append]; omega

set_option maxHeartbeats 1000000 in
theorem pjoin_any (R : List (List UInt8)) (v : Value) (F : Nat → Prop) (w : World) (hv : Bys w F v R) (hB : (joinB R).length ≤ 1073741824) (hR : R.length ≤ 1073741824) (hP : ∀ r ∈ R, r.length ≤ 1099511627776) :
    Calls Try.prog 19 #[v] w (JoinPost w R) := by
  have hv0 := hv
  obtain ⟨A, c, rfl, hRc, hcm, hat⟩ := hv.form
  unfold maxLen at hcm
  obtain ⟨ib, hib, hb0, hb1, hb2⟩ := info_parts info_byte
  rcases Nat.eq_zero_or_pos R.length with h0 | h0
  · have hnil : R = [] := List.eq_nil_of_length_eq_zero h0
    have NO := Lib.hid (fun w' (hb : Below w.heap.size w w') => join_no (R := R) (fun h => h.1 hnil) hb)
    rw [h0]
    clear hat hv0 hv h0 hnil hRc
    go_enter Try.func19, Try.ntmps19
    go_wp2
    go_ret3
    exact NO.out _ (Below.refl _ _)
  obtain ⟨b0, o0, u0, rfl, x0, y0⟩ := hat 0 h0
  rw [Nat.add_zero] at x0
  have HD := Lib.hid (phead_any _ u0 F w y0 (hP _ (by rw [List.getD_eq_getElem?_getD, List.getElem?_eq_getElem h0]; exact List.getElem_mem _)))
  have hlen0 : ((R.length : Int) == 0) = false := by rw [beq_eq_false_iff_ne]; omega
  obtain ⟨A0, d0, rfl, _⟩ := y0
  have hnn : (R.getD 0 []).length = (R.getD 0 []).length := rfl
  by_cases hh : ¬ headOk (R.getD 0 []) = true
  · rw [headT_no (by simpa using hh)] at HD
    have NO := Lib.hid (fun w' (hb : Below w.heap.size w w') => join_no (R := R) (fun h => hh h.2.1) hb)
    generalize (R.getD 0 []).length = n0 at *
    generalize R.length = n at *
    clear hat hv0 hv hh hRc
    go_enter Try.func19, Try.ntmps19
    go_wp2_with (go_at_call 22; refine HD.out.mono ?_; rintro e w1 ⟨rfl, hb1⟩; have B1 := Lib.hid hb1; clear hb1)
    go_ret3
    exact NO.out _ B1.out
  have hh := Decidable.not_not.1 hh
  rw [headT_yes hh] at HD
  have hne : R ≠ [] := fun h => by rw [h] at h0; simp at h0
  have FS := Lib.hid (show hSeq (R.getD 0 []) = firstSeq R from rfl)
  rw [FS.out] at HD
  have NO := Lib.hid (fun w' (hb : Below w.heap.size w w') (h : ¬ progOk R) => join_no (R := R) h hb)
  have HA := Lib.hid hat
  have NX := Lib.hid (fun k (h : k < R.length) => joinB_next h)
  have LT := Lib.hid (fun k => Nat.le_trans (joinB_take R k) hB)
  have FULL := Lib.hid (show joinB (R.take R.length) = joinB R by rw [List.take_length])
  have GP := Lib.hid (show ∀ k, k < R.length → (R.getD k []).length < 12 → ¬ progOk R from fun k hk h hp => by
    have := hp.2.2.1 (R.getD k []) (by rw [List.getD_eq_getElem?_getD, List.getElem?_eq_getElem hk]; exact List.getElem_mem _)
    omega)
  have PK := Lib.hid (show (∀ k, k < R.length → 12 ≤ (R.getD k []).length) → splitL (firstSeq R) (joinB R) = R → progOk R from fun h1 h2 => ⟨hne, hh, fun q hq => by
    obtain ⟨i, hi, rfl⟩ := List.mem_iff_getElem.1 hq
    have := h1 i hi
    rw [List.getD_eq_getElem?_getD, List.getElem?_eq_getElem hi] at this
    exact this, h2⟩)
  have PS := Lib.hid (show progOk R → splitL (firstSeq R) (joinB R) = R from fun h => h.2.2.2)
  have YES := Lib.hid (fun w' A n c (h : progOk R) hy hb => @join_yes w w' R A n c h hy hb)
  have SP := Lib.hid (fun W u G (hu : By W G u (joinB R)) => psplit_any (firstSeq R) (joinB R) u G W hu (by omega))
  have HV := Lib.hid hv0
  have PB := Lib.hid (show ∀ k, k < R.length → (R.getD k []).length ≤ 1099511627776 from fun k hk => hP _ (by rw [List.getD_eq_getElem?_getD, List.getElem?_eq_getElem hk]; exact List.getElem_mem _))
  clear hat hv0 hv hh hP hB hne hnn
  generalize firstSeq R = z at *
  generalize (R.getD 0 []).length = n0 at *
  generalize (hPlace (R.getD 0 []) : Int) = p0 at *
  generalize (hCount (R.getD 0 []) : Int) = q0 at *
  generalize hn : R.length = n at *
  clear hn
  go_enter Try.func19, Try.ntmps19
  go_wp2_with (go_at_call 22; refine HD.out.mono ?_; rintro e w1 ⟨rfl, hb1⟩; have B1 := Lib.hid hb1; clear hb1)
  go_loopw [2, 3, 23] (fun s u i wr => ∃ k : Nat, k ≤ n ∧ s = .int .i64 z ∧ i = .int .i64 k ∧ Hid ((∃ m, Own wr w.heap.size 5 1 u m (bv (joinB (R.take k)))) ∧ Below w.heap.size w wr ∧ ∀ j, j < k → 12 ≤ (R.getD j []).length)) (fun _ _ i _ => n - (intOf i).toNat)
  case atStart => exact ⟨0, by omega, rfl, rfl, Lib.hid ⟨⟨0, Own.none_ _ _ _ _ _⟩, B1.out, fun j hj => by omega⟩⟩
  case round =>
    obtain ⟨k, hk, rfl, rfl, hst⟩ := hrel
    by_cases hlt : k < n
    · obtain ⟨b1, o1, u1, e1, x1, y1⟩ := HA.out k hlt
      injection e1 with e1
      injection e1 with e1 e2
      subst e1 e2
      obtain ⟨⟨m, ho⟩, hbel, hlong⟩ := hst.out
      have y1' := y1.below hbel
      have x1' : wr.cell? ⟨b0, o0 + k, none⟩ = some u1 := (Keep.of_below' hbel).cell (fun h => h) x1
      obtain ⟨A1, d1, rfl, hd1, hd2, hd3, _⟩ := id y1
      have hpb := PB.out k hlt
      have f1 : (k : Int) < (n : Int) := by omega
      clear x1
      by_cases h12 : (R.getD k []).length < 12
      · have NP := Lib.hid (NO.out wr hbel (GP.out k hlt h12))
        clear ho hbel hlong y1 y1'
        generalize (R.getD k []).length = n1 at *
        go_wp2
        go_ret3
        exact NP.out
      · have hm : m = (joinB (R.take k)).length := by have := ho.1; rw [bv_len] at this; omega
        have hL := LT.out k
        rw [← hm] at hL
        have hL1 := LT.out (k + 1)
        rw [NX.out k hlt, List.length_append, List.length_drop, ← hm] at hL1
        have G13 := Lib.hid (show ∀ j, j < k + 1 → 12 ≤ (R.getD j []).length from fun j hj => by
          rcases Nat.lt_or_ge j k with h | h
          · exact hlong j h
          · obtain rfl : j = k := by omega
            omega)
        have hq : ((R.getD k []).drop 12).take ((R.getD k []).length - 12) = (R.getD k []).drop 12 := List.take_of_length_le (by rw [List.length_drop]; exact Nat.le_refl _)
        by_cases hcap : d1 = 12
        · have hn12 : (R.getD k []).length = 12 := by omega
          have hdr : (R.getD k []).drop 12 = [] := List.drop_eq_nil_of_le (by omega)
          have hsrc : Src Try.prog 1 22 (.slice A1 0 0) 0 (bv ((R.getD k []).drop 12)) wr := by rw [hdr]; exact src_empty A1 0 wr
          clear hq hdr
          generalize (R.getD k []).length = n1 at *
          subst hcap
          subst hn12
          have SRC := Lib.hid hsrc
          have HO := Lib.hid (And.intro ho (And.intro hbel hlong))
          have NXK := Lib.hid (NX.out k hlt)
          clear hsrc y1 y1' ho hbel hlong hm
          go_wp2_with (at_builtin; refine wpList_append_gen _ rfl _ _ _ _ rfl w.heap.size 5 ib _ 1 1 Try.underlying22 hib hb0 hb1 hb2 rfl _ m _ rfl HO.out.1 _ _ _ rfl SRC.out ?c1 ?c2 ?c3 ?_)
          case c1 => unfold maxLen; omega
          case c2 => omega
          case c3 => exact HO.out.2.1.size
          intro v2 w2 ho2 hk2 _
          have NS := Lib.hid (show (∃ m, Own w2 w.heap.size 5 1 v2 m (bv (joinB (R.take (k + 1))))) ∧ Below w.heap.size w w2 ∧ ∀ j, j < k + 1 → 12 ≤ (R.getD j []).length from
            ⟨⟨_, by rw [NXK.out, bv_append]; exact ho2⟩, append_below0 HO.out.2.1 HO.out.1 hk2, G13.out⟩)
          clear ho2 hk2
          go_wp2
          go_roundw
          case rel => exact ⟨k + 1, by omega, rfl, by go_num, NS⟩
          case measure => simp [intOf]; omega
        · have hcap' : 12 < d1 := by omega
          have hsrc : Src Try.prog 1 22 (.slice (Option.map (fun x => x.add 12) A1) ((R.getD k []).length - 12) (d1 - 12)) ((R.getD k []).length - 12) (bv ((R.getD k []).drop 12)) wr := by
            have h := y1'.piece (A' := Option.map (fun x => x.add 12) A1) (lo := 12) (m := (R.getD k []).length - 12) (c' := d1 - 12) (by omega) (fun _ a ha => by rw [ha]; rfl) (by omega) (by unfold maxLen at *; omega) (fun hh => by rcases A1 with _ | a; (have := hd3 rfl; omega); (cases hh))
            rw [hq] at h
            have hs := By.src (P := Try.prog) h Try.underlying22
            rwa [List.length_drop] at hs
          clear hq
          have SRC := Lib.hid hsrc
          have HO := Lib.hid (And.intro ho (And.intro hbel hlong))
          have NXK := Lib.hid (NX.out k hlt)
          clear hsrc y1 y1' ho hbel hlong hm
          generalize (R.getD k []).length = n1 at *
          go_wp2_with (at_builtin; refine wpList_append_gen _ rfl _ _ _ _ rfl w.heap.size 5 ib _ 1 1 Try.underlying22 hib hb0 hb1 hb2 rfl _ m _ rfl HO.out.1 _ _ _ rfl SRC.out ?c1 ?c2 ?c3 ?_)
          case c1 => unfold maxLen; omega
          case c2 => omega
          case c3 => exact HO.out.2.1.size
          intro v2 w2 ho2 hk2 _
          have NS := Lib.hid (show (∃ m, Own w2 w.heap.size 5 1 v2 m (bv (joinB (R.take (k + 1))))) ∧ Below w.heap.size w w2 ∧ ∀ j, j < k + 1 → 12 ≤ (R.getD j []).length from
            ⟨⟨_, by rw [NXK.out, bv_append]; exact ho2⟩, append_below0 HO.out.2.1 HO.out.1 hk2, G13.out⟩)
          clear ho2 hk2
          go_wp2
          go_roundw
          case rel => exact ⟨k + 1, by omega, rfl, by go_num, NS⟩
          case measure => simp [intOf]; omega
    · obtain rfl : k = n := by omega
      obtain ⟨⟨m, ho⟩, hbel, hlong⟩ := hst.out
      rw [FULL.out] at ho
      obtain ⟨A8, c8, rfl, _⟩ := ho.form
      have HO := Lib.hid (And.intro (sl_by ho.sl) (And.intro hbel hlong))
      clear ho hbel hlong hst
      go_wp2_with fail
      refine (SP.out _ _ _ HO.out.1).mono ?_
      rintro e w2 ⟨u2, rfl, hls, hb2⟩
      obtain ⟨A9, c9, rfl⟩ := hls.form
      have H2 := Lib.hid (And.intro hls hb2)
      clear hls hb2
      have EF := Lib.hid (efun_any (splitL z (joinB R)) R _ _ _ _ w2 H2.out.1.bys (HV.out.keep (S := fun _ => False) (Keep.trans (T := fun _ => False) (Keep.of_below' HO.out.2.1) (Keep.of_below' H2.out.2) (fun _ _ h => h)) (fun _ _ _ h => h)))
      have BL := Lib.hid (show Below w.heap.size w w2 from HO.out.2.1.trans (H2.out.2.mono HO.out.2.1.size))
      have BY := Lib.hid (show By w2 (fun b => w.heap.size ≤ b) (.slice A8 m c8) (joinB R) from HO.out.1.keep (Keep.of_below' H2.out.2) (fun _ _ _ h => h))
      by_cases hs : splitL z (joinB R) = R
      · have FIN := Lib.hid (YES.out w2 A8 m c8 (PK.out HO.out.2.2 hs) BY.out BL.out)
        rw [decide_eq_true hs] at EF
        clear hs
        generalize (splitL z (joinB R)).length = n9 at *
        go_wp2_with (go_at_call 63; refine EF.out.mono ?_; rintro e w3 ⟨rfl, rfl⟩)
        go_ret3
        exact FIN.out
      · have FIN := Lib.hid (NO.out w2 BL.out (fun h => hs (PS.out h)))
        rw [decide_eq_false hs] at EF
        clear hs
        generalize (splitL z (joinB R)).length = n9 at *
        go_wp2_with (go_at_call 63; refine EF.out.mono ?_; rintro e w3 ⟨rfl, rfl⟩)
        go_ret3
        exact FIN.out
end Go.Proofs.Ytakchlaoimnnhaa

/- Contract of image.Get. -/
import Derived.Test.YtpedkcmcbejdiaaImg8
namespace Go.Proofs.Ytpedkcmcbejdiaa
open Go.RowKit
set_option maxRecDepth 100000
set_option linter.unusedVariables false
set_option linter.unusedSimpArgs false

/-- What is got of bytes: the error, the disk's bytes. -/
def getI (b : List UInt8) : Int × List UInt8 :=
  if b.length < 2 then (12, []) else if 4096 < getN (pieceOf b 0 2) then (11, [])
  else if (readF (getN (pieceOf b 0 2)) b 2 (getN (pieceOf b 0 2)) []).1 ≠ 0 then ((readF (getN (pieceOf b 0 2)) b 2 (getN (pieceOf b 0 2)) []).1, [])
  else if putB (secs (readF (getN (pieceOf b 0 2)) b 2 (getN (pieceOf b 0 2)) []).2) = b then (0, (readF (getN (pieceOf b 0 2)) b 2 (getN (pieceOf b 0 2)) []).2) else (11, [])
theorem readF_len {M : Nat} {b : List UInt8} : ∀ (f p left : Nat) (acc : List UInt8), acc.length + 512 * left ≤ M → (readF f b p left acc).2.length ≤ M
  | 0, _, _, _, h => by unfold readF; simp; omega
  | f + 1, p, left, acc, h => by
    unfold readF
    split
    · simp; omega
    · split
      · simp
      · split
        · simp
        · rename_i h1 h2 h3
          have hle : getN (pieceOf b (p + 1) 2) ≤ left := by omega
          split
          · exact readF_len f _ _ _ (by rw [List.length_append, zer_len]; omega)
          · split
            · simp
            · rename_i h4
              exact readF_len f _ _ _ (by rw [List.length_append, piece_len _ _ _ (by omega)]; omega)
theorem numR_two (b : List UInt8) : numR b 0 false 2 = if b.length < 2 then (0, 0, true) else ((getN (pieceOf b 0 2) : Int), 2, false) := by
  split
  · have hok : getOk b ((0 : Nat) : Int) 2 = false := getOk_no (.inr (by show (b.length : Int) < ((0 : Nat) : Int) + (2 : Nat); omega))
    have hok' : getOk b 0 2 = false := by simpa using hok
    simp [numR, hok']
  · exact num_2 (by omega)
theorem rdr_mono' {w : World} {p : Nat} {F G : Nat → Prop} {l : List UInt8} {k : Nat} {bad : Bool} (h : Rdr w p F l k bad) (hf : ∀ b, b < w.heap.size → F b → G b) (hp : ¬ G p) : Rdr w p G l k bad := by
  obtain ⟨vs, h1, h2, h3, h4⟩ := h
  exact ⟨vs, h1, h2.mono hf, hp, h4⟩
theorem secs_nil : secs [] = [] := rfl
set_option maxHeartbeats 4000000 in
theorem iget_any (b : List UInt8) (v : Value) (F : Nat → Prop) (w : World) (hv : By w F v b) (hb : b.length ≤ 16777216) :
    Calls Try.prog 17 #[v] w fun e w' => ∃ d, e = .returned (.tuple #[d, .int .i64 (getI b).1]) ∧ Dk w' (fun x => w.heap.size ≤ x) d (secs (getI b).2) ∧ (d = .pointer none ↔ (getI b).1 ≠ 0) ∧ Below w.heap.size w w' := by
  have RD := Lib.hid (fun W (hk : Keep (fun _ => False) w W) => read_any b v F W (hv.keep hk (fun _ _ _ h => h)) (by omega))
  have HV := Lib.hid hv
  have NM := numR_two b
  obtain ⟨res, hres⟩ : ∃ res, getI b = res := ⟨_, rfl⟩
  have HRES := Lib.hid hres
  have PE := Lib.hid (show ∀ u G W (ys : List UInt8), Keep (fun _ => False) w W → By W G u ys → Calls Try.prog 36 #[u, v] W fun e w' => e = .returned (.bool (decide (ys = b))) ∧ W = w' from fun u G W ys hk hy => pbequal_any ys b u v G F W hy (hv.keep hk (fun _ _ _ h => h)))
  rw [hres]
  clear hres
  obtain ⟨A, c, rfl, -, -, -, -⟩ := hv
  generalize hL : b.length = L at *
  have HL := Lib.hid hL
  clear hL
  go_enter Try.func17, Try.ntmps17
  go_wp2_with fail
  with_reducible refine (RD.out _ (Keep.refl _ _)).mono ?_
  rintro e w1 ⟨q, rfl, hr, hq, hb1⟩
  have hq1 : q < w1.heap.size := by obtain ⟨_, h, _⟩ := hr; exact (Array.getElem?_eq_some_iff.1 h).1
  have NU := Lib.hid (rnum_any (rdr_mono' hr (G := fun x => w.heap.size ≤ x ∧ x ≠ q ∧ x < w1.heap.size) (fun x hx h => ⟨h.1, h.2, hx⟩) (by simp)) 2)
  have HB1 := Lib.hid hb1
  clear hr hb1 RD
  obtain ⟨n, p, bad, hn⟩ : ∃ n p bad, numR b 0 false 2 = (n, p, bad) := ⟨_, _, _, rfl⟩
  rw [hn] at NU NM
  clear hn
  go_wp2_with fail
  with_reducible refine NU.out.mono ?_
  rintro e w2 ⟨rfl, h2⟩
  have OKR := Lib.hid (rok_any h2.1)
  have HR := Lib.hid h2.1
  have HB2 := Lib.hid (show Below w.heap.size w w2 from ((Keep.of_below HB1.out).trans h2.2 (fun x _ e => by omega)).to_below (Nat.le_refl _))
  have hq2 : q < w2.heap.size := Nat.lt_of_lt_of_le hq1 h2.2.size
  have hz2 := h2.2.size
  clear h2 NU
  go_wp2_with fail
  with_reducible refine OKR.out.mono ?_
  rintro e w3 ⟨rfl, rfl⟩
  by_cases hl : L < 2
  · rw [if_pos hl] at NM
    injection NM with e1 e2
    injection e2 with e2 e3
    subst e1 e2 e3
    have hr1 : res = (12, []) := by rw [← HRES.out]; unfold getI; rw [if_pos (by rw [HL.out]; exact hl)]
    subst hr1
    go_wp2
    go_ret2
    exact ⟨_, rfl, by rw [secs_nil]; exact Dk.nil _ _, by simp, HB2.out⟩
  · rw [if_neg hl] at NM
    injection NM with e1 e2
    injection e2 with e2 e3
    subst e1 e2 e3
    have hnb := getN2_lt b 0
    have HG := Lib.hid (show res = if 4096 < getN (pieceOf b 0 2) then (11, [])
      else if (readF (getN (pieceOf b 0 2)) b 2 (getN (pieceOf b 0 2)) []).1 ≠ 0 then ((readF (getN (pieceOf b 0 2)) b 2 (getN (pieceOf b 0 2)) []).1, [])
      else if putB (secs (readF (getN (pieceOf b 0 2)) b 2 (getN (pieceOf b 0 2)) []).2) = b then (0, (readF (getN (pieceOf b 0 2)) b 2 (getN (pieceOf b 0 2)) []).2) else (11, []) by rw [← HRES.out]; unfold getI; rw [if_neg (by rw [HL.out]; exact hl)])
    generalize getN (pieceOf b 0 2) = N at *
    clear HRES OKR
    by_cases hn : 4096 < N
    · have f1 : (4096 : Int) < (N : Int) := by omega
      rw [if_pos hn] at HG
      have hr1 := HG.out
      subst hr1
      go_wp2
      go_ret2
      exact ⟨_, rfl, by rw [secs_nil]; exact Dk.nil _ _, by simp, HB2.out⟩
    · rw [if_neg hn] at HG
      have f1 : ¬ (4096 : Int) < (N : Int) := by omega
      have RI := Lib.hid (iread_any b q 2 N _ w2 HR.out hq2 (fun x h => by have := h.2.2; omega) (by omega) (by rw [HL.out]; exact hb))
      have RL := Lib.hid (readF_len (M := 2097152) (b := b) N 2 N [] (by simp; omega))
      obtain ⟨er, all, hra⟩ : ∃ er all, readF N b 2 N [] = (er, all) := ⟨_, _, rfl⟩
      rw [hra] at RI RL HG
      clear hra HR
      go_wp2_with fail
      with_reducible refine RI.out.mono ?_
      rintro e w4 ⟨A4, n4, c4, rfl, ho4, hk4⟩
      have H4 := Lib.hid (And.intro ho4.by_ (show Below w.heap.size w w4 from ((Keep.of_below HB2.out).trans hk4 (fun x _ e => by omega)).to_below (Nat.le_refl _)))
      clear ho4 hk4 RI
      by_cases he : er = 0
      · subst he
        rw [if_neg (by simp)] at HG
        have hq4 : all.length / 512 ≤ 4096 := by have h : all.length ≤ 2097152 := RL.out; omega
        have OF := Lib.hid (dof_any all _ _ w4 H4.out.1 hq4)
        go_wp2_with fail
        with_reducible refine OF.out.mono ?_
        rintro e w5 ⟨p5, gs, u5, rfl, hd5⟩
        have SL := secs_len all
        have PU := Lib.hid (iput_any _ (secs all) _ w5 hd5.dk (by simp) (by omega))
        have HD := Lib.hid (And.intro hd5.dk (H4.out.2.trans (hd5.below.mono H4.out.2.size)))
        have hz5 := H4.out.2.size
        clear hd5 OF SL
        go_wp2_with fail
        with_reducible refine PU.out.mono ?_
        rintro e w6 ⟨A6, n6, c6, rfl, ho6, hb6⟩
        have HD6 := Lib.hid (And.intro (HD.out.1.same (Keep.of_below' hb6)) (HD.out.2.trans (hb6.mono HD.out.2.size)))
        have PQ := Lib.hid (PE.out _ _ w6 _ (Keep.of_below' HD6.out.2) ho6.by_)
        clear ho6 hb6 HD PU
        by_cases hp : putB (secs all) = b
        · rw [decide_eq_true hp] at PQ
          rw [if_pos hp] at HG
          have hr1 := HG.out
          subst hr1
          go_wp2_with fail
          with_reducible refine PQ.out.mono ?_
          rintro e w7 ⟨rfl, rfl⟩
          go_wp2
          go_ret2
          exact ⟨_, rfl, HD6.out.1.mono (fun x _ h => by omega), by simp, HD6.out.2⟩
        · rw [decide_eq_false hp] at PQ
          rw [if_neg hp] at HG
          have hr1 := HG.out
          subst hr1
          go_wp2_with fail
          with_reducible refine PQ.out.mono ?_
          rintro e w7 ⟨rfl, rfl⟩
          go_wp2
          go_ret2
          exact ⟨_, rfl, by rw [secs_nil]; exact Dk.nil _ _, by simp, HD6.out.2⟩
      · rw [if_pos he] at HG
        have hr1 := HG.out
        subst hr1
        have e1 : (er != 0) = true := by simpa using he
        clear he
        go_wp2
        go_ret2
        exact ⟨_, rfl, by rw [secs_nil]; exact Dk.nil _ _, by simpa using e1, H4.out.2⟩
end Go.Proofs.Ytpedkcmcbejdiaa

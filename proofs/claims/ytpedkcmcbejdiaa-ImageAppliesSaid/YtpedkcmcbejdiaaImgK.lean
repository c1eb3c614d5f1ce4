/- Contract of image.Apply: the walk. -/
import Derived.Test.YtpedkcmcbejdiaaImgJ
namespace Go.Proofs.Ytpedkcmcbejdiaa
open Go.RowKit
set_option maxRecDepth 100000
set_option linter.unusedVariables false
set_option linter.unusedSimpArgs false

theorem iapply_nil (p : List UInt8) (v : Value) (F : Nat → Prop) (w : World) (hv : By w F v p) : Calls Try.prog 8 #[.pointer none, v] w fun e w' => e = .returned (.tuple #[.pointer none, .int .i64 4]) ∧ w = w' := by
  obtain ⟨A, c, rfl, -, -, -, -⟩ := hv
  generalize p.length = n
  go_enter Try.func8, Try.ntmps8
  go_wp2
  go_ret2
  exact ⟨rfl, rfl⟩
theorem bytesR_512 {p : List UInt8} {k : Nat} (h : k + 514 ≤ p.length) : bytesR p (k + 2) false 512 = (pieceOf p (k + 2) 512, k + 514, false) := by
  unfold bytesR
  rw [if_neg (by decide), if_neg (by omega)]
  rfl
theorem bytesR_bad {p : List UInt8} {k : Nat} (h : p.length < k + 514) {a : Int} {pk : Nat} {bk : Bool} (e : numR p k false 2 = (a, pk, bk)) : (bytesR p pk bk 512).2.2 = true := by
  by_cases h2 : k + 2 ≤ p.length
  · rw [num_2 h2] at e
    injection e with e1 e2
    injection e2 with e2 e3
    subst e1 e2 e3
    unfold bytesR
    rw [if_neg (by decide), if_pos (by omega)]
  · have hok : getOk p (k : Int) 2 = false := getOk_no (.inr (by show (p.length : Int) < (k : Int) + (2 : Nat); omega))
    have : numR p k false 2 = (0, k, true) := by simp [numR, hok]
    rw [this] at e
    injection e with e1 e2
    injection e2 with e2 e3
    subst e1 e2 e3
    simp [bytesR]
set_option maxHeartbeats 8000000 in
theorem iapply_any (d : Value) (R : List (List UInt8)) (p : List UInt8) (v : Value) (F0 G : Nat → Prop) (w : World) (hd : Dk w F0 d R) (hdn : d ≠ .pointer none) (hR : R.length ≤ 4096) (hv : By w G v p) (hp : p.length ≤ 16777216) :
    Calls Try.prog 8 #[d, v] w fun e w' => ∃ d', e = .returned (.tuple #[d', .int .i64 (appI R.flatten p).1]) ∧ Dk w' (fun x => w.heap.size ≤ x) d' (secs (appI R.flatten p).2) ∧ (d' = .pointer none ↔ (appI R.flatten p).1 ≠ 0) ∧ Below w.heap.size w w' := by
  have RD := Lib.hid (fun W (hk : Keep (fun _ => False) w W) => read_any p v G W (hv.keep hk (fun _ _ _ h => h)) (by omega))
  have DB := Lib.hid (fun W (hk : Keep (fun _ => False) w W) => dbytes_any d R F0 W (hd.same hk) hR)
  obtain ⟨i0, hi0, hz0, hz1, hz2⟩ := info_parts info_byte
  have NM := numR_two p
  obtain ⟨res, hres⟩ : ∃ res, appI R.flatten p = res := ⟨_, rfl⟩
  have HRES := Lib.hid hres
  rw [hres]
  clear hres
  have FL := Lib.hid (flat_512 hd.1)
  obtain ⟨pd, rfl⟩ : ∃ pd, d = .pointer (some pd) := by
    obtain ⟨_, ⟨rfl, _⟩ | ⟨p, u, m, rfl, _⟩⟩ := hd
    · exact absurd rfl hdn
    · exact ⟨_, rfl⟩
  clear hdn hd
  obtain ⟨A, c, rfl, -, -, -, -⟩ := hv
  generalize R.flatten = a at *
  generalize hL : p.length = L at *
  have HL := Lib.hid hL
  clear hL
  go_enter Try.func8, Try.ntmps8
  go_wp2_with fail
  with_reducible refine (RD.out _ (Keep.refl _ _)).mono ?_
  rintro e w1 ⟨q, rfl, hr, hq, hb1⟩
  have hq1 : q < w1.heap.size := by obtain ⟨_, h, _⟩ := hr; exact (Array.getElem?_eq_some_iff.1 h).1
  have NU := Lib.hid (rnum_any (rdr_mono' hr (G := fun x => w.heap.size ≤ x ∧ x ≠ q ∧ x < w1.heap.size) (fun x hx h => ⟨h.1, h.2, hx⟩) (by simp)) 2)
  have HB1 := Lib.hid hb1
  clear hr hb1 RD
  obtain ⟨n, k, bad, hn⟩ : ∃ n k bad, numR p 0 false 2 = (n, k, bad) := ⟨_, _, _, rfl⟩
  rw [hn] at NU NM
  clear hn
  go_wp2_with fail
  with_reducible refine NU.out.mono ?_
  rintro e w2 ⟨rfl, h2⟩
  have OKR := Lib.hid (rok_any h2.1)
  have HR := Lib.hid h2.1
  have HB2 := Lib.hid (show Below w.heap.size w w2 from ((Keep.of_below HB1.out).trans h2.2 (fun x _ e => by omega)).to_below (Nat.le_refl _))
  have hq2 : q < w2.heap.size := Nat.lt_of_lt_of_le hq1 h2.2.size
  have hz2' := h2.2.size
  clear h2 NU
  go_wp2_with fail
  with_reducible refine OKR.out.mono ?_
  rintro e w3 ⟨rfl, rfl⟩
  by_cases hl : L < 2
  · rw [if_pos hl] at NM
    injection NM with e1 e2
    injection e2 with e2 e3
    subst e1 e2 e3
    have hr1 : res = (12, []) := by rw [← HRES.out]; unfold appI; rw [if_pos (by rw [HL.out]; exact hl)]
    subst hr1
    go_wp2
    go_ret2
    exact ⟨_, rfl, by rw [secs_nil]; exact Dk.nil _ _, by simp, HB2.out⟩
  rw [if_neg hl] at NM
  injection NM with e1 e2
  injection e2 with e2 e3
  subst e1 e2 e3
  have hnb := getN2_lt p 0
  have HG := Lib.hid (show res = if 4096 < getN (pieceOf p 0 2) then (11, []) else appL p.length p 2 (getN (pieceOf p 0 2)) (-1) (cutB a (512 * getN (pieceOf p 0 2))) by rw [← HRES.out]; unfold appI; rw [if_neg (by rw [HL.out]; exact hl)])
  generalize getN (pieceOf p 0 2) = N at *
  clear HRES OKR
  by_cases hn : 4096 < N
  · have f1 : (4096 : Int) < (N : Int) := by omega
    rw [if_pos hn] at HG
    have hr1 := HG.out
    subst hr1
    go_wp2
    go_ret2
    exact ⟨_, rfl, by rw [secs_nil]; exact Dk.nil _ _, by simp, HB2.out⟩
  rw [if_neg hn] at HG
  have f1 : ¬ (4096 : Int) < (N : Int) := by omega
  obtain ⟨m, hm⟩ : ∃ m, m = 512 * N := ⟨_, rfl⟩
  have em : (N : Int) * 512 = (m : Int) := by omega
  have ew : IntKind.i64.wrap (m : Int) = (m : Int) := IntWalk.i64_in _ (by omega)
  rw [← hm] at HG
  have HM := Lib.hid hm
  have hm2 : m ≤ 2097152 := by omega
  clear hm
  go_wp2_with (first
    | (at_make; refine wpList_make_full _ rfl _ _ 22 rfl w2.heap.size 5 i0 _ 1 Try.underlying22 hi0 hz0 hz1 _ _ _ _ m rfl rfl ?e1 ?e2 ?e3 ?e4 ?e5 ?_))
  case e1 => omega
  case e2 => omega
  case e3 => rw [hz2]; omega
  case e4 => unfold maxLen; omega
  case e5 => exact Nat.le_refl _
  intro w4 hrow hgr
  have hown := Own.of_row hrow
  rw [bv_zeros] at hown
  have hk4 : Keep (fun _ => False) w2 w4 := ⟨hgr.os, hgr.tape, hgr.output, hgr.size, fun k hk _ => hgr.block k hk (by simp)⟩
  have HO4 := Lib.hid (And.intro hown hk4)
  clear hrow hgr hown hk4
  go_wp2_with fail
  with_reducible refine (DB.out _ ((Keep.of_below' HB2.out).trans HO4.out.2 (fun _ _ h => h))).mono ?_
  rintro e w5 ⟨A5, n5, c5, rfl, ho5, hb5⟩
  have ha5 := ho5.len
  have HO5 := Lib.hid (And.intro (HO4.out.1.keep (Keep.of_below' hb5) (fun _ _ h => h)) (And.intro (HO4.out.2.trans (Keep.of_below' hb5) (fun _ _ h => h)) ho5.by_))
  clear ho5 hb5 HO4 DB
  subst ha5
  obtain ⟨g, cur, hA⟩ := HO5.out.1.cur_
  have HA := Lib.hid hA
  clear hA
  go_wp2_with (refine wpList_copy_gen (by rfl) _ _ _ _ (by rfl) 5 Try.underlying22 size_byte _ _ _ g 0 cur 5 (by rfl) HA.out _ _ a.length (bv a) (by rfl) HO5.out.2.2 (bv_one a) ?_)
  intro w6 hlaid
  obtain ⟨hown6, hk6⟩ := HO5.out.1.laid HA.out hlaid (by rw [List.length_take]; omega)
  have hown6 := hown6.re (ys := bv (cutB a m)) (by exact cut_cells a m) (by rw [bv_len, cutB_len])
  have KW := Lib.hid (show Keep (fun x => w2.heap.size ≤ x) w2 w6 from (HO5.out.2.1.mono (fun _ _ h => h.elim)).trans hk6 (fun x hx e => (HO5.out.1.ownB x e).1))
  have AL := Lib.hid (AllSt.of_own hown6 (by simp) hm2)
  have H6 := Lib.hid (show ApSt w w6 q (fun x => w.heap.size ≤ x ∧ x ≠ q ∧ x < w1.heap.size) w2.heap.size p 2 _ m (cutB a m) N (-1) res from
    ⟨rdr_keep HR.out KW.out (by omega) (fun b _ h => by omega), AL.out, ((Keep.of_below HB2.out).trans KW.out (fun x _ h => by have := HB2.out.size; omega)).to_below (Nat.le_refl _), KW.out.size, ⟨p.length, by omega, HG.out.symm⟩⟩)
  clear hlaid hk6 hown6 HO5 HA KW AL HR HG
  go_wp2
  go_loopw [9] (fun zz wr => ∃ (k : Nat) (z : Int) (out : List UInt8), zz = .int .i64 z ∧ Hid (ApSt w wr q (fun x => w.heap.size ≤ x ∧ x ≠ q ∧ x < w1.heap.size) w2.heap.size p k (.slice (some ⟨w2.heap.size, 0, none⟩) m m) m out N z res)) (fun _ wr => L - plW wr q)
  case atStart => exact ⟨2, -1, _, rfl, H6⟩
  case round =>
    obtain ⟨k, z, out, rfl, hst⟩ := hrel
    have LF := Lib.hid (rleft_any hst.out.rd)
    rcases hst.out.next with ⟨hle, hres⟩ | ⟨hlt, f, hf, hres⟩
    · subst hres
      have hkL : k = L := by obtain ⟨_, _, _, _, h, _⟩ := hst.out.rd; rw [HL.out] at hle h; omega
      subst hkL
      have OF := Lib.hid (fun W (hk : Keep (fun _ => False) wr W) => dof_any out _ _ W ((hst.out.all.keep hk (fun _ _ _ h => h)).by_) (by have := hst.out.all.1; omega))
      rw [HL.out] at LF
      go_wp2_with fail
      with_reducible refine LF.out.mono ?_
      rintro e w7 ⟨rfl, rfl⟩
      go_wp2_with fail
      with_reducible refine (OF.out _ ((Keep.refl _ wr).drew)).mono ?_
      rintro e w8 ⟨p8, gs, u8, rfl, hd8⟩
      have H8 := Lib.hid (And.intro hd8.dk (show Below w.heap.size w w8 from hst.out.below.trans (Below.trans ((Keep.refl (fun _ => False) wr).drew.to_below'.mono hst.out.below.size) (hd8.below.mono hst.out.below.size))))
      have hz8 := hst.out.below.size
      clear hd8
      go_wp2
      go_ret2
      exact ⟨_, rfl, H8.out.1.mono (fun x _ h => by simp at h; omega), by simp, H8.out.2⟩
    · rw [HL.out] at LF hlt
      have g0 : (0 : Int) < (L : Int) - (k : Int) := by omega
      have RD0 := rdr_keep hst.out.rd ((Keep.refl (fun _ => False) wr).drew) (fun h => h) (fun _ _ _ h => h)
      have NU := Lib.hid (rnum_any RD0 2)
      obtain ⟨a1, pk, bk, e1⟩ : ∃ a1 pk bk, numR p k false 2 = (a1, pk, bk) := ⟨_, _, _, rfl⟩
      obtain ⟨x, px, bx, e2⟩ : ∃ x px bx, bytesR p pk bk 512 = (x, px, bx) := ⟨_, _, _, rfl⟩
      rw [e1] at NU
      have E1 := Lib.hid e1
      have E2 := Lib.hid e2
      have HRS := Lib.hid hres
      clear e1 e2 hres RD0
      go_wp2_with fail
      with_reducible refine LF.out.mono ?_
      rintro e w7 ⟨rfl, rfl⟩
      go_wp2_with fail
      with_reducible refine NU.out.mono ?_
      rintro e w8 ⟨rfl, h8⟩
      have BY := Lib.hid (rbytes_any h8.1 512 (by decide))
      rw [E2.out] at BY
      have K8 := Lib.hid (show Keep (fun y => y = q) wr w8 from ((Keep.refl (fun y => y = q) wr).drew).trans h8.2 (fun _ _ h => h))
      clear h8 NU LF
      go_wp2_with fail
      with_reducible refine BY.out.mono ?_
      rintro e w9 ⟨A9, c9, rfl, hy9, h9⟩
      have K9 := Lib.hid (show Keep (fun y => y = q) wr w9 from K8.out.trans h9.2 (fun _ _ h => h))
      have R9 := Lib.hid h9.1
      have OKR := Lib.hid (rok_any h9.1)
      have Y9 := Lib.hid hy9
      have A9' := Lib.hid (hst.out.all.keep K9.out (fun b h1 h2 e => by omega))
      have B9 := Lib.hid (show Below w.heap.size w w9 from ((Keep.of_below hst.out.below).trans K9.out (fun y _ e => by omega)).to_below (Nat.le_refl _))
      have hz9 := Nat.le_trans hst.out.hB K9.out.size
      have PL0 := Lib.hid (plW_of hst.out.rd)
      clear h9 hy9 BY K8 hst
      go_wp2_with fail
      with_reducible refine OKR.out.mono ?_
      rintro e wa ⟨rfl, rfl⟩
      clear OKR
      by_cases hs : L < k + 514
      · have hbx : bx = true := by
          have := bytesR_bad (by rw [HL.out]; exact hs) E1.out
          rw [E2.out] at this
          exact this
        subst hbx
        have hr1 : res = (12, []) := by rw [HRS.out, if_pos (by rw [HL.out]; exact hs)]
        subst hr1
        go_wp2
        go_ret2
        exact ⟨_, rfl, by rw [secs_nil]; exact Dk.nil _ _, by simp, B9.out⟩
      have e1 := E1.out
      rw [num_2 (by rw [HL.out]; omega)] at e1
      injection e1 with e1 e1'
      injection e1' with e1' e1''
      subst e1 e1' e1''
      have e2 := E2.out
      rw [bytesR_512 (by rw [HL.out]; omega)] at e2
      injection e2 with e2 e2'
      injection e2' with e2' e2''
      subst e2 e2' e2''
      have L5 := Lib.hid (show (pieceOf p (k + 2) 512).length = 512 from piece_len _ _ _ (by rw [HL.out]; omega))
      have hi := getN2_lt p k
      have HR2 := Lib.hid (show res = (if N ≤ getN (pieceOf p k 2) ∨ (getN (pieceOf p k 2) : Int) ≤ z then (2, []) else appL f p (k + 514) N (getN (pieceOf p k 2)) (setAt out (getN (pieceOf p k 2)) (pieceOf p (k + 2) 512))) by rw [HRS.out, if_neg (by rw [HL.out]; exact hs)])
      clear E1 E2 HRS
      generalize getN (pieceOf p k 2) = i at *
      generalize pieceOf p (k + 2) 512 = x at *
      rw [L5.out] at Y9 ⊢
      by_cases d1 : N ≤ i
      · have g1 : (N : Int) ≤ (i : Int) := by omega
        have hr1 : res = (2, []) := by rw [HR2.out, if_pos (.inl d1)]
        subst hr1
        go_wp2
        go_ret2
        exact ⟨_, rfl, by rw [secs_nil]; exact Dk.nil _ _, by simp, B9.out⟩
      have g1 : ¬ (N : Int) ≤ (i : Int) := by omega
      by_cases d2 : (i : Int) ≤ z
      · have hr1 : res = (2, []) := by rw [HR2.out, if_pos (.inr d2)]
        subst hr1
        go_wp2
        go_ret2
        exact ⟨_, rfl, by rw [secs_nil]; exact Dk.nil _ _, by simp, B9.out⟩
      obtain ⟨j, hj⟩ : ∃ j, 512 * i = j := ⟨_, rfl⟩
      have ej : (i : Int) * 512 = (j : Int) := by omega
      have ewj : IntKind.i64.wrap (j : Int) = (j : Int) := IntWalk.i64_in _ (by omega)
      have hjm : j + 512 ≤ m := by have := HM.out; omega
      have q1 : j ≤ m := by omega
      have q2 : ¬ m = j := by omega
      have ROW := Lib.hid (show w9.heap[w2.heap.size]? = some (.cells (bv out).toArray 5 (0, 0)) ∧ out.length = m from by
        obtain ⟨a1, a2, A, e, a4, a5⟩ := A9'.out
        injection e with e
        subst e
        obtain ⟨g, e, _, hg⟩ := a5 (by omega)
        injection e with e
        injection e with e
        subst e
        exact ⟨hg, a1⟩)
      have SET := Lib.hid (fun W' (hl : Laid w9 W' w2.heap.size j (bv out).toArray (bv x)) => A9'.out.set (i := i) (n := N) HM.out (by omega) L5.out (by rw [hj]; exact hl))
      have HR3 := Lib.hid (show appL f p (k + 514) N i (setAt out i x) = res by rw [HR2.out, if_neg (by omega)])
      clear HR2 hj
      go_wp2_with (refine wpList_copy_gen (by rfl) _ _ _ _ (by rfl) 5 Try.underlying22 size_byte _ (m - j) _ w2.heap.size j (bv out).toArray 5 (by rfl) (fun _ => ⟨by simp, ROW.out.1, by rw [List.size_toArray, bv_len, ROW.out.2]; omega⟩) _ _ 512 (bv x) (by rfl) (by have := Y9.out; unfold By at this; rwa [L5.out] at this) (bv_one x) ?_)
      intro wb hlaid
      rw [show (bv x).take (min 512 (m - j)) = bv x from List.take_of_length_le (by rw [bv_len, L5.out]; omega)] at hlaid
      obtain ⟨s1, s2, -, -⟩ := SET.out wb hlaid
      have H9 := Lib.hid (show ApSt w wb q (fun x => w.heap.size ≤ x ∧ x ≠ q ∧ x < w1.heap.size) w2.heap.size p (k + 514) (.slice (some ⟨w2.heap.size, 0, none⟩) m m) m (setAt out i x) N i res from
        ⟨rdr_keep R9.out s2 (by omega) (fun b _ h => by omega), s1, ((Keep.of_below B9.out).trans s2 (fun y _ e => by have := HB2.out.size; omega)).to_below (Nat.le_refl _), Nat.le_trans hz9 s2.size, ⟨f, by rw [HL.out] at hf ⊢; omega, HR3.out⟩⟩)
      have PL1 := Lib.hid (plW_of H9.out.rd)
      clear hlaid s1 s2 SET ROW A9' Y9
      go_wp2
      go_roundw
      case rel => exact ⟨k + 514, i, _, rfl, H9⟩
      case measure => rw [PL0.out, PL1.out]; omega
end Go.Proofs.Ytpedkcmcbejdiaa

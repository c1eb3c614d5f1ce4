/- Contract of vivariumref38.Apply. -/
import Derived.Test.YtpedkcmcbejdiaaImgK
namespace Go.Proofs.Ytpedkcmcbejdiaa
open Go.RowKit
set_option maxRecDepth 100000
set_option linter.unusedVariables false
set_option linter.unusedSimpArgs false

/-- Where the reference's Apply stands. -/
def RaSt (w W : World) (p : List UInt8) (k : Nat) (u : Value) (out : List UInt8) (n : Nat) (z : Int) (res : Int × List UInt8) : Prop :=
  Ob W w.heap.size u out ∧ Below w.heap.size w W ∧ out.length = 512 * n ∧ ∃ f, p.length - k ≤ f ∧ appL f p k n z out = res
theorem RaSt.next {w W : World} {p : List UInt8} {k : Nat} {u : Value} {out : List UInt8} {n : Nat} {z : Int} {res : Int × List UInt8} (h : RaSt w W p k u out n z res) : (p.length ≤ k ∧ res = (0, out)) ∨ (k < p.length ∧ ∃ f, p.length - k ≤ f + 1 ∧ res = (if p.length < k + 514 then (12, [])
    else if n ≤ getN (pieceOf p k 2) ∨ (getN (pieceOf p k 2) : Int) ≤ z then (2, [])
    else appL f p (k + 514) n (getN (pieceOf p k 2)) (setAt out (getN (pieceOf p k 2)) (pieceOf p (k + 2) 512)))) := by
  obtain ⟨_, _, _, f, hf, hr⟩ := h
  by_cases hk : p.length ≤ k
  · refine .inl ⟨hk, ?_⟩
    rw [← hr]
    cases f with
    | zero => rfl
    | succ f => unfold appL; rw [if_pos hk]
  · obtain ⟨f, rfl⟩ : ∃ g, f = g + 1 := ⟨f - 1, by omega⟩
    refine .inr ⟨by omega, f, hf, ?_⟩
    unfold appL at hr
    rw [if_neg hk] at hr
    exact hr.symm
set_option maxHeartbeats 8000000 in
theorem rapply_any (a p : List UInt8) (u v : Value) (F G : Nat → Prop) (w : World) (ha : By w F u a) (hv : By w G v p) (hal : a.length ≤ 16777216) (hp : p.length ≤ 16777216) :
    Calls Try.prog 10 #[u, v] w fun e w' => ∃ A n c, e = .returned (.tuple #[.slice A n c, .int .i64 (appI a p).1]) ∧ Ob w' w.heap.size (.slice A n c) (appI a p).2 ∧ Below w.heap.size w w' := by
  have RG := Lib.hid (fun (s : Nat) z (hz : z = (s : Int)) (hs : s ≤ 1099511627776) W (hk : Keep (fun _ => False) w W) => rget2 p v G W z s (hv.keep hk (fun _ _ _ h => h)) hz hs)
  have HV := Lib.hid hv
  have HA := Lib.hid (fun W (hk : Keep (fun _ => False) w W) => ha.keep hk (fun _ _ _ h => h))
  obtain ⟨res, hres⟩ : ∃ res, appI a p = res := ⟨_, rfl⟩
  have HRES := Lib.hid (show appI a p = res from hres)
  rw [hres]
  clear hres
  obtain ⟨A, c, rfl, h1, h2, -, -⟩ := hv
  obtain ⟨Aa, ca, rfl, -, -, -, -⟩ := ha
  unfold maxLen at h2
  generalize hL : p.length = L at *
  have HL := Lib.hid hL
  generalize hLa : a.length = La at *
  have HLa := Lib.hid hLa
  clear hL hLa
  go_enter Try.func10, Try.ntmps10
  go_wp2_with fail
  with_reducible refine (RG.out 0 0 (by decide) (by decide) _ (Keep.refl _ _)).mono ?_
  rintro e w1 ⟨rfl, rfl⟩
  by_cases hl : L < 2
  · have hd : decide (0 + 2 ≤ L) = false := decide_eq_false (by omega)
    have hr1 : res = (12, []) := by rw [← HRES.out]; unfold appI; rw [if_pos (by rw [HL.out]; exact hl)]
    subst hr1
    rw [hd]
    go_wp2
    go_ret2
    exact ⟨_, _, _, rfl, Ob.nil _ _ _, Below.refl _ _⟩
  have hd : decide (0 + 2 ≤ L) = true := decide_eq_true (by omega)
  rw [hd, if_pos (show 0 + 2 ≤ L by omega)]
  have hnb := getN2_lt p 0
  have HG := Lib.hid (show res = if 4096 < getN (pieceOf p 0 2) then (11, []) else appL p.length p 2 (getN (pieceOf p 0 2)) (-1) (cutB a (512 * getN (pieceOf p 0 2))) by rw [← HRES.out]; unfold appI; rw [if_neg (by rw [HL.out]; exact hl)])
  generalize getN (pieceOf p 0 2) = N at *
  clear HRES hd
  by_cases hn : 4096 < N
  · have f1 : (4096 : Int) < (N : Int) := by omega
    rw [if_pos hn] at HG
    have hr1 := HG.out
    subst hr1
    go_wp2
    go_ret2
    exact ⟨_, _, _, rfl, Ob.nil _ _ _, Below.refl _ _⟩
  rw [if_neg hn] at HG
  have f1 : ¬ (4096 : Int) < (N : Int) := by omega
  obtain ⟨m, hm⟩ : ∃ m, 512 * N = m := ⟨_, rfl⟩
  have em : 512 * (N : Int) = (m : Int) := by omega
  have ew : IntKind.i64.wrap (m : Int) = (m : Int) := IntWalk.i64_in _ (by omega)
  rw [hm] at HG
  have HM := Lib.hid hm
  have hm2 : m ≤ 2097152 := by omega
  clear hm
  go_wp2_with (refine wpList_app (by rfl) _ _ (by rfl) w.heap.size _ [] (by rfl) (Ob.nil _ _ _) F _ a (by rfl) (HA.out _ ((Keep.refl _ w).alloc _)) (by rw [HLa.out]; simp; omega) (by simp) ?_)
  intro A3 n3 c3 w3 ho3 hk3
  have hn3 : n3 = La := by have := ho3.len; rw [this]; simpa using HLa.out
  subst hn3
  have H3 := Lib.hid (And.intro (show Ob w3 w.heap.size (.slice A3 n3 c3) a from by simpa using ho3) (show Below w.heap.size w w3 from ((((Keep.refl (fun _ => False) w).alloc _).trans hk3 (fun x _ e => by simp [ownB] at e)).to_below')))
  clear ho3 hk3
  have hac : a.length ≤ c3 := by
    obtain ⟨_, _, _, _, e, h, _⟩ := H3.out.1
    injection e with e1 e2 e3
    rw [HLa.out]; omega
  have hac' : n3 ≤ c3 := by rw [← HLa.out]; exact hac
  clear hac
  rcases Nat.lt_or_ge m n3 with hc | hc
  case' inl =>
    have g1 : (m : Int) < (n3 : Int) := by omega
    have j1 : m ≤ n3 := by omega
    have j2 : m ≤ c3 := by omega
    have g2 : IntKind.i64.wrap 0 = 0 := by decide
    have O4 := Lib.hid (show Ob w3 w.heap.size (.slice A3 m c3) (a.take m) from by
      obtain ⟨q, h⟩ := H3.out.1
      have hq : q = n3 := by obtain ⟨_, _, _, e, _⟩ := h; injection e with _ e2 _; exact e2.symm
      subst hq
      refine ⟨m, ?_⟩
      have := h.take (k := m) (by omega)
      rw [Nat.mul_one] at this
      unfold bv at this ⊢
      rwa [← List.map_take] at this)
    have CB := Lib.hid (show cutB a m = a.take m ++ zer 0 by unfold cutB zer; rw [show m - a.length = 0 by rw [HLa.out]; omega])
    have TL := Lib.hid (show (a.take m).length = m by rw [List.length_take, HLa.out]; omega)
    go_wp2_with (refine wpList_appZ (by rfl) _ _ (by rfl) w.heap.size _ (a.take m) (by rfl) O4.out 0 (by rfl) (by rw [TL.out]; omega) H3.out.2.size ?_)
    intro A5 n5 c5 w5 ho5 hk5
    have H5 := Lib.hid (show RaSt w w5 p 2 (.slice A5 n5 c5) (cutB a m) N (-1) res from ⟨by rw [CB.out]; exact ho5, append_below0 H3.out.2 O4.out.choose_spec hk5, by rw [cutB_len]; exact HM.out.symm, p.length, by omega, HG.out.symm⟩)
    clear ho5 hk5 O4 CB TL g1 j1 j2 g2
  case' inr =>
    have g1 : ¬ (m : Int) < (n3 : Int) := by omega
    obtain ⟨k0, hk0⟩ : ∃ k0, k0 = m - n3 := ⟨_, rfl⟩
    have g2 : (m : Int) - (n3 : Int) = (k0 : Int) := by omega
    have g3 : IntKind.i64.wrap (k0 : Int) = (k0 : Int) := IntWalk.i64_in _ (by omega)
    have CB := Lib.hid (show cutB a m = a ++ zer k0 by unfold cutB zer; rw [List.take_of_length_le (by rw [HLa.out]; omega), HLa.out, hk0])
    have hk00 : n3 + k0 ≤ 35184372088832 := by omega
    clear hk0
    go_wp2_with (refine wpList_appZ (by rfl) _ _ (by rfl) w.heap.size _ a (by rfl) H3.out.1 k0 (by rfl) (by rw [HLa.out]; exact hk00) H3.out.2.size ?_)
    intro A5 n5 c5 w5 ho5 hk5
    have H5 := Lib.hid (show RaSt w w5 p 2 (.slice A5 n5 c5) (cutB a m) N (-1) res from ⟨by rw [CB.out]; exact ho5, append_below0 H3.out.2 H3.out.1.choose_spec hk5, by rw [cutB_len]; exact HM.out.symm, p.length, by omega, HG.out.symm⟩)
    clear ho5 hk5 CB g1 g2 g3 hk00
  all_goals
    clear H3 HG hac' hc
    go_wp2
    go_loopw [8, 9, 10] (fun y zz kk wr => ∃ (k : Nat) (z : Int) (out : List UInt8) (A6 : Option Addr) (n6 c6 : Nat), k ≤ L + 514 ∧ kk = .int .i64 (k : Int) ∧ zz = .int .i64 z ∧ y = .slice A6 n6 c6 ∧ Hid (RaSt w wr p k (.slice A6 n6 c6) out N z res)) (fun _ _ kk _ => L - (intOf kk).toNat)
    case atStart => exact ⟨2, -1, _, A5, n5, c5, by omega, rfl, rfl, rfl, H5⟩
    case round =>
      obtain ⟨k, z, out, A6, n6, c6, hkL, rfl, rfl, rfl, hst⟩ := hrel
      rcases hst.out.next with ⟨hle, hres⟩ | ⟨hlt, f, hf, hres⟩
      · subst hres
        rw [HL.out] at hle
        have g1 : ¬ (k : Int) < (L : Int) := by omega
        go_wp2
        go_ret2
        exact ⟨_, _, _, rfl, hst.out.1, hst.out.2.1⟩
      · rw [HL.out] at hlt
        have g1 : (k : Int) < (L : Int) := by omega
        have HRS := Lib.hid hres
        clear hres
        obtain ⟨d, hd⟩ : ∃ d, d = L - k := ⟨_, rfl⟩
        have ed : (L : Int) - (k : Int) = (d : Int) := by omega
        have ewd : IntKind.i64.wrap (d : Int) = (d : Int) := IntWalk.i64_in _ (by omega)
        by_cases hs : d < 514
        · have g2 : (d : Int) < (514 : Int) := by omega
          have hr1 : res = (12, []) := by rw [HRS.out, if_pos (by rw [HL.out]; omega)]
          subst hr1
          clear hd
          go_wp2
          go_ret2
          exact ⟨_, _, _, rfl, Ob.nil _ _ _, hst.out.2.1⟩
        have g2 : ¬ (d : Int) < (514 : Int) := by omega
        have hk514 : k + 514 ≤ L := by omega
        have R1 := Lib.hid (RG.out k k rfl (by omega) wr (Keep.of_below' hst.out.2.1))
        rw [decide_eq_true (show k + 2 ≤ L by omega), if_pos (show k + 2 ≤ L by omega)] at R1
        have hi := getN2_lt p k
        have HR2 := Lib.hid (show res = (if N ≤ getN (pieceOf p k 2) ∨ (getN (pieceOf p k 2) : Int) ≤ z then (2, []) else appL f p (k + 514) N (getN (pieceOf p k 2)) (setAt out (getN (pieceOf p k 2)) (pieceOf p (k + 2) 512))) by rw [HRS.out, if_neg (by rw [HL.out]; omega)])
        have L5 := Lib.hid (show (pieceOf p (k + 2) 512).length = 512 from piece_len _ _ _ (by rw [HL.out]; omega))
        generalize getN (pieceOf p k 2) = i at *
        clear hd HRS hs
        go_wp2_with fail
        with_reducible refine R1.out.mono ?_
        rintro e w6 ⟨rfl, rfl⟩
        by_cases d1 : N ≤ i
        · have g3 : (N : Int) ≤ (i : Int) := by omega
          have hr1 : res = (2, []) := by rw [HR2.out, if_pos (.inl d1)]
          subst hr1
          go_wp2
          go_ret2
          exact ⟨_, _, _, rfl, Ob.nil _ _ _, hst.out.2.1⟩
        have g3 : ¬ (N : Int) ≤ (i : Int) := by omega
        by_cases d2 : (i : Int) ≤ z
        · have hr1 : res = (2, []) := by rw [HR2.out, if_pos (.inr d2)]
          subst hr1
          go_wp2
          go_ret2
          exact ⟨_, _, _, rfl, Ob.nil _ _ _, hst.out.2.1⟩
        have HR3 := Lib.hid (show appL f p (k + 514) N i (setAt out i (pieceOf p (k + 2) 512)) = res by rw [HR2.out, if_neg (by omega)])
        have hol := hst.out.2.2.1
        have hn6 : n6 = out.length := hst.out.1.len
        have hnc : n6 ≤ c6 ∧ c6 ≤ 9223372036854775807 := by
          obtain ⟨_, _, _, _, e, h, h', _⟩ := hst.out.1
          injection e with e1 e2 e3
          unfold maxLen at h'
          omega
        obtain ⟨hnc1, hnc2⟩ := hnc
        obtain ⟨j, hj⟩ : ∃ j, j = 512 * i := ⟨_, rfl⟩
        have ej : 512 * (i : Int) = (j : Int) := by omega
        have ewj : IntKind.i64.wrap (j : Int) = (j : Int) := IntWalk.i64_in _ (by omega)
        obtain ⟨j2, hj2⟩ : ∃ j2, j + 512 = j2 := ⟨_, rfl⟩
        have ej2 : (j : Int) + 512 = (j2 : Int) := by omega
        have ewj2 : IntKind.i64.wrap (j2 : Int) = (j2 : Int) := IntWalk.i64_in _ (by omega)
        have q1 : j ≤ n6 := by omega
        have q2 : j ≤ c6 := by omega
        have q3 : j2 ≤ n6 := by omega
        have q4 : j2 ≤ c6 := by omega
        have hn6m : n6 ≤ 2097152 := by have := HM.out; omega
        obtain ⟨bb, oo, rfl, -, -⟩ := HV.out.range (m := 1) (by decide) (by rw [HL.out]; omega)
        obtain ⟨s2, hs2⟩ : ∃ s2, s2 = k + 2 := ⟨_, rfl⟩
        obtain ⟨s3, hs3⟩ : ∃ s3, s3 = k + 514 := ⟨_, rfl⟩
        have es2 : (k : Int) + 2 = (s2 : Int) := by omega
        have ews2 : IntKind.i64.wrap (s2 : Int) = (s2 : Int) := IntWalk.i64_in _ (by omega)
        have es3 : (k : Int) + 514 = (s3 : Int) := by omega
        have ews3 : IntKind.i64.wrap (s3 : Int) = (s3 : Int) := IntWalk.i64_in _ (by omega)
        have q5 : s2 ≤ s3 := by omega
        have q6 : s3 ≤ L := by omega
        have q7 : s3 ≤ c := by omega
        have q8 : ¬ c = s2 := by omega
        have q10 : s2 ≤ c := by omega
        have q11 : k + 514 = s3 := by omega
        have KF := Lib.hid (fun W (hW : Below wr.heap.size wr W) => show By W (fun x => x < wr.heap.size) (.slice A6 n6 c6) out from (hst.out.1.by_.mono (G := fun x => x < wr.heap.size) (fun b hb _ => hb)).keep (Keep.of_below' hW) (fun _ _ _ h => h))
        have PY1 := Lib.hid (fun W (hW : Below wr.heap.size wr W) => show By W (fun x => x < wr.heap.size) (.slice A6 j c6) (out.take j) from by
          have := (KF.out W hW).piece (lo := 0) (m := j) (A' := A6) (c' := c6) (by omega) (fun h a e => by rw [e]; simp [Addr.add]) (by omega) (by unfold maxLen; omega) (fun e => by
            obtain ⟨A', c', e', _, _, h3, _⟩ := KF.out W hW
            injection e' with e1 e2 e3
            rw [e3]; exact h3 (by rw [← e1]; exact e))
          simpa using this)
        have PY2 := Lib.hid (fun W (hW : Keep (fun _ => False) w W) A' c' n' (hA : A' = some ⟨bb, oo + s2, none⟩) (hc : c' = c - s2) (hn : n' = s3 - s2) => show By W G (.slice A' n' c') (pieceOf p (k + 2) 512) from by
          rw [hA, hc, hn, show s3 - s2 = 512 by omega, ← hs2]
          exact (HV.out.keep hW (fun _ _ _ h => h)).piece (lo := s2) (m := 512) (A' := some ⟨bb, oo + s2, none⟩) (c' := c - s2) (by rw [HL.out]; omega) (fun h a e => by cases e; rw [Addr.add_mid]) (by omega) (by unfold maxLen; omega) (fun e => by cases e))
        have PY3W := Lib.hid (fun W (hW : Below wr.heap.size wr W) A' c' n' (hA : 0 < n6 - j2 → A' = A6.map (fun x => x.add j2)) (hA0 : A' ≠ none) (hc : c' = c6 - j2) (hn : n' = n6 - j2) => show By W (fun x => x < wr.heap.size) (.slice A' n' c') (out.drop j2) from by
          rw [hc, hn]
          have := (KF.out W hW).piece (lo := j2) (m := n6 - j2) (A' := A') (c' := c6 - j2) (by omega) (fun h a e => by rw [hA h, e]; rfl) (by omega) (by unfold maxLen; omega) (fun e => absurd e hA0)
          rwa [List.take_of_length_le (by rw [List.length_drop]; omega)] at this)
        have FIN := Lib.hid (fun W A9 n9 c9 (h : Ob W wr.heap.size (.slice A9 n9 c9) (out.take j ++ pieceOf p (k + 2) 512 ++ out.drop j2)) (hW : Below wr.heap.size wr W) => show RaSt w W p (k + 514) (.slice A9 n9 c9) (setAt out i (pieceOf p (k + 2) 512)) N i res from
          ⟨by unfold setAt; rw [← hj, hj2]; exact h.mono hst.out.2.1.size, hst.out.2.1.trans (hW.mono hst.out.2.1.size), by rw [setAt_len hol L5.out (by omega)], f, by rw [HL.out] at hf ⊢; omega, HR3.out⟩)
        have TL := Lib.hid (show (out.take j).length = j by rw [List.length_take]; omega)
        have LB := Lib.hid (show (out.take j ++ pieceOf p (k + 2) 512).length + (out.drop j2).length ≤ 140737488355328 by rw [List.length_append, TL.out, L5.out, List.length_drop]; omega)
        have hA6 : ∃ g6 o6, A6 = some ⟨g6, o6, none⟩ := by
          obtain ⟨A', c', e', _, _, _, hr⟩ := hst.out.1.by_
          injection e' with e1 e2 e3
          subst e1
          obtain ⟨g6, o6, e, _⟩ := hr.at_ (k := 0) (by omega)
          exact ⟨g6, o6, e⟩
        obtain ⟨g6, o6, rfl⟩ := hA6
        have PY3 := Lib.hid (fun W A' c' n' (hW : Below wr.heap.size wr W) => PY3W.out W hW A' c' n')
        have BW := Lib.hid (And.intro hst.out.2.1 HM.out)
        clear HR2 HR3 hst KF PY3W hj hj2 hs2 hs3 hol hn6 hkL
        go_wp2_with (refine wpList_app (by rfl) _ _ (by rfl) wr.heap.size _ [] (by rfl) (Ob.nil _ _ _) _ _ (out.take j) (by rfl) (PY1.out _ (((Keep.refl (fun _ => False) wr).alloc _).to_below')) (by rw [TL.out]; simp; omega) (by simp) ?_)
        intro A7 n7 c7 w7 ho7 hk7
        have H7 := Lib.hid (And.intro (show Ob w7 wr.heap.size (.slice A7 n7 c7) (out.take j) from by simpa using ho7) (show Below wr.heap.size wr w7 from ((((Keep.refl (fun _ => False) wr).alloc _).trans hk7 (fun x _ e => by simp [ownB] at e)).to_below')))
        clear ho7 hk7
        go_wp2_with (refine wpList_app (by rfl) _ _ (by rfl) wr.heap.size _ _ (by rfl) H7.out.1 _ _ _ (by rfl) (PY2.out _ ((Keep.of_below' BW.out.1).trans (Keep.of_below' H7.out.2) (fun _ _ h => h)) _ _ _ rfl rfl rfl) (by rw [TL.out, L5.out]; omega) H7.out.2.size ?_)
        intro A8 n8 c8 w8 ho8 hk8
        have H8 := Lib.hid (And.intro (show Ob w8 wr.heap.size (.slice A8 n8 c8) (out.take j ++ pieceOf p (k + 2) 512) from ho8) (append_below0 H7.out.2 H7.out.1.choose_spec hk8))
        clear ho8 hk8 H7 PY1 PY2
        have PY3 := Lib.hid (fun A' c' n' (hA : 0 < n6 - j2 → A' = some ⟨g6, o6 + j2, none⟩) => PY3.out w8 A' c' n' H8.out.2 (fun h => by rw [hA h]; show _ = some (Addr.add ⟨g6, o6, none⟩ j2); rw [Addr.add_mid]))
        by_cases hc6 : c6 = j2
        · skip
          obtain rfl : n6 = j2 := by omega
          subst hc6
          go_wp2_with (refine wpList_app (by rfl) _ _ (by rfl) wr.heap.size _ _ (by rfl) H8.out.1 _ _ _ (by rfl) (PY3.out _ _ _ (fun h => by omega) (by simp) (by omega) (by omega)) LB.out H8.out.2.size ?_)
          intro A9 n9 c9 w9 ho9 hk9
          have H9 := Lib.hid (FIN.out w9 A9 n9 c9 (by simpa using ho9) (append_below0 H8.out.2 H8.out.1.choose_spec hk9))
          clear ho9 hk9
          go_wp2
          go_roundw
          case rel => exact ⟨k + 514, i, _, A9, n9, c9, by omega, by go_num, rfl, rfl, H9⟩
          case measure => simp [intOf]; omega
        · skip
          have q9 : ¬ c6 = j2 := hc6
          go_wp2_with (refine wpList_app (by rfl) _ _ (by rfl) wr.heap.size _ _ (by rfl) H8.out.1 _ _ _ (by rfl) (PY3.out _ _ _ (fun _ => rfl) (by simp) rfl rfl) LB.out H8.out.2.size ?_)
          intro A9 n9 c9 w9 ho9 hk9
          have H9 := Lib.hid (FIN.out w9 A9 n9 c9 (by simpa using ho9) (append_below0 H8.out.2 H8.out.1.choose_spec hk9))
          clear ho9 hk9
          go_wp2
          go_roundw
          case rel => exact ⟨k + 514, i, _, A9, n9, c9, by omega, by go_num, rfl, rfl, H9⟩
          case measure => simp [intOf]; omega
end Go.Proofs.Ytpedkcmcbejdiaa

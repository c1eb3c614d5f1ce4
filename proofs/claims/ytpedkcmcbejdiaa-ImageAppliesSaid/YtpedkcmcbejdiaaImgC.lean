/- Contract of vivariumref38.Get. -/
import Derived.Test.YtpedkcmcbejdiaaImgB
namespace Go.Proofs.Ytpedkcmcbejdiaa
open Go.RowKit
set_option maxRecDepth 100000
set_option linter.unusedVariables false
set_option linter.unusedSimpArgs false

theorem get2_yes {b : List UInt8} {s : Nat} (h : s + 2 ≤ b.length) : getOk b (s : Int) 2 = true ∧ getZ b (s : Int) 2 = (getN (pieceOf b s 2) : Int) := by
  have hok : getOk b (s : Int) 2 = true := getOk_yes (by show s + 2 ≤ b.length; exact h)
  refine ⟨hok, ?_⟩
  unfold getZ
  rw [if_pos hok, Int.toNat_natCast]
  show wrap64 ((getN (pieceOf b s 2) : Nat) : Int) = _
  have := getN2_lt b s
  unfold wrap64; omega
theorem get2_no {b : List UInt8} {s : Nat} (h : ¬ s + 2 ≤ b.length) : getOk b (s : Int) 2 = false ∧ getZ b (s : Int) 2 = 0 := by
  have hok : getOk b (s : Int) 2 = false := getOk_no (.inr (by show (b.length : Int) < (s : Int) + (2 : Nat); omega))
  exact ⟨hok, by unfold getZ; rw [hok]; rfl⟩
theorem rget2 (b : List UInt8) (v : Value) (F : Nat → Prop) (w : World) (z : Int) (s : Nat) (hv : By w F v b) (hz : z = s) (hs : s ≤ 1099511627776) :
    Calls Try.prog 30 #[v, .int .i64 z, .int .i64 2] w fun e w' => e = .returned (.tuple #[.int .i64 (if s + 2 ≤ b.length then (getN (pieceOf b s 2) : Int) else 0), .bool (decide (s + 2 ≤ b.length))]) ∧ w = w' := by
  subst hz
  have := refGet_any b v F (s : Int) 2 w hv (by omega) (by omega)
  by_cases h : s + 2 ≤ b.length
  · rw [(get2_yes h).1, (get2_yes h).2] at this
    rwa [if_pos h, decide_eq_true h]
  · rw [(get2_no h).1, (get2_no h).2] at this
    rwa [if_neg h, decide_eq_false h]
/-- The byte at a place. -/
theorem By.byte_at {w : World} {F : Nat → Prop} {A : Option Addr} {n c p : Nat} {l : List UInt8} (h : By w F (.slice A n c) l) (hp : p < l.length) : ∃ bb oo, A = some ⟨bb, oo, none⟩ ∧ w.cell? ⟨bb, oo + p, none⟩ = some (.int .u8 (((l.getD p 0).toNat : Nat) : Int)) := by
  obtain ⟨A', c', e, _, _, _, hr⟩ := h
  injection e with e1 e2 e3
  subst e1
  obtain ⟨b, o, rfl, hF, hc⟩ := hr.at_ (k := 0) (by omega)
  exact ⟨b, o, rfl, hc p _ (bv_at hp).1⟩
/-- Where the reference's Get stands. -/
def RgSt (w W : World) (b : List UInt8) (p left : Nat) (u : Value) (acc : List UInt8) (res : Int × List UInt8) : Prop :=
  Ob W w.heap.size u acc ∧ Below w.heap.size w W ∧ acc.length + 512 * left ≤ 2097152 ∧ ∃ f, left ≤ f ∧ readF f b p left acc = res
theorem RgSt.next {w W : World} {b : List UInt8} {p left : Nat} {u : Value} {acc : List UInt8} {res : Int × List UInt8} (h : RgSt w W b p left u acc res) (h0 : 0 < left) : ∃ f, left ≤ f + 1 ∧ res = (if b.length < p + 3 then (12, [])
    else if 1 < (b.getD p 0).toNat ∨ getN (pieceOf b (p + 1) 2) = 0 ∨ left < getN (pieceOf b (p + 1) 2) then (11, [])
    else if (b.getD p 0).toNat = 0 then readF f b (p + 3) (left - getN (pieceOf b (p + 1) 2)) (acc ++ zer (512 * getN (pieceOf b (p + 1) 2)))
    else if b.length < p + 3 + 512 * getN (pieceOf b (p + 1) 2) then (12, [])
    else readF f b (p + 3 + 512 * getN (pieceOf b (p + 1) 2)) (left - getN (pieceOf b (p + 1) 2)) (acc ++ pieceOf b (p + 3) (512 * getN (pieceOf b (p + 1) 2)))) := by
  obtain ⟨_, _, _, f, hf, hr⟩ := h
  obtain ⟨f, rfl⟩ : ∃ g, f = g + 1 := ⟨f - 1, by omega⟩
  refine ⟨f, by omega, ?_⟩
  unfold readF at hr
  rw [if_neg (by omega)] at hr
  exact hr.symm
theorem RgSt.end_ {w W : World} {b : List UInt8} {p : Nat} {u : Value} {acc : List UInt8} {res : Int × List UInt8} (h : RgSt w W b p 0 u acc res) : res = (0, acc) := by
  obtain ⟨_, _, _, f, _, hr⟩ := h
  rw [← hr]
  cases f with
  | zero => rfl
  | succ f => unfold readF; rw [if_pos rfl]
set_option maxHeartbeats 8000000 in
theorem rget38_any (b : List UInt8) (v : Value) (F : Nat → Prop) (w : World) (hv : By w F v b) (hb : b.length ≤ 16777216) :
    Calls Try.prog 19 #[v] w fun e w' => ∃ A n c, e = .returned (.tuple #[.slice A n c, .int .i64 (getI b).1]) ∧ Ob w' w.heap.size (.slice A n c) (getI b).2 ∧ Below w.heap.size w w' := by
  have RG := Lib.hid (fun (s : Nat) z (hz : z = (s : Int)) (hs : s ≤ 1099511627776) W (hk : Keep (fun _ => False) w W) => rget2 b v F W z s (hv.keep hk (fun _ _ _ h => h)) hz hs)
  have HV := Lib.hid hv
  obtain ⟨res, hres⟩ : ∃ res, getI b = res := ⟨_, rfl⟩
  have HRES := Lib.hid (show getI b = res from hres)
  rw [hres]
  clear hres
  have SM := Lib.hid (fun W u G (ys : List UInt8) (hk : Keep (fun _ => False) w W) (hy : By W G u ys) => same_any ys b u v G F W hy (hv.keep hk (fun _ _ _ h => h)))
  obtain ⟨A, c, rfl, h1, h2, -, -⟩ := hv
  unfold maxLen at h2
  generalize hL : b.length = L at *
  have HL := Lib.hid hL
  clear hL
  go_enter Try.func19, Try.ntmps19
  go_wp2_with fail
  with_reducible refine (RG.out 0 0 (by decide) (by decide) _ (Keep.refl _ _)).mono ?_
  rintro e w1 ⟨rfl, rfl⟩
  by_cases hl : L < 2
  · have hd : decide (0 + 2 ≤ L) = false := decide_eq_false (by omega)
    have hr1 : res = (12, []) := by rw [← HRES.out]; unfold getI; rw [if_pos (by rw [HL.out]; exact hl)]
    subst hr1
    rw [hd]
    go_wp2
    go_ret2
    exact ⟨_, _, _, rfl, Ob.nil _ _ _, Below.refl _ _⟩
  · have hd : decide (0 + 2 ≤ L) = true := decide_eq_true (by omega)
    rw [hd, if_pos (show 0 + 2 ≤ L by omega)]
    have hnb := getN2_lt b 0
    have HG := Lib.hid (show res = if 4096 < getN (pieceOf b 0 2) then (11, [])
      else if (readF (getN (pieceOf b 0 2)) b 2 (getN (pieceOf b 0 2)) []).1 ≠ 0 then ((readF (getN (pieceOf b 0 2)) b 2 (getN (pieceOf b 0 2)) []).1, [])
      else if putB (secs (readF (getN (pieceOf b 0 2)) b 2 (getN (pieceOf b 0 2)) []).2) = b then (0, (readF (getN (pieceOf b 0 2)) b 2 (getN (pieceOf b 0 2)) []).2) else (11, []) by rw [← HRES.out]; unfold getI; rw [if_neg (by rw [HL.out]; exact hl)])
    generalize getN (pieceOf b 0 2) = N at *
    clear HRES hd
    by_cases hn : 4096 < N
    · have f1 : (4096 : Int) < (N : Int) := by omega
      rw [if_pos hn] at HG
      have hr1 := HG.out
      subst hr1
      go_wp2
      go_ret2
      exact ⟨_, _, _, rfl, Ob.nil _ _ _, Below.refl _ _⟩
    · rw [if_neg hn] at HG
      have f1 : ¬ (4096 : Int) < (N : Int) := by omega
      obtain ⟨er, all, hra⟩ : ∃ er all, readF N b 2 N [] = (er, all) := ⟨_, _, rfl⟩
      have RL := Lib.hid (readF_len (M := 2097152) (b := b) N 2 N [] (by simp; omega))
      have H0 := Lib.hid (show RgSt w w b 2 N (.slice none 0 0) [] (er, all) from ⟨Ob.nil _ _ _, Below.refl _ _, by simp; omega, N, Nat.le_refl _, hra⟩)
      rw [hra] at HG RL
      clear hra
      go_wp2
      go_loopw [6, 7, 8] (fun y pl x wr => ∃ (left' p' : Nat) (A3 : Option Addr) (n3 c3 : Nat) (acc : List UInt8), left' ≤ N ∧ p' ≤ L ∧ x = .int .i64 (left' : Int) ∧ pl = .int .i64 (p' : Int) ∧ y = .slice A3 n3 c3 ∧ Hid (RgSt w wr b p' left' (.slice A3 n3 c3) acc (er, all))) (fun _ _ x _ => (intOf x).toNat)
      case atStart => exact ⟨N, 2, none, 0, 0, [], Nat.le_refl _, by omega, rfl, rfl, rfl, H0⟩
      case round =>
        obtain ⟨l', p', A3, n3, c3, acc, hl', hp', rfl, rfl, rfl, hst⟩ := hrel
        rcases Nat.eq_zero_or_pos l' with h0 | h0
        · subst h0
          have he := hst.out.end_
          injection he with he1 he2
          subst he1 he2
          rw [if_neg (by simp)] at HG
          have RBY := Lib.hid (rbytes38_any all _ _ wr hst.out.1.by_ (by have h : all.length ≤ 2097152 := RL.out; omega))
          go_wp2_with fail
          with_reducible refine RBY.out.mono ?_
          rintro e w6 ⟨A6, n6, c6, rfl, ho6, hb6⟩
          have H6 := Lib.hid (And.intro (hst.out.1.same (Keep.of_below' hb6)) (hst.out.2.1.trans (hb6.mono hst.out.2.1.size)))
          have PQ := Lib.hid (SM.out w6 _ _ _ (Keep.of_below' H6.out.2) ho6.by_)
          clear ho6 hb6 RBY
          by_cases hp : putB (secs all) = b
          · rw [decide_eq_true hp] at PQ
            rw [if_pos hp] at HG
            have hr1 := HG.out
            subst hr1
            go_wp2_with fail
            with_reducible refine PQ.out.mono ?_
            rintro e w7 ⟨rfl, rfl⟩
            go_wp2
            go_ret2
            exact ⟨_, _, _, rfl, H6.out.1, H6.out.2⟩
          · rw [decide_eq_false hp] at PQ
            rw [if_neg hp] at HG
            have hr1 := HG.out
            subst hr1
            go_wp2_with fail
            with_reducible refine PQ.out.mono ?_
            rintro e w7 ⟨rfl, rfl⟩
            go_wp2
            go_ret2
            exact ⟨_, _, _, rfl, Ob.nil _ _ _, H6.out.2⟩
        · have f2 : (0 : Int) < (l' : Int) := by omega
          obtain ⟨f, hf, hres⟩ := hst.out.next h0
          have EARLY := Lib.hid (fun z (e : (er, all) = (z, [])) (hz : z ≠ 0) => show res = (z, []) from by
            injection e with e1 e2
            have := HG.out
            rw [e1, if_pos hz] at this
            exact this)
          obtain ⟨s1, hs1⟩ : ∃ s1, s1 = p' + 1 := ⟨_, rfl⟩
          have es1 : (p' : Int) + 1 = (s1 : Int) := by omega
          have ew1 : IntKind.i64.wrap (s1 : Int) = (s1 : Int) := IntWalk.i64_in _ (by omega)
          have R1 := Lib.hid (RG.out s1 s1 rfl (by omega) wr (Keep.of_below' hst.out.2.1))
          rw [← hs1] at hres
          have HRS := Lib.hid hres
          have HS1 := Lib.hid hs1
          clear hres hs1
          go_wp2_with fail
          with_reducible refine R1.out.mono ?_
          rintro e w2 ⟨rfl, rfl⟩
          by_cases hb3 : L < p' + 3
          · have hd : decide (s1 + 2 ≤ L) = false := decide_eq_false (by have := HS1.out; omega)
            have hr1 := EARLY.out 12 (by rw [HRS.out, if_pos (by rw [HL.out]; exact hb3)]) (by decide)
            subst hr1
            rw [hd]
            go_wp2
            go_ret2
            exact ⟨_, _, _, rfl, Ob.nil _ _ _, hst.out.2.1⟩
          have hd : decide (s1 + 2 ≤ L) = true := decide_eq_true (by have := HS1.out; omega)
          rw [hd, if_pos (show s1 + 2 ≤ L by have := HS1.out; omega)]
          have hN := getN2_lt b s1
          have hK := (b.getD p' 0).toNat_lt
          obtain ⟨bb, oo, rfl, hcell⟩ := (HV.out.keep (Keep.of_below' hst.out.2.1) (fun _ _ _ h => h)).byte_at (p := p') (by rw [HL.out]; omega)
          have hcell0 := Lib.hid hcell
          have HR1 := Lib.hid (show (er, all) = (if 1 < (b.getD p' 0).toNat ∨ getN (pieceOf b s1 2) = 0 ∨ l' < getN (pieceOf b s1 2) then (11, [])
            else if (b.getD p' 0).toNat = 0 then readF f b (p' + 3) (l' - getN (pieceOf b s1 2)) (acc ++ zer (512 * getN (pieceOf b s1 2)))
            else if b.length < p' + 3 + 512 * getN (pieceOf b s1 2) then (12, [])
            else readF f b (p' + 3 + 512 * getN (pieceOf b s1 2)) (l' - getN (pieceOf b s1 2)) (acc ++ pieceOf b (p' + 3) (512 * getN (pieceOf b s1 2)))) by rw [HRS.out, if_neg (by rw [HL.out]; exact hb3)])
          clear hcell
          generalize getN (pieceOf b s1 2) = M at *
          generalize (b.getD p' 0).toNat = K at *
          have hcell := hcell0.out
          have g0 : (0 : Int) ≤ (p' : Int) := by omega
          have g00 : (p' : Int) < (L : Int) := by omega
          clear HRS hd R1 hcell0 es1 ew1
          by_cases dd1 : 1 < K
          · have g1 : (1 : Int) < (K : Int) := by omega
            have hr1 := EARLY.out 11 (by rw [HR1.out, if_pos (.inl dd1)]) (by decide)
            subst hr1
            go_wp2
            go_ret2
            exact ⟨_, _, _, rfl, Ob.nil _ _ _, hst.out.2.1⟩
          have g1 : ¬ (1 : Int) < (K : Int) := by omega
          by_cases dd2 : M = 0
          · have g2 : (M : Int) = 0 := by omega
            have hr1 := EARLY.out 11 (by rw [HR1.out, if_pos (.inr (.inl dd2))]) (by decide)
            subst hr1
            go_wp2
            go_ret2
            exact ⟨_, _, _, rfl, Ob.nil _ _ _, hst.out.2.1⟩
          have g2 : ¬ (M : Int) = 0 := by omega
          by_cases dd3 : l' < M
          · have g3 : (l' : Int) < (M : Int) := by omega
            have hr1 := EARLY.out 11 (by rw [HR1.out, if_pos (.inr (.inr dd3))]) (by decide)
            subst hr1
            go_wp2
            go_ret2
            exact ⟨_, _, _, rfl, Ob.nil _ _ _, hst.out.2.1⟩
          have g3 : ¬ (l' : Int) < (M : Int) := by omega
          obtain ⟨s3, hs3⟩ : ∃ s3, s3 = p' + 3 := ⟨_, rfl⟩
          obtain ⟨m, hm⟩ : ∃ m, m = 512 * M := ⟨_, rfl⟩
          have HR2 := Lib.hid (show (er, all) = (if K = 0 then readF f b s3 (l' - M) (acc ++ zer m) else if L < s3 + m then (12, []) else readF f b (s3 + m) (l' - M) (acc ++ pieceOf b s3 m)) by rw [HR1.out, if_neg (by omega), hs3, hm, HL.out])
          have es3 : (p' : Int) + 3 = (s3 : Int) := by omega
          have ew3 : IntKind.i64.wrap (s3 : Int) = (s3 : Int) := IntWalk.i64_in _ (by omega)
          have em : 512 * (M : Int) = (m : Int) := by omega
          have ewm : IntKind.i64.wrap (m : Int) = (m : Int) := IntWalk.i64_in _ (by omega)
          have el : IntKind.i64.wrap ((l' : Int) - (M : Int)) = ((l' - M : Nat) : Int) := by rw [IntWalk.i64_in _ (by omega)]; omega
          have HLN := Lib.hid (show acc.length + m + 512 * (l' - M) ≤ 2097152 from by have := hst.out.2.2.1; omega)
          have hs3L : s3 ≤ L := by omega
          have hm0 : 0 < m := by omega
          clear HR1 hs3 hm
          by_cases dd4 : K = 0
          · subst dd4
            have HR3 := Lib.hid (show readF f b s3 (l' - M) (acc ++ zer m) = (er, all) by rw [HR2.out, if_pos rfl])
            go_wp2_with (refine wpList_appZ (by rfl) _ _ (by rfl) w.heap.size _ acc (by rfl) hst.out.1 m (by rfl) (by have := HLN.out; omega) (hst.out.2.1.size) ?_)
            intro A8 n8 c8 w8 ho8 hk8
            have H8 := Lib.hid (show RgSt w w8 b s3 (l' - M) (.slice A8 n8 c8) (acc ++ zer m) (er, all) from ⟨ho8, append_below0 hst.out.2.1 hst.out.1.choose_spec hk8, by rw [List.length_append, zer_len]; exact HLN.out, f, by omega, HR3.out⟩)
            clear ho8 hk8
            go_wp2
            go_roundw
            case rel => exact ⟨l' - M, s3, A8, n8, c8, _, by omega, hs3L, rfl, rfl, rfl, H8⟩
            case measure => simp [intOf]; omega
          · have b4 : ((K : Int) == 0) = false := by simpa using dd4
            have b1 : decide ((1 : Int) < (K : Int)) = false := decide_eq_false g1
            have b2 : ((M : Int) == 0) = false := by simpa using dd2
            clear g1 g2
            obtain ⟨d, hd⟩ : ∃ d, d = L - s3 := ⟨_, rfl⟩
            have ed : (L : Int) - (s3 : Int) = (d : Int) := by omega
            have ewd : IntKind.i64.wrap (d : Int) = (d : Int) := IntWalk.i64_in _ (by omega)
            by_cases dd5 : L < s3 + m
            · have g5 : (d : Int) < (m : Int) := by omega
              have hr1 := EARLY.out 12 (by rw [HR2.out, if_neg dd4, if_pos dd5]) (by decide)
              subst hr1
              clear hd
              go_wp2
              go_ret2
              exact ⟨_, _, _, rfl, Ob.nil _ _ _, hst.out.2.1⟩
            · have g5 : ¬ (d : Int) < (m : Int) := by omega
              have HR3 := Lib.hid (show readF f b (s3 + m) (l' - M) (acc ++ pieceOf b s3 m) = (er, all) by rw [HR2.out, if_neg dd4, if_neg dd5])
              obtain ⟨s4, hs4⟩ : ∃ s4, s3 + m = s4 := ⟨_, rfl⟩
              rw [hs4] at HR3
              have es4 : (s3 : Int) + (m : Int) = (s4 : Int) := by omega
              have ew4 : IntKind.i64.wrap (s4 : Int) = (s4 : Int) := IntWalk.i64_in _ (by omega)
              have q1 : s3 ≤ s4 := by omega
              have q2 : s4 ≤ L := by omega
              have q3 : s4 ≤ c := by omega
              have q4 : ¬ c = s3 := by omega
              have q5 : s3 ≤ c := by omega
              have PLN := Lib.hid (show (pieceOf b s3 m).length = m from piece_len _ _ _ (by rw [HL.out]; omega))
              have PY := Lib.hid (fun A' c' n' (hA : A' = some ⟨bb, oo + s3, none⟩) (hc : c' = c - s3) (hn : n' = s4 - s3) => show By wr F (.slice A' n' c') (pieceOf b s3 m) from by
                rw [hA, hc, hn, show s4 - s3 = m by omega]
                exact (HV.out.keep (Keep.of_below' hst.out.2.1) (fun _ _ _ h => h)).piece (lo := s3) (m := m) (A' := some ⟨bb, oo + s3, none⟩) (c' := c - s3) (by rw [HL.out]; omega) (fun h a e => by cases e; rw [Addr.add_mid]) (by omega) (by unfold maxLen; omega) (fun e => by cases e))
              have HS4 := Lib.hid hs4
              clear hd hs4
              go_wp2_with (refine wpList_app (by rfl) _ _ (by rfl) w.heap.size _ acc (by rfl) hst.out.1 _ _ _ (by rfl) (PY.out _ _ _ rfl rfl rfl) (by have := PLN.out; have := HLN.out; omega) hst.out.2.1.size ?_)
              intro A8 n8 c8 w8 ho8 hk8
              have H8 := Lib.hid (show RgSt w w8 b s4 (l' - M) (.slice A8 n8 c8) (acc ++ pieceOf b s3 m) (er, all) from ⟨ho8, append_below0 hst.out.2.1 hst.out.1.choose_spec hk8, by rw [List.length_append, PLN.out]; exact HLN.out, f, by omega, HR3.out⟩)
              clear ho8 hk8
              go_wp2
              go_roundw
              case rel => exact ⟨l' - M, s4, A8, n8, c8, _, by omega, q2, rfl, rfl, rfl, H8⟩
              case measure => simp [intOf]; omega
end Go.Proofs.Ytpedkcmcbejdiaa

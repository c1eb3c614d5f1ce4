/- Contract of image.read. -/
import Derived.Test.YtpedkcmcbejdiaaImg7
namespace Go.Proofs.Ytpedkcmcbejdiaa
open Go.RowKit
set_option maxRecDepth 100000
set_option linter.unusedVariables false
set_option linter.unusedSimpArgs false

/-- What the runs from place p on tell: the error, the bytes. -/
def readF : Nat → List UInt8 → Nat → Nat → List UInt8 → Int × List UInt8
  | 0, _, _, _, acc => (0, acc)
  | f + 1, b, p, left, acc =>
    if left = 0 then (0, acc)
    else if b.length < p + 3 then (12, [])
    else if 1 < (b.getD p 0).toNat ∨ getN (pieceOf b (p + 1) 2) = 0 ∨ left < getN (pieceOf b (p + 1) 2) then (11, [])
    else if (b.getD p 0).toNat = 0 then readF f b (p + 3) (left - getN (pieceOf b (p + 1) 2)) (acc ++ zer (512 * getN (pieceOf b (p + 1) 2)))
    else if b.length < p + 3 + 512 * getN (pieceOf b (p + 1) 2) then (12, [])
    else readF f b (p + 3 + 512 * getN (pieceOf b (p + 1) 2)) (left - getN (pieceOf b (p + 1) 2)) (acc ++ pieceOf b (p + 3) (512 * getN (pieceOf b (p + 1) 2)))
theorem getN_one (b : List UInt8) {p : Nat} (h : p < b.length) : getN (pieceOf b p 1) = (b.getD p 0).toNat := by
  unfold pieceOf
  rw [List.drop_eq_getElem_cons h, List.take_succ_cons, List.take_zero, List.getD_eq_getElem?_getD, List.getElem?_eq_getElem h]
  simp [getN]
theorem num_1 {b : List UInt8} {p : Nat} (h : p + 1 ≤ b.length) : numR b p false 1 = ((((b.getD p 0).toNat : Nat) : Int), p + 1, false) := by
  have hok : getOk b p 1 = true := getOk_yes (by show p + 1 ≤ b.length; exact h)
  unfold numR getZ
  rw [if_neg (by simp), if_pos hok, if_pos hok, Int.toNat_natCast]
  show (wrap64 (getN (pieceOf b p 1)), p + 1, false) = _
  have := (b.getD p 0).toNat_lt
  rw [getN_one b h, show wrap64 (((b.getD p 0).toNat : Nat) : Int) = (((b.getD p 0).toNat : Nat) : Int) by unfold wrap64; omega]
theorem num_2 {b : List UInt8} {p : Nat} (h : p + 2 ≤ b.length) : numR b p false 2 = ((getN (pieceOf b p 2) : Int), p + 2, false) := num2 h
theorem num_bad {b : List UInt8} {p : Nat} (h : b.length < p + 3) : (numR b (numR b p false 1).2.1 (numR b p false 1).2.2 2).2.2 = true := by
  by_cases h1 : p + 1 ≤ b.length
  · rw [num_1 h1]
    have hok : getOk b ((p + 1 : Nat) : Int) 2 = false := getOk_no (.inr (by show (b.length : Int) < ((p + 1 : Nat) : Int) + (2 : Nat); omega))
    have hok' : getOk b ((p : Int) + 1) 2 = false := by simpa using hok
    simp [numR, hok']
  · have hok : getOk b (p : Int) 1 = false := getOk_no (.inr (by show (b.length : Int) < (p : Int) + (1 : Nat); omega))
    simp [numR, hok]
theorem getN2_lt (b : List UInt8) (p : Nat) : getN (pieceOf b p 2) < 65536 :=
  Nat.lt_of_lt_of_le (getN_lt _) (Nat.le_trans (Nat.pow_le_pow_right (by decide) (List.length_take_le _ _)) (by decide))
/-- Where image.read stands. -/
def RdSt (w W : World) (q : Nat) (F : Nat → Prop) (b : List UInt8) (p left : Nat) (bad : Bool) (u : Value) (acc : List UInt8) (res : Int × List UInt8) : Prop :=
  Rdr W q F b p bad ∧ Ob W w.heap.size u acc ∧ Keep (fun x => x = q) w W ∧ acc.length + 512 * left ≤ 2097152 ∧ ((bad = false ∧ ∃ f, left ≤ f ∧ readF f b p left acc = res) ∨ (bad = true ∧ res = (12, [])))
theorem RdSt.end_ {w W : World} {q : Nat} {F : Nat → Prop} {b : List UInt8} {p : Nat} {u : Value} {acc : List UInt8} {res : Int × List UInt8} (h : RdSt w W q F b p 0 false u acc res) : res = (0, acc) := by
  obtain ⟨_, _, _, _, ⟨_, f, _, hr⟩ | ⟨e, _⟩⟩ := h
  · rw [← hr]
    cases f with
    | zero => rfl
    | succ f => unfold readF; rw [if_pos rfl]
  · cases e
theorem numR_bad (b : List UInt8) (p : Nat) (z : Int) : numR b p true z = (0, p, true) := by simp [numR]
/-- Behind the two numbers of a run. -/
theorem RdSt.nums {w W : World} {q : Nat} {F : Nat → Prop} {b : List UInt8} {p left : Nat} {bad : Bool} {u : Value} {acc : List UInt8} {res : Int × List UInt8} (h : RdSt w W q F b p left bad u acc res) (h0 : 0 < left) {kd kn : Int} {pk pn : Nat} {bk bn : Bool}
    (e1 : numR b p bad 1 = (kd, pk, bk)) (e2 : numR b pk bk 2 = (kn, pn, bn)) : (bn = true ∧ res = (12, [])) ∨ (bn = false ∧ ∃ K N f : Nat, K < 256 ∧ N < 65536 ∧ kd = (K : Int) ∧ kn = (N : Int) ∧ pn = p + 3 ∧ pn ≤ b.length ∧ left ≤ f + 1 ∧
      res = if 1 < K ∨ N = 0 ∨ left < N then (11, []) else if K = 0 then readF f b (p + 3) (left - N) (acc ++ zer (512 * N)) else if b.length < p + 3 + 512 * N then (12, []) else readF f b (p + 3 + 512 * N) (left - N) (acc ++ pieceOf b (p + 3) (512 * N))) := by
  obtain ⟨_, _, _, _, ⟨rfl, f, hf, hr⟩ | ⟨rfl, hr⟩⟩ := h
  · obtain ⟨f, rfl⟩ : ∃ g, f = g + 1 := ⟨f - 1, by omega⟩
    unfold readF at hr
    rw [if_neg (by omega)] at hr
    by_cases hb : b.length < p + 3
    · rw [if_pos hb] at hr
      have := num_bad hb
      rw [e1] at this
      simp only [e2] at this
      exact .inl ⟨this, hr.symm⟩
    · rw [if_neg hb] at hr
      rw [num_1 (by omega)] at e1
      injection e1 with e1 e1'
      injection e1' with e1' e1''
      subst e1 e1' e1''
      rw [num_2 (by omega)] at e2
      injection e2 with e2 e2'
      injection e2' with e2' e2''
      subst e2 e2' e2''
      exact .inr ⟨rfl, _, _, f, (b.getD p 0).toNat_lt, getN2_lt b (p + 1), rfl, rfl, by omega, by omega, by omega, hr.symm⟩
  · rw [numR_bad] at e1
    injection e1 with e1 e1'
    injection e1' with e1' e1''
    subst e1 e1' e1''
    rw [numR_bad] at e2
    injection e2 with e2 e2'
    injection e2' with e2' e2''
    exact .inl ⟨e2''.symm, hr⟩
set_option maxHeartbeats 4000000 in
theorem iread_any (b : List UInt8) (q p left : Nat) (F : Nat → Prop) (w : World) (h : Rdr w q F b p false) (hq : q < w.heap.size) (hF : ∀ x, F x → x < w.heap.size) (hl : left ≤ 4096) (hb : b.length ≤ 16777216) :
    Calls Try.prog 35 #[.pointer (some ⟨q, 0, none⟩), .int .i64 (left : Int)] w fun e w' => ∃ A n c, e = .returned (.tuple #[.slice A n c, .int .i64 (readF left b p left []).1]) ∧ Ob w' w.heap.size (.slice A n c) (readF left b p left []).2 ∧ Keep (fun x => x = q) w w' := by
  obtain ⟨res, hres⟩ : ∃ res, readF left b p left [] = res := ⟨_, rfl⟩
  have H0 := Lib.hid (show RdSt w w q F b p left false (.slice none 0 0) [] res from ⟨h, Ob.nil _ _ _, Keep.refl _ _, by simp; omega, .inl ⟨rfl, left, Nat.le_refl _, hres⟩⟩)
  rw [hres]
  clear hres h
  go_enter Try.func35, Try.ntmps35
  go_wp2
  go_loopw [1, 6] (fun x y wr => ∃ (left' p' : Nat) (bad : Bool) (A3 : Option Addr) (n3 c3 : Nat) (acc : List UInt8), left' ≤ left ∧ x = .int .i64 (left' : Int) ∧ y = .slice A3 n3 c3 ∧ Hid (RdSt w wr q F b p' left' bad (.slice A3 n3 c3) acc res)) (fun x _ _ => (intOf x).toNat)
  case atStart => exact ⟨left, p, false, none, 0, 0, [], Nat.le_refl _, rfl, rfl, H0⟩
  case round =>
    obtain ⟨l', p', bad, A3, n3, c3, acc, hl', rfl, rfl, hst⟩ := hrel
    obtain ⟨hr, hob, hk, hlen, hcase⟩ := hst.out
    have OKR := Lib.hid (rok_any hr)
    rcases Nat.eq_zero_or_pos l' with h0 | h0
    · subst h0
      cases bad with
      | false =>
        have := RdSt.end_ hst.out
        subst this
        go_wp2_with fail
        with_reducible refine OKR.out.mono ?_
        rintro e w1 ⟨rfl, rfl⟩
        go_wp2
        go_ret2
        exact ⟨_, _, _, rfl, hob, hk⟩
      | true =>
        have hres : res = (12, []) := by
          rcases hcase with ⟨e, _⟩ | ⟨_, e⟩
          · cases e
          · exact e
        subst hres
        go_wp2_with fail
        with_reducible refine OKR.out.mono ?_
        rintro e w1 ⟨rfl, rfl⟩
        go_wp2
        go_ret2
        exact ⟨_, _, _, rfl, Ob.nil _ _ _, hk⟩
    · have f1 : (0 : Int) < (l' : Int) := by omega
      obtain ⟨kd, pk, bk, e1⟩ : ∃ kd pk bk, numR b p' bad 1 = (kd, pk, bk) := ⟨_, _, _, rfl⟩
      obtain ⟨kn, pn, bn, e2⟩ : ∃ kn pn bn, numR b pk bk 2 = (kn, pn, bn) := ⟨_, _, _, rfl⟩
      have NS := Lib.hid (hst.out.nums h0 e1 e2)
      have N1 := Lib.hid (rnum_any hr 1)
      rw [e1] at N1
      have HE2 := Lib.hid e2
      have HO := Lib.hid (And.intro hob (And.intro hk hlen))
      clear hst hcase OKR hr hob hk hlen e1 e2 H0
      go_wp2_with fail
      with_reducible refine N1.out.mono ?_
      rintro e w1 ⟨rfl, h1⟩
      have N2 := Lib.hid (rnum_any h1.1 2)
      rw [HE2.out] at N2
      have K1 := Lib.hid h1.2
      clear h1 N1
      go_wp2_with fail
      with_reducible refine N2.out.mono ?_
      rintro e w2 ⟨rfl, h2⟩
      have OKR := Lib.hid (rok_any h2.1)
      have HR := Lib.hid h2.1
      have HK := Lib.hid (show Keep (fun x => x = q) wr w2 from K1.out.trans h2.2 (fun _ _ h => h))
      have HO2 := Lib.hid (And.intro (show Ob w2 w.heap.size (.slice A3 n3 c3) acc from HO.out.1.keep HK.out (fun k _ h _ e => by omega)) (And.intro (show Keep (fun x => x = q) w w2 from HO.out.2.1.trans HK.out (fun _ _ h => h)) HO.out.2.2))
      clear h2 N2 K1 HK HO HE2
      go_wp2_with fail
      with_reducible refine OKR.out.mono ?_
      rintro e w3 ⟨rfl, rfl⟩
      cases bn with
      | true =>
        obtain ⟨-, rfl⟩ | ⟨e, -⟩ := NS.out
        · go_wp2
          go_ret2
          exact ⟨_, _, _, rfl, Ob.nil _ _ _, HO2.out.2.1⟩
        · cases e
      | false =>
        obtain ⟨e, -⟩ | ⟨-, K, N, f, hK, hN, rfl, rfl, rfl, hpl, hf, hres⟩ := NS.out
        · cases e
        have HRES := Lib.hid hres
        clear hres NS OKR
        by_cases dd1 : 1 < K
        · have g1 : (1 : Int) < (K : Int) := by omega
          go_wp2
          go_ret2
          rw [HRES.out, if_pos (.inl dd1)]
          exact ⟨_, _, _, rfl, Ob.nil _ _ _, HO2.out.2.1⟩
        have g1 : ¬ (1 : Int) < (K : Int) := by omega
        by_cases dd2 : N = 0
        · have g2 : (N : Int) = 0 := by omega
          go_wp2
          go_ret2
          rw [HRES.out, if_pos (.inr (.inl dd2))]
          exact ⟨_, _, _, rfl, Ob.nil _ _ _, HO2.out.2.1⟩
        have g2 : ¬ (N : Int) = 0 := by omega
        by_cases dd3 : l' < N
        · have g3 : (l' : Int) < (N : Int) := by omega
          go_wp2
          go_ret2
          rw [HRES.out, if_pos (.inr (.inr dd3))]
          exact ⟨_, _, _, rfl, Ob.nil _ _ _, HO2.out.2.1⟩
        have g3 : ¬ (l' : Int) < (N : Int) := by omega
        have HR1 := Lib.hid (show res = if K = 0 then readF f b (p' + 3) (l' - N) (acc ++ zer (512 * N)) else if b.length < p' + 3 + 512 * N then (12, []) else readF f b (p' + 3 + 512 * N) (l' - N) (acc ++ pieceOf b (p' + 3) (512 * N)) by rw [HRES.out, if_neg (by omega)])
        obtain ⟨m, hm⟩ : ∃ m, m = 512 * N := ⟨_, rfl⟩
        have em : (N : Int) * 512 = (m : Int) := by omega
        have ew : IntKind.i64.wrap (m : Int) = (m : Int) := IntWalk.i64_in _ (by omega)
        have el : IntKind.i64.wrap ((l' : Int) - (N : Int)) = ((l' - N : Nat) : Int) := by rw [IntWalk.i64_in _ (by omega)]; omega
        have HL := Lib.hid (show acc.length + m + 512 * (l' - N) ≤ 2097152 from by have := HO2.out.2.2; omega)
        rw [← hm] at HR1
        clear HRES hm
        by_cases dd4 : K = 0
        · subst dd4
          have HR2 := Lib.hid (show readF f b (p' + 3) (l' - N) (acc ++ zer m) = res by rw [HR1.out, if_pos rfl])
          go_wp2_with (refine wpList_appZ (by rfl) _ _ (by rfl) w.heap.size _ acc (by rfl) HO2.out.1 m (by rfl) (by have := HL.out; omega) (HO2.out.2.1.size) ?_)
          intro A8 n8 c8 w8 ho8 hk8
          have H8 := Lib.hid (show RdSt w w8 q F b (p' + 3) (l' - N) false (.slice A8 n8 c8) (acc ++ zer m) res from
            ⟨rdr_keep HR.out hk8 (fun e => by have := (HO2.out.1.ownB_ _ e).1; omega) (fun x _ hx e => by have := (HO2.out.1.ownB_ _ e).1; have := hF x hx; omega), ho8, HO2.out.2.1.trans hk8 (fun x hx e => by have := (HO2.out.1.ownB_ _ e).1; omega), by rw [List.length_append, zer_len]; exact HL.out, .inl ⟨rfl, f, by omega, HR2.out⟩⟩)
          clear ho8 hk8
          go_wp2
          go_roundw
          case rel => exact ⟨l' - N, p' + 3, false, A8, n8, c8, _, by omega, rfl, rfl, H8⟩
          case measure => simp [intOf]; omega
        · have b4 : ((K : Int) == 0) = false := by simpa using dd4
          have b1 : decide ((1 : Int) < (K : Int)) = false := decide_eq_false g1
          have b2 : ((N : Int) == 0) = false := by simpa using dd2
          clear g1 g2
          by_cases hb : b.length < p' + 3 + m
          · skip
            have BR := Lib.hid (show bytesR b (p' + 3) false (m : Int) = ([], p' + 3, true) by unfold bytesR; rw [if_neg (by first | (simp; done) | (simp; omega)), if_pos (by omega)])
            have RB := Lib.hid (rbytes_any HR.out (m : Int) (by omega))
            rw [BR.out] at RB
            have PL := Lib.hid (show acc.length + ([] : List UInt8).length ≤ 140737488355328 from by have := HL.out; simp; omega)
            have FIN := Lib.hid (show ∀ W5 W8 A8 n8 c8, Rdr W5 q F b (p' + 3) true → Keep (fun x => x = q) w2 W5 → Ob W8 w.heap.size (.slice A8 n8 c8) (acc ++ []) → Keep (fun k => ownB (.slice A3 n3 c3) = some k) W5 W8 → RdSt w W8 q F b (p' + 3) (l' - N) true (.slice A8 n8 c8) (acc ++ []) res from fun W5 W8 A8 n8 c8 hr5 hk5 ho8 hk8 =>
              ⟨rdr_keep hr5 hk8 (fun e => by have := (HO2.out.1.ownB_ _ e).1; omega) (fun x _ hx e => by have := (HO2.out.1.ownB_ _ e).1; have := hF x hx; omega), ho8, (HO2.out.2.1.trans hk5 (fun _ _ h => h)).trans hk8 (fun x hx e => by have := (HO2.out.1.ownB_ _ e).1; omega), (by rw [List.append_nil]; have := HL.out; omega), .inr ⟨rfl, by rw [HR1.out, if_neg dd4, if_pos hb]⟩⟩)
            generalize hq9 : ([] : List UInt8) = q9 at *
            clear hq9
            go_wp2_with fail
            with_reducible refine RB.out.mono ?_
            rintro e w5 ⟨A5, c5, rfl, hy5, hr5⟩
            have H5 := Lib.hid (And.intro hy5 (And.intro hr5.1 (And.intro hr5.2 (show Ob w5 w.heap.size (.slice A3 n3 c3) acc from HO2.out.1.keep hr5.2 (fun k _ h _ e => by omega)))))
            clear hy5 hr5
            have hz5 := Nat.le_trans HO2.out.2.1.size H5.out.2.2.1.size
            go_wp2_with (refine wpList_app (by rfl) _ _ (by rfl) w.heap.size _ acc (by rfl) H5.out.2.2.2 _ _ _ (by rfl) H5.out.1 PL.out hz5 ?_)
            intro A8 n8 c8 w8 ho8 hk8
            have H8 := Lib.hid (FIN.out w5 w8 A8 n8 c8 H5.out.2.1 H5.out.2.2.1 ho8 hk8)
            clear ho8 hk8
            go_wp2
            go_roundw
            case rel => exact ⟨l' - N, p' + 3, true, A8, n8, c8, _, by omega, rfl, rfl, H8⟩
            case measure => simp [intOf]; omega
          · skip
            have BR := Lib.hid (show bytesR b (p' + 3) false (m : Int) = (pieceOf b (p' + 3) m, p' + 3 + m, false) by unfold bytesR; rw [if_neg (by first | (simp; done) | (simp; omega)), if_neg (by omega), Int.toNat_natCast]; rfl)
            have RB := Lib.hid (rbytes_any HR.out (m : Int) (by omega))
            rw [BR.out] at RB
            have PL := Lib.hid (show acc.length + (pieceOf b (p' + 3) m).length ≤ 140737488355328 from by rw [piece_len _ _ _ (by omega)]; have := HL.out; omega)
            have FIN := Lib.hid (show ∀ W5 W8 A8 n8 c8, Rdr W5 q F b (p' + 3 + m) false → Keep (fun x => x = q) w2 W5 → Ob W8 w.heap.size (.slice A8 n8 c8) (acc ++ pieceOf b (p' + 3) m) → Keep (fun k => ownB (.slice A3 n3 c3) = some k) W5 W8 → RdSt w W8 q F b (p' + 3 + m) (l' - N) false (.slice A8 n8 c8) (acc ++ pieceOf b (p' + 3) m) res from fun W5 W8 A8 n8 c8 hr5 hk5 ho8 hk8 =>
              ⟨rdr_keep hr5 hk8 (fun e => by have := (HO2.out.1.ownB_ _ e).1; omega) (fun x _ hx e => by have := (HO2.out.1.ownB_ _ e).1; have := hF x hx; omega), ho8, (HO2.out.2.1.trans hk5 (fun _ _ h => h)).trans hk8 (fun x hx e => by have := (HO2.out.1.ownB_ _ e).1; omega), (by rw [List.length_append, piece_len _ _ _ (by omega)]; exact HL.out), .inl ⟨rfl, f, by omega, by rw [HR1.out, if_neg dd4, if_neg hb]⟩⟩)
            generalize hq9 : pieceOf b (p' + 3) m = q9 at *
            clear hq9
            go_wp2_with fail
            with_reducible refine RB.out.mono ?_
            rintro e w5 ⟨A5, c5, rfl, hy5, hr5⟩
            have H5 := Lib.hid (And.intro hy5 (And.intro hr5.1 (And.intro hr5.2 (show Ob w5 w.heap.size (.slice A3 n3 c3) acc from HO2.out.1.keep hr5.2 (fun k _ h _ e => by omega)))))
            clear hy5 hr5
            have hz5 := Nat.le_trans HO2.out.2.1.size H5.out.2.2.1.size
            go_wp2_with (refine wpList_app (by rfl) _ _ (by rfl) w.heap.size _ acc (by rfl) H5.out.2.2.2 _ _ _ (by rfl) H5.out.1 PL.out hz5 ?_)
            intro A8 n8 c8 w8 ho8 hk8
            have H8 := Lib.hid (FIN.out w5 w8 A8 n8 c8 H5.out.2.1 H5.out.2.2.1 ho8 hk8)
            clear ho8 hk8
            go_wp2
            go_roundw
            case rel => exact ⟨l' - N, p' + 3 + m, false, A8, n8, c8, _, by omega, rfl, rfl, H8⟩
            case measure => simp [intOf]; omega
end Go.Proofs.Ytpedkcmcbejdiaa

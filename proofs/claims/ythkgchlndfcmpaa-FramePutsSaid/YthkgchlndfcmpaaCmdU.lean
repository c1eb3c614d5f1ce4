/- Contract of cmd.reader's cmd. Printed by gencmdu.py. -/
import Derived.Test.YthkgchlndfcmpaaCmdS
import Derived.Laws.ResultCell
import Derived.OwnWalk
import Derived.Deep.DeepCutAuto
namespace Go.Proofs.Ythkgchlndfcmpaa
open Go.RowKit
set_option maxRecDepth 100000
set_option linter.unusedVariables false

theorem results_cmd {fn : Func} {p : Tmp} (h : fn.results = #[.cell p 39]) (tmps : Array Value) (w : World) (g : Nat) (c0 c1 c2 c3 c4 c5 : Value)
    (hp : tmps.getD p undef = .pointer (some ⟨g, 0, none⟩)) (hg : w.heap[g]? = some (.cells #[c0, c1, c2, c3, c4, c5] 39 (0, 0))) : (results fn tmps).run Try.prog w = .ok (.agg #[c0, c1, c2, c3, c4, c5]) w :=
  results_cell_row h tmps w g 39 _ (0, 0) _ hp hg under_cmd rfl size_cmd
/-- What all ways end in. -/
theorem CCmd.mk_ {W Wi wf : World} {P rp : Nat} {F G : Nat → Prop} {l : List UInt8} {s s0 : RS} {q : Nat} {y : Cmd} {A : Option Addr} {n c : Nat} (h : CSt W Wi P rp F l s q y (.slice A n c)) (hy : By Wi (fun b => W.heap.size < b) (.slice A n c) y.l) (hF : ∀ b, F b → G b) (hG : ¬ G P ∧ ¬ G rp)
    (hwf : wf = (((((Wi.setCell ⟨W.heap.size, 0, none⟩ (.int .i64 y.do_)).setCell ⟨W.heap.size, 1, none⟩ (.bool y.loc)).setCell ⟨W.heap.size, 2, none⟩ (.int .i64 y.idx)).setCell ⟨W.heap.size, 3, none⟩ (.int .i64 y.gen)).setCell ⟨W.heap.size, 4, none⟩ (.int .i64 y.comp)).setCell ⟨W.heap.size, 5, none⟩ (.slice A n c))
    (he : cmdS l s0 = (y, s)) : CCmd W P rp G l (cmdS l s0) (.returned (.agg #[.int .i64 y.do_, .bool y.loc, .int .i64 y.idx, .int .i64 y.gen, .int .i64 y.comp, .slice A n c])) wf := by
  obtain ⟨h1, h2, h3⟩ := h.done hy hF hG hwf
  rw [he]
  exact ⟨A, n, c, rfl, h2, h3⟩

set_option maxHeartbeats 8000000 in
theorem ccmd_any {W : World} {P rp : Nat} {G : Nat → Prop} {l : List UInt8} {s : RS} (h : CRd W P rp G l s) :
    Calls Try.prog 129 #[.pointer (some ⟨P, 0, none⟩)] W (CCmd W P rp G l (cmdS l s)) := by
  have hP := (Array.getElem?_eq_some_iff.1 h.1).1
  have hrp : rp < W.heap.size := by obtain ⟨vs, hh, _⟩ := h.2.1; exact (Array.getElem?_eq_some_iff.1 hh).1
  have HG := Lib.hid (show ¬ G P ∧ ¬ G rp from ⟨h.2.2.2, by obtain ⟨_, _, _, hh, _⟩ := h.2.1; exact hh⟩)
  obtain ⟨F, hF⟩ : ∃ F : Nat → Prop, F = fun b => G b ∧ b < W.heap.size := ⟨_, rfl⟩
  have HF := Lib.hid (show ∀ b, F b → G b from fun b hb => by rw [hF] at hb; exact hb.1)
  have HF2 := Lib.hid (show ∀ b, F b → b < W.heap.size from fun b hb => by rw [hF] at hb; exact hb.2)
  have h0 : CRd W P rp F l s := ⟨h.1, rdr_mono2 h.2.1 (fun b hb hg => by rw [hF]; exact ⟨hg, hb⟩) (fun hh => HG.out.2 (HF.out _ hh)), h.2.2.1, fun hh => HG.out.1 (HF.out _ hh)⟩
  have H0 := Lib.hid (show CRd (W.alloc (.cells #[.int .i64 0, .bool false, .int .i64 0, .int .i64 0, .int .i64 0, .slice none 0 0] 39)) P rp F l s from
    ⟨(heap_alloc_old W _ hP).trans h0.1, rdr_keep h0.2.1 ((Keep.refl (fun _ => False) W).alloc _) (fun h => h) (fun _ _ _ h => h), h0.2.2.1, h0.2.2.2⟩)
  have HC := Lib.hid (show cmdS l s = if (doS l s).2.e ≠ 0 ∨ (doS l s).1 = 0 then (⟨(doS l s).1, false, 0, 0, 0, []⟩, (doS l s).2) else restS l (doS l s).2 (doS l s).1 from rfl)
  have KN := Lib.hid known_any
  clear h h0 hF
  have N1 := Lib.hid (cnum_any H0.out 1)
  have D1 := Lib.hid (show doS l s = ((numS l s 1).1, mustS (numS l s 1).2 (knownC (numS l s 1).1) 11) from rfl)
  have ME := Lib.hid (show (doS l s).2.e = 0 → knownC (doS l s).1 = true from fun h => (mustS_e (by decide) h).1)
  generalize numS l s 1 = a at *
  generalize hD : doS l s = D at *
  obtain ⟨z, s1⟩ := a
  obtain ⟨d, s2⟩ := D
  have hd := D1.out
  obtain ⟨hd1, hd2⟩ := Prod.mk.inj hd
  subst hd1
  have D2 := Lib.hid hd2
  clear D1 hd2 hD
  go_enter Try.func129, Try.ntmps129
  go_wp2_with fail
  refine N1.out.mono ?_
  rintro e w1 ⟨rfl, hc1⟩
  have H1 := Lib.hid (show CSt W (w1.alloc (.cells #[.int .i64 d, .bool false, .int .i64 0, .int .i64 0, .int .i64 0, .slice none 0 0] 39)) P rp F l s1 w1.heap.size ⟨d, false, 0, 0, 0, []⟩ (.slice none 0 0) from
    have hsz := hc1.2.size
    have hz : W.heap.size < w1.heap.size := by simp at hsz; omega
    ⟨⟨(heap_alloc_old w1 _ (Array.getElem?_eq_some_iff.1 hc1.1.1).1).trans hc1.1.1, rdr_keep hc1.1.2.1 ((Keep.refl (fun _ => False) w1).alloc _) (fun h => h) (fun _ _ _ h => h), hc1.1.2.2.1, hc1.1.2.2.2⟩, heap_alloc_new w1 _,
      (heap_alloc_old w1 _ hz).trans ((hc1.2.block W.heap.size (by simp) (by omega)).trans (heap_alloc_new W _)), ⟨⟨hz, hP, hrp⟩, HF2.out⟩, (((Keep.refl _ W).alloc _).trans hc1.2 (fun _ _ h => h)).alloc _⟩)
  clear hc1 N1 H0
  go_upto_region 2 with fail
  refine wp_world (S := fun X => CSt W X P rp F l s1 w1.heap.size ⟨d, false, 0, 0, 0, []⟩ (.slice none 0 0)) H1.out ?_
  intro X1 hX1
  have H2 := Lib.hid hX1
  clear hX1 H1
  generalize w1.heap.size = q at *
  obtain ⟨x0, x1, x2, x3, x4, x5, xf⟩ := H2.out.cells
  go_wp2_with fail
  refine (KN.out d _).mono ?_
  rintro e w2 ⟨rfl, rfl⟩
  go_wp2_with fail
  refine (cmust_any H2.out.1 _ 11).mono ?_
  rintro e w2 ⟨rfl, hc2⟩
  rw [← D2.out] at hc2
  have H3 := Lib.hid (H2.out.num hc2)
  clear hc2 H2 x0 x1 x2 x3 x4 x5 xf
  obtain ⟨x0, x1, x2, x3, x4, x5, xf⟩ := H3.out.cells
  obtain ⟨c0, c1, cf⟩ := cells2 H3.out.1.1
  obtain ⟨r0, r1, r2, r3, r4, r5, rf⟩ := cells6 H3.out.2.2.1
  by_cases he : s2.e = 0
  · have e1 : (s2.e != 0) = false := by simp [he]
    have hk := ME.out he
    by_cases hz : d = 0
    · have CE := Lib.hid (show cmdS l s = (⟨d, false, 0, 0, 0, []⟩, s2) by rw [HC.out, if_pos (.inr hz)])
      have e2 : (d == 0) = true := by rw [beq_iff_eq]; exact hz
      clear he hz hk ME HC
      go_wp2
      exact bodyPost_ret (results_cmd rfl _ _ W.heap.size _ _ _ _ _ _ rfl (stored6 H3.out.2.2.1 _ _ _ _ _ _)) rfl (CCmd.mk_ H3.out (By.nil _ _) HF.out HG.out rfl CE.out)
    · have e2 : (d == 0) = false := by rw [beq_eq_false_iff_ne]; exact hz
      have RE := Lib.hid (show cmdS l s = restS l s2 d by rw [HC.out, if_neg (by rintro (h | h); exact h he; exact hz h)])
      have hd3 : d = 1 ∨ d = 2 ∨ d = 3 := by
        unfold knownC at hk
        have := of_decide_eq_true hk
        omega
      clear he hz hk ME HC
      go_upto_region 5 with fail
      clear x0 x1 x2 x3 x4 x5 xf c0 c1 cf r0 r1 r2 r3 r4 r5 rf e1 e2
      rcases hd3 with rfl | rfl | rfl
      · by_cases hlo : (numS l s2 1).1 = 1
        · obtain ⟨b, hb⟩ : ∃ x, x = numS l s2 1 := ⟨_, rfl⟩
          have N := Lib.hid (cnum_any H3.out.1 1)
          rw [← hb] at N
          have Eb := Lib.hid hb
          clear hb
          go_wp2_with fail
          refine N.out.mono ?_
          rintro e wb ⟨rfl, hc⟩
          have K1 := Lib.hid (H3.out.num hc)
          clear hc N H3
          rw [← Eb.out] at hlo
          obtain ⟨s4, hs4⟩ : ∃ x, x = mustS b.2 (decide (b.1 ≤ 1)) 11 := ⟨_, rfl⟩
          have M := Lib.hid (cmust_any K1.out.1 (decide (b.1 ≤ 1)) 11)
          rw [← hs4] at M
          have Es4 := Lib.hid hs4
          have lo : (b.1 == 1) = true := by rw [beq_iff_eq]; exact hlo
          have HLO := Lib.hid hlo
          clear hs4 hlo
          go_wp2_with fail
          refine M.out.mono ?_
          rintro e wm ⟨rfl, hc⟩
          have K2 := Lib.hid (K1.out.num hc)
          clear hc M K1
          obtain ⟨x0, x1, x2, x3, x4, x5, xf⟩ := K2.out.cells
          have K3 := Lib.hid (K2.out.set 1 (.bool true) (y' := ⟨1, true, 0, 0, 0, []⟩) (u' := .slice none 0 0) rfl)
          obtain ⟨i, hi⟩ : ∃ x, x = numS l s4 8 := ⟨_, rfl⟩
          have N := Lib.hid (cnum_any K3.out.1 8)
          rw [← hi] at N
          have Ei := Lib.hid hi
          clear hi
          go_wp2_with fail
          refine N.out.mono ?_
          rintro e wi ⟨rfl, hc⟩
          have K4 := Lib.hid (K3.out.num hc)
          clear hc N K2 K3 lo
          clear x0 x1 x2 x3 x4 x5 xf
          obtain ⟨x0, x1, x2, x3, x4, x5, xf⟩ := K4.out.cells
          have K5 := Lib.hid (K4.out.set 2 (.int .i64 i.1) (y' := ⟨1, true, i.1, 0, 0, []⟩) (u' := .slice none 0 0) rfl)
          clear x0 x1 x2 x3 x4 x5 xf
          obtain ⟨x0, x1, x2, x3, x4, x5, xf⟩ := K4.out.cells
          obtain ⟨r0, r1, r2, r3, r4, r5, rf⟩ := cells6 K4.out.2.2.1
          have cqr : W.heap.size ≠ q := by have := K4.out.2.2.2.1.1.1; omega
          have cqr2 : q ≠ W.heap.size := by omega
          have CE := Lib.hid (show cmdS l s = (⟨1, true, i.1, 0, 0, []⟩, i.2) by
            rw [RE.out]
            have hl : (locS l s2).1 = true := by unfold locS; exact decide_eq_true (Eb.out ▸ HLO.out)
            have qEb := Eb.out
            have qEs4 := Es4.out
            have qEi := Ei.out
            subst qEi; subst qEs4; subst qEb
            unfold restS datS cmpS tgtS
            rw [hl]
            rfl)
          go_wp2
          exact bodyPost_ret (results_cmd rfl _ _ W.heap.size _ _ _ _ _ _ rfl (stored6 K5.out.2.2.1 _ _ _ _ _ _)) rfl (CCmd.mk_ K5.out (By.nil _ _) HF.out HG.out rfl CE.out)
        · obtain ⟨b, hb⟩ : ∃ x, x = numS l s2 1 := ⟨_, rfl⟩
          have N := Lib.hid (cnum_any H3.out.1 1)
          rw [← hb] at N
          have Eb := Lib.hid hb
          clear hb
          go_wp2_with fail
          refine N.out.mono ?_
          rintro e wb ⟨rfl, hc⟩
          have K1 := Lib.hid (H3.out.num hc)
          clear hc N H3
          rw [← Eb.out] at hlo
          obtain ⟨s4, hs4⟩ : ∃ x, x = mustS b.2 (decide (b.1 ≤ 1)) 11 := ⟨_, rfl⟩
          have M := Lib.hid (cmust_any K1.out.1 (decide (b.1 ≤ 1)) 11)
          rw [← hs4] at M
          have Es4 := Lib.hid hs4
          have lo : (b.1 == 1) = false := by rw [beq_eq_false_iff_ne]; exact hlo
          have HLO := Lib.hid hlo
          clear hs4 hlo
          go_wp2_with fail
          refine M.out.mono ?_
          rintro e wm ⟨rfl, hc⟩
          have K2 := Lib.hid (K1.out.num hc)
          clear hc M K1
          obtain ⟨x0, x1, x2, x3, x4, x5, xf⟩ := K2.out.cells
          have K3 := Lib.hid (K2.out.set 1 (.bool false) (y' := ⟨1, false, 0, 0, 0, []⟩) (u' := .slice none 0 0) rfl)
          obtain ⟨i, hi⟩ : ∃ x, x = numS l s4 8 := ⟨_, rfl⟩
          have N := Lib.hid (cnum_any K3.out.1 8)
          rw [← hi] at N
          have Ei := Lib.hid hi
          clear hi
          go_wp2_with fail
          refine N.out.mono ?_
          rintro e wi ⟨rfl, hc⟩
          have K4 := Lib.hid (K3.out.num hc)
          clear hc N K2 K3 lo
          clear x0 x1 x2 x3 x4 x5 xf
          obtain ⟨x0, x1, x2, x3, x4, x5, xf⟩ := K4.out.cells
          have K5 := Lib.hid (K4.out.set 2 (.int .i64 i.1) (y' := ⟨1, false, i.1, 0, 0, []⟩) (u' := .slice none 0 0) rfl)
          obtain ⟨g, hg⟩ : ∃ x, x = numS l i.2 8 := ⟨_, rfl⟩
          have N := Lib.hid (cnum_any K5.out.1 8)
          rw [← hg] at N
          have Eg := Lib.hid hg
          clear hg
          go_wp2_with fail
          refine N.out.mono ?_
          rintro e wg ⟨rfl, hc⟩
          have K6 := Lib.hid (K5.out.num hc)
          clear hc N K4 K5
          clear x0 x1 x2 x3 x4 x5 xf
          obtain ⟨x0, x1, x2, x3, x4, x5, xf⟩ := K6.out.cells
          have K7 := Lib.hid (K6.out.set 3 (.int .i64 g.1) (y' := ⟨1, false, i.1, g.1, 0, []⟩) (u' := .slice none 0 0) rfl)
          clear x0 x1 x2 x3 x4 x5 xf
          obtain ⟨x0, x1, x2, x3, x4, x5, xf⟩ := K6.out.cells
          obtain ⟨r0, r1, r2, r3, r4, r5, rf⟩ := cells6 K6.out.2.2.1
          have cqr : W.heap.size ≠ q := by have := K6.out.2.2.2.1.1.1; omega
          have cqr2 : q ≠ W.heap.size := by omega
          have CE := Lib.hid (show cmdS l s = (⟨1, false, i.1, g.1, 0, []⟩, g.2) by
            rw [RE.out]
            have hl : (locS l s2).1 = false := by unfold locS; exact decide_eq_false (Eb.out ▸ HLO.out)
            have qEb := Eb.out
            have qEs4 := Es4.out
            have qEi := Ei.out
            have qEg := Eg.out
            subst qEg; subst qEi; subst qEs4; subst qEb
            unfold restS datS cmpS tgtS
            rw [hl]
            rfl)
          go_wp2
          exact bodyPost_ret (results_cmd rfl _ _ W.heap.size _ _ _ _ _ _ rfl (stored6 K7.out.2.2.1 _ _ _ _ _ _)) rfl (CCmd.mk_ K7.out (By.nil _ _) HF.out HG.out rfl CE.out)
      · by_cases hlo : (numS l s2 1).1 = 1
        · obtain ⟨b, hb⟩ : ∃ x, x = numS l s2 1 := ⟨_, rfl⟩
          have N := Lib.hid (cnum_any H3.out.1 1)
          rw [← hb] at N
          have Eb := Lib.hid hb
          clear hb
          go_wp2_with fail
          refine N.out.mono ?_
          rintro e wb ⟨rfl, hc⟩
          have K1 := Lib.hid (H3.out.num hc)
          clear hc N H3
          rw [← Eb.out] at hlo
          obtain ⟨s4, hs4⟩ : ∃ x, x = mustS b.2 (decide (b.1 ≤ 1)) 11 := ⟨_, rfl⟩
          have M := Lib.hid (cmust_any K1.out.1 (decide (b.1 ≤ 1)) 11)
          rw [← hs4] at M
          have Es4 := Lib.hid hs4
          have lo : (b.1 == 1) = true := by rw [beq_iff_eq]; exact hlo
          have HLO := Lib.hid hlo
          clear hs4 hlo
          go_wp2_with fail
          refine M.out.mono ?_
          rintro e wm ⟨rfl, hc⟩
          have K2 := Lib.hid (K1.out.num hc)
          clear hc M K1
          obtain ⟨x0, x1, x2, x3, x4, x5, xf⟩ := K2.out.cells
          have K3 := Lib.hid (K2.out.set 1 (.bool true) (y' := ⟨2, true, 0, 0, 0, []⟩) (u' := .slice none 0 0) rfl)
          obtain ⟨i, hi⟩ : ∃ x, x = numS l s4 8 := ⟨_, rfl⟩
          have N := Lib.hid (cnum_any K3.out.1 8)
          rw [← hi] at N
          have Ei := Lib.hid hi
          clear hi
          go_wp2_with fail
          refine N.out.mono ?_
          rintro e wi ⟨rfl, hc⟩
          have K4 := Lib.hid (K3.out.num hc)
          clear hc N K2 K3 lo
          clear x0 x1 x2 x3 x4 x5 xf
          obtain ⟨x0, x1, x2, x3, x4, x5, xf⟩ := K4.out.cells
          have K5 := Lib.hid (K4.out.set 2 (.int .i64 i.1) (y' := ⟨2, true, i.1, 0, 0, []⟩) (u' := .slice none 0 0) rfl)
          obtain ⟨c, hc⟩ : ∃ x, x = numS l i.2 8 := ⟨_, rfl⟩
          have N := Lib.hid (cnum_any K5.out.1 8)
          rw [← hc] at N
          have Ec := Lib.hid hc
          clear hc
          go_wp2_with fail
          refine N.out.mono ?_
          rintro e wc ⟨rfl, hc⟩
          have K8 := Lib.hid (K5.out.num hc)
          clear hc N K4 K5
          clear x0 x1 x2 x3 x4 x5 xf
          obtain ⟨x0, x1, x2, x3, x4, x5, xf⟩ := K8.out.cells
          have K9 := Lib.hid (K8.out.set 4 (.int .i64 c.1) (y' := ⟨2, true, i.1, 0, c.1, []⟩) (u' := .slice none 0 0) rfl)
          obtain ⟨n, hn⟩ : ∃ x, x = numS l c.2 2 := ⟨_, rfl⟩
          have N := Lib.hid (cnum_any K9.out.1 2)
          rw [← hn] at N
          have hnb : 0 ≤ n.1 ∧ n.1 ≤ 65535 := by rw [hn]; exact numR2_bd _ _ _
          have En := Lib.hid hn
          clear hn
          obtain ⟨hn0, hn1⟩ := hnb
          go_wp2_with fail
          refine N.out.mono ?_
          rintro e wn ⟨rfl, hc⟩
          have K10 := Lib.hid (K9.out.num hc)
          clear hc N K8 K9
          clear x0 x1 x2 x3 x4 x5 xf
          obtain ⟨s9, hs9⟩ : ∃ x, x = mustS n.2 (decide (n.1 ≤ 64)) 13 := ⟨_, rfl⟩
          have M := Lib.hid (cmust_any K10.out.1 (decide (n.1 ≤ 64)) 13)
          rw [← hs9] at M
          have Es9 := Lib.hid hs9
          clear hs9
          go_wp2_with fail
          refine M.out.mono ?_
          rintro e wm2 ⟨rfl, hc⟩
          have K11 := Lib.hid (K10.out.num hc)
          clear hc M K10
          obtain ⟨x0, x1, x2, x3, x4, x5, xf⟩ := K11.out.cells
          obtain ⟨c0, c1, cf⟩ := cells2 K11.out.1.1
          obtain ⟨by_, hby_⟩ : ∃ x, x = bytesR l s9.k s9.bad n.1 := ⟨_, rfl⟩
          have B := Lib.hid (rbytes_any K11.out.1.2.1 n.1 (by omega))
          rw [← hby_] at B
          have Eby := Lib.hid hby_
          clear hby_
          go_wp2_with fail
          refine B.out.mono ?_
          rintro e wb ⟨A9, c9, rfl, hy9, hr9⟩
          have K12 := Lib.hid (K11.out.num (K11.out.1.step hr9))
          have Y12 := Lib.hid (hy9.mono (G := fun b => W.heap.size < b ∧ b ≠ q) (fun b _ h => by have := (Array.getElem?_eq_some_iff.1 K11.out.2.1).1; have := K11.out.2.2.2.1.1.1; omega))
          clear x0 x1 x2 x3 x4 x5 xf
          clear c0 c1 cf hy9 hr9 B K11
          obtain ⟨x0, x1, x2, x3, x4, x5, xf⟩ := K12.out.cells
          have K13 := Lib.hid (K12.out.set 5 (.slice A9 by_.1.length c9) (y' := ⟨2, true, i.1, 0, c.1, by_.1⟩) (u' := .slice A9 by_.1.length c9) rfl)
          have Y13 := Lib.hid (Y12.out.keep (Keep.setCell (S := fun b => b = q) (p := ⟨q, 5, none⟩) (Keep.refl _ wb) (.inr rfl) (.slice A9 by_.1.length c9)) (fun b _ h e => h.2 e))
          have OK := Lib.hid (rok_any K13.out.1.2.1)
          obtain ⟨c0, c1, cf⟩ := cells2 K12.out.1.1
          have cq : P ≠ q := by have := K12.out.2.2.2.1.1; omega
          go_wp2_with fail
          refine OK.out.mono ?_
          rintro e wo ⟨rfl, rfl⟩
          obtain ⟨s11, hs11⟩ : ∃ x, x = mustS ⟨by_.2.1, by_.2.2, s9.e⟩ (!by_.2.2) 12 := ⟨_, rfl⟩
          have M := Lib.hid (cmust_any K13.out.1 (!by_.2.2) 12)
          rw [← hs11] at M
          have Es11 := Lib.hid hs11
          clear hs11
          go_wp2_with fail
          refine M.out.mono ?_
          rintro e wz ⟨rfl, hc⟩
          have K14 := Lib.hid (K13.out.num hc)
          have Y14 := Lib.hid ((Y13.out.keep hc.2 (fun b _ h e => by have := K13.out.2.2.2.1.1; have := h.1; omega)).mono (G := fun b => W.heap.size < b) (fun b _ h => h.1))
          clear hc M K13 K12 Y12 Y13 c0 c1 cf cq
          clear x0 x1 x2 x3 x4 x5 xf
          obtain ⟨x0, x1, x2, x3, x4, x5, xf⟩ := K14.out.cells
          obtain ⟨r0, r1, r2, r3, r4, r5, rf⟩ := cells6 K14.out.2.2.1
          have cqr : W.heap.size ≠ q := by have := K14.out.2.2.2.1.1.1; omega
          have cqr2 : q ≠ W.heap.size := by omega
          have CE := Lib.hid (show cmdS l s = (⟨2, true, i.1, 0, c.1, by_.1⟩, s11) by
            rw [RE.out]
            have hl : (locS l s2).1 = true := by unfold locS; exact decide_eq_true (Eb.out ▸ HLO.out)
            have qEb := Eb.out
            have qEs4 := Es4.out
            have qEi := Ei.out
            have qEc := Ec.out
            have qEn := En.out
            have qEs9 := Es9.out
            have qEby := Eby.out
            have qEs11 := Es11.out
            subst qEs11; subst qEby; subst qEs9; subst qEn; subst qEc; subst qEi; subst qEs4; subst qEb
            unfold restS datS cmpS tgtS
            rw [hl]
            rfl)
          go_wp2
          exact bodyPost_ret (results_cmd rfl _ _ W.heap.size _ _ _ _ _ _ rfl (stored6 K14.out.2.2.1 _ _ _ _ _ _)) rfl (CCmd.mk_ K14.out Y14.out HF.out HG.out rfl CE.out)
        · obtain ⟨b, hb⟩ : ∃ x, x = numS l s2 1 := ⟨_, rfl⟩
          have N := Lib.hid (cnum_any H3.out.1 1)
          rw [← hb] at N
          have Eb := Lib.hid hb
          clear hb
          go_wp2_with fail
          refine N.out.mono ?_
          rintro e wb ⟨rfl, hc⟩
          have K1 := Lib.hid (H3.out.num hc)
          clear hc N H3
          rw [← Eb.out] at hlo
          obtain ⟨s4, hs4⟩ : ∃ x, x = mustS b.2 (decide (b.1 ≤ 1)) 11 := ⟨_, rfl⟩
          have M := Lib.hid (cmust_any K1.out.1 (decide (b.1 ≤ 1)) 11)
          rw [← hs4] at M
          have Es4 := Lib.hid hs4
          have lo : (b.1 == 1) = false := by rw [beq_eq_false_iff_ne]; exact hlo
          have HLO := Lib.hid hlo
          clear hs4 hlo
          go_wp2_with fail
          refine M.out.mono ?_
          rintro e wm ⟨rfl, hc⟩
          have K2 := Lib.hid (K1.out.num hc)
          clear hc M K1
          obtain ⟨x0, x1, x2, x3, x4, x5, xf⟩ := K2.out.cells
          have K3 := Lib.hid (K2.out.set 1 (.bool false) (y' := ⟨2, false, 0, 0, 0, []⟩) (u' := .slice none 0 0) rfl)
          obtain ⟨i, hi⟩ : ∃ x, x = numS l s4 8 := ⟨_, rfl⟩
          have N := Lib.hid (cnum_any K3.out.1 8)
          rw [← hi] at N
          have Ei := Lib.hid hi
          clear hi
          go_wp2_with fail
          refine N.out.mono ?_
          rintro e wi ⟨rfl, hc⟩
          have K4 := Lib.hid (K3.out.num hc)
          clear hc N K2 K3 lo
          clear x0 x1 x2 x3 x4 x5 xf
          obtain ⟨x0, x1, x2, x3, x4, x5, xf⟩ := K4.out.cells
          have K5 := Lib.hid (K4.out.set 2 (.int .i64 i.1) (y' := ⟨2, false, i.1, 0, 0, []⟩) (u' := .slice none 0 0) rfl)
          obtain ⟨g, hg⟩ : ∃ x, x = numS l i.2 8 := ⟨_, rfl⟩
          have N := Lib.hid (cnum_any K5.out.1 8)
          rw [← hg] at N
          have Eg := Lib.hid hg
          clear hg
          go_wp2_with fail
          refine N.out.mono ?_
          rintro e wg ⟨rfl, hc⟩
          have K6 := Lib.hid (K5.out.num hc)
          clear hc N K4 K5
          clear x0 x1 x2 x3 x4 x5 xf
          obtain ⟨x0, x1, x2, x3, x4, x5, xf⟩ := K6.out.cells
          have K7 := Lib.hid (K6.out.set 3 (.int .i64 g.1) (y' := ⟨2, false, i.1, g.1, 0, []⟩) (u' := .slice none 0 0) rfl)
          obtain ⟨c, hc⟩ : ∃ x, x = numS l g.2 8 := ⟨_, rfl⟩
          have N := Lib.hid (cnum_any K7.out.1 8)
          rw [← hc] at N
          have Ec := Lib.hid hc
          clear hc
          go_wp2_with fail
          refine N.out.mono ?_
          rintro e wc ⟨rfl, hc⟩
          have K8 := Lib.hid (K7.out.num hc)
          clear hc N K6 K7
          clear x0 x1 x2 x3 x4 x5 xf
          obtain ⟨x0, x1, x2, x3, x4, x5, xf⟩ := K8.out.cells
          have K9 := Lib.hid (K8.out.set 4 (.int .i64 c.1) (y' := ⟨2, false, i.1, g.1, c.1, []⟩) (u' := .slice none 0 0) rfl)
          obtain ⟨n, hn⟩ : ∃ x, x = numS l c.2 2 := ⟨_, rfl⟩
          have N := Lib.hid (cnum_any K9.out.1 2)
          rw [← hn] at N
          have hnb : 0 ≤ n.1 ∧ n.1 ≤ 65535 := by rw [hn]; exact numR2_bd _ _ _
          have En := Lib.hid hn
          clear hn
          obtain ⟨hn0, hn1⟩ := hnb
          go_wp2_with fail
          refine N.out.mono ?_
          rintro e wn ⟨rfl, hc⟩
          have K10 := Lib.hid (K9.out.num hc)
          clear hc N K8 K9
          clear x0 x1 x2 x3 x4 x5 xf
          obtain ⟨s9, hs9⟩ : ∃ x, x = mustS n.2 (decide (n.1 ≤ 64)) 13 := ⟨_, rfl⟩
          have M := Lib.hid (cmust_any K10.out.1 (decide (n.1 ≤ 64)) 13)
          rw [← hs9] at M
          have Es9 := Lib.hid hs9
          clear hs9
          go_wp2_with fail
          refine M.out.mono ?_
          rintro e wm2 ⟨rfl, hc⟩
          have K11 := Lib.hid (K10.out.num hc)
          clear hc M K10
          obtain ⟨x0, x1, x2, x3, x4, x5, xf⟩ := K11.out.cells
          obtain ⟨c0, c1, cf⟩ := cells2 K11.out.1.1
          obtain ⟨by_, hby_⟩ : ∃ x, x = bytesR l s9.k s9.bad n.1 := ⟨_, rfl⟩
          have B := Lib.hid (rbytes_any K11.out.1.2.1 n.1 (by omega))
          rw [← hby_] at B
          have Eby := Lib.hid hby_
          clear hby_
          go_wp2_with fail
          refine B.out.mono ?_
          rintro e wb ⟨A9, c9, rfl, hy9, hr9⟩
          have K12 := Lib.hid (K11.out.num (K11.out.1.step hr9))
          have Y12 := Lib.hid (hy9.mono (G := fun b => W.heap.size < b ∧ b ≠ q) (fun b _ h => by have := (Array.getElem?_eq_some_iff.1 K11.out.2.1).1; have := K11.out.2.2.2.1.1.1; omega))
          clear x0 x1 x2 x3 x4 x5 xf
          clear c0 c1 cf hy9 hr9 B K11
          obtain ⟨x0, x1, x2, x3, x4, x5, xf⟩ := K12.out.cells
          have K13 := Lib.hid (K12.out.set 5 (.slice A9 by_.1.length c9) (y' := ⟨2, false, i.1, g.1, c.1, by_.1⟩) (u' := .slice A9 by_.1.length c9) rfl)
          have Y13 := Lib.hid (Y12.out.keep (Keep.setCell (S := fun b => b = q) (p := ⟨q, 5, none⟩) (Keep.refl _ wb) (.inr rfl) (.slice A9 by_.1.length c9)) (fun b _ h e => h.2 e))
          have OK := Lib.hid (rok_any K13.out.1.2.1)
          obtain ⟨c0, c1, cf⟩ := cells2 K12.out.1.1
          have cq : P ≠ q := by have := K12.out.2.2.2.1.1; omega
          go_wp2_with fail
          refine OK.out.mono ?_
          rintro e wo ⟨rfl, rfl⟩
          obtain ⟨s11, hs11⟩ : ∃ x, x = mustS ⟨by_.2.1, by_.2.2, s9.e⟩ (!by_.2.2) 12 := ⟨_, rfl⟩
          have M := Lib.hid (cmust_any K13.out.1 (!by_.2.2) 12)
          rw [← hs11] at M
          have Es11 := Lib.hid hs11
          clear hs11
          go_wp2_with fail
          refine M.out.mono ?_
          rintro e wz ⟨rfl, hc⟩
          have K14 := Lib.hid (K13.out.num hc)
          have Y14 := Lib.hid ((Y13.out.keep hc.2 (fun b _ h e => by have := K13.out.2.2.2.1.1; have := h.1; omega)).mono (G := fun b => W.heap.size < b) (fun b _ h => h.1))
          clear hc M K13 K12 Y12 Y13 c0 c1 cf cq
          clear x0 x1 x2 x3 x4 x5 xf
          obtain ⟨x0, x1, x2, x3, x4, x5, xf⟩ := K14.out.cells
          obtain ⟨r0, r1, r2, r3, r4, r5, rf⟩ := cells6 K14.out.2.2.1
          have cqr : W.heap.size ≠ q := by have := K14.out.2.2.2.1.1.1; omega
          have cqr2 : q ≠ W.heap.size := by omega
          have CE := Lib.hid (show cmdS l s = (⟨2, false, i.1, g.1, c.1, by_.1⟩, s11) by
            rw [RE.out]
            have hl : (locS l s2).1 = false := by unfold locS; exact decide_eq_false (Eb.out ▸ HLO.out)
            have qEb := Eb.out
            have qEs4 := Es4.out
            have qEi := Ei.out
            have qEg := Eg.out
            have qEc := Ec.out
            have qEn := En.out
            have qEs9 := Es9.out
            have qEby := Eby.out
            have qEs11 := Es11.out
            subst qEs11; subst qEby; subst qEs9; subst qEn; subst qEc; subst qEg; subst qEi; subst qEs4; subst qEb
            unfold restS datS cmpS tgtS
            rw [hl]
            rfl)
          go_wp2
          exact bodyPost_ret (results_cmd rfl _ _ W.heap.size _ _ _ _ _ _ rfl (stored6 K14.out.2.2.1 _ _ _ _ _ _)) rfl (CCmd.mk_ K14.out Y14.out HF.out HG.out rfl CE.out)
      · by_cases hlo : (numS l s2 1).1 = 1
        · obtain ⟨b, hb⟩ : ∃ x, x = numS l s2 1 := ⟨_, rfl⟩
          have N := Lib.hid (cnum_any H3.out.1 1)
          rw [← hb] at N
          have Eb := Lib.hid hb
          clear hb
          go_wp2_with fail
          refine N.out.mono ?_
          rintro e wb ⟨rfl, hc⟩
          have K1 := Lib.hid (H3.out.num hc)
          clear hc N H3
          rw [← Eb.out] at hlo
          obtain ⟨s4, hs4⟩ : ∃ x, x = mustS b.2 (decide (b.1 ≤ 1)) 11 := ⟨_, rfl⟩
          have M := Lib.hid (cmust_any K1.out.1 (decide (b.1 ≤ 1)) 11)
          rw [← hs4] at M
          have Es4 := Lib.hid hs4
          have lo : (b.1 == 1) = true := by rw [beq_iff_eq]; exact hlo
          have HLO := Lib.hid hlo
          clear hs4 hlo
          go_wp2_with fail
          refine M.out.mono ?_
          rintro e wm ⟨rfl, hc⟩
          have K2 := Lib.hid (K1.out.num hc)
          clear hc M K1
          obtain ⟨x0, x1, x2, x3, x4, x5, xf⟩ := K2.out.cells
          have K3 := Lib.hid (K2.out.set 1 (.bool true) (y' := ⟨3, true, 0, 0, 0, []⟩) (u' := .slice none 0 0) rfl)
          obtain ⟨i, hi⟩ : ∃ x, x = numS l s4 8 := ⟨_, rfl⟩
          have N := Lib.hid (cnum_any K3.out.1 8)
          rw [← hi] at N
          have Ei := Lib.hid hi
          clear hi
          go_wp2_with fail
          refine N.out.mono ?_
          rintro e wi ⟨rfl, hc⟩
          have K4 := Lib.hid (K3.out.num hc)
          clear hc N K2 K3 lo
          clear x0 x1 x2 x3 x4 x5 xf
          obtain ⟨x0, x1, x2, x3, x4, x5, xf⟩ := K4.out.cells
          have K5 := Lib.hid (K4.out.set 2 (.int .i64 i.1) (y' := ⟨3, true, i.1, 0, 0, []⟩) (u' := .slice none 0 0) rfl)
          obtain ⟨c, hc⟩ : ∃ x, x = numS l i.2 8 := ⟨_, rfl⟩
          have N := Lib.hid (cnum_any K5.out.1 8)
          rw [← hc] at N
          have Ec := Lib.hid hc
          clear hc
          go_wp2_with fail
          refine N.out.mono ?_
          rintro e wc ⟨rfl, hc⟩
          have K8 := Lib.hid (K5.out.num hc)
          clear hc N K4 K5
          clear x0 x1 x2 x3 x4 x5 xf
          obtain ⟨x0, x1, x2, x3, x4, x5, xf⟩ := K8.out.cells
          have K9 := Lib.hid (K8.out.set 4 (.int .i64 c.1) (y' := ⟨3, true, i.1, 0, c.1, []⟩) (u' := .slice none 0 0) rfl)
          clear x0 x1 x2 x3 x4 x5 xf
          obtain ⟨x0, x1, x2, x3, x4, x5, xf⟩ := K8.out.cells
          obtain ⟨r0, r1, r2, r3, r4, r5, rf⟩ := cells6 K8.out.2.2.1
          have cqr : W.heap.size ≠ q := by have := K8.out.2.2.2.1.1.1; omega
          have cqr2 : q ≠ W.heap.size := by omega
          have CE := Lib.hid (show cmdS l s = (⟨3, true, i.1, 0, c.1, []⟩, c.2) by
            rw [RE.out]
            have hl : (locS l s2).1 = true := by unfold locS; exact decide_eq_true (Eb.out ▸ HLO.out)
            have qEb := Eb.out
            have qEs4 := Es4.out
            have qEi := Ei.out
            have qEc := Ec.out
            subst qEc; subst qEi; subst qEs4; subst qEb
            unfold restS datS cmpS tgtS
            rw [hl]
            rfl)
          go_wp2
          exact bodyPost_ret (results_cmd rfl _ _ W.heap.size _ _ _ _ _ _ rfl (stored6 K9.out.2.2.1 _ _ _ _ _ _)) rfl (CCmd.mk_ K9.out (By.nil _ _) HF.out HG.out rfl CE.out)
        · obtain ⟨b, hb⟩ : ∃ x, x = numS l s2 1 := ⟨_, rfl⟩
          have N := Lib.hid (cnum_any H3.out.1 1)
          rw [← hb] at N
          have Eb := Lib.hid hb
          clear hb
          go_wp2_with fail
          refine N.out.mono ?_
          rintro e wb ⟨rfl, hc⟩
          have K1 := Lib.hid (H3.out.num hc)
          clear hc N H3
          rw [← Eb.out] at hlo
          obtain ⟨s4, hs4⟩ : ∃ x, x = mustS b.2 (decide (b.1 ≤ 1)) 11 := ⟨_, rfl⟩
          have M := Lib.hid (cmust_any K1.out.1 (decide (b.1 ≤ 1)) 11)
          rw [← hs4] at M
          have Es4 := Lib.hid hs4
          have lo : (b.1 == 1) = false := by rw [beq_eq_false_iff_ne]; exact hlo
          have HLO := Lib.hid hlo
          clear hs4 hlo
          go_wp2_with fail
          refine M.out.mono ?_
          rintro e wm ⟨rfl, hc⟩
          have K2 := Lib.hid (K1.out.num hc)
          clear hc M K1
          obtain ⟨x0, x1, x2, x3, x4, x5, xf⟩ := K2.out.cells
          have K3 := Lib.hid (K2.out.set 1 (.bool false) (y' := ⟨3, false, 0, 0, 0, []⟩) (u' := .slice none 0 0) rfl)
          obtain ⟨i, hi⟩ : ∃ x, x = numS l s4 8 := ⟨_, rfl⟩
          have N := Lib.hid (cnum_any K3.out.1 8)
          rw [← hi] at N
          have Ei := Lib.hid hi
          clear hi
          go_wp2_with fail
          refine N.out.mono ?_
          rintro e wi ⟨rfl, hc⟩
          have K4 := Lib.hid (K3.out.num hc)
          clear hc N K2 K3 lo
          clear x0 x1 x2 x3 x4 x5 xf
          obtain ⟨x0, x1, x2, x3, x4, x5, xf⟩ := K4.out.cells
          have K5 := Lib.hid (K4.out.set 2 (.int .i64 i.1) (y' := ⟨3, false, i.1, 0, 0, []⟩) (u' := .slice none 0 0) rfl)
          obtain ⟨g, hg⟩ : ∃ x, x = numS l i.2 8 := ⟨_, rfl⟩
          have N := Lib.hid (cnum_any K5.out.1 8)
          rw [← hg] at N
          have Eg := Lib.hid hg
          clear hg
          go_wp2_with fail
          refine N.out.mono ?_
          rintro e wg ⟨rfl, hc⟩
          have K6 := Lib.hid (K5.out.num hc)
          clear hc N K4 K5
          clear x0 x1 x2 x3 x4 x5 xf
          obtain ⟨x0, x1, x2, x3, x4, x5, xf⟩ := K6.out.cells
          have K7 := Lib.hid (K6.out.set 3 (.int .i64 g.1) (y' := ⟨3, false, i.1, g.1, 0, []⟩) (u' := .slice none 0 0) rfl)
          obtain ⟨c, hc⟩ : ∃ x, x = numS l g.2 8 := ⟨_, rfl⟩
          have N := Lib.hid (cnum_any K7.out.1 8)
          rw [← hc] at N
          have Ec := Lib.hid hc
          clear hc
          go_wp2_with fail
          refine N.out.mono ?_
          rintro e wc ⟨rfl, hc⟩
          have K8 := Lib.hid (K7.out.num hc)
          clear hc N K6 K7
          clear x0 x1 x2 x3 x4 x5 xf
          obtain ⟨x0, x1, x2, x3, x4, x5, xf⟩ := K8.out.cells
          have K9 := Lib.hid (K8.out.set 4 (.int .i64 c.1) (y' := ⟨3, false, i.1, g.1, c.1, []⟩) (u' := .slice none 0 0) rfl)
          clear x0 x1 x2 x3 x4 x5 xf
          obtain ⟨x0, x1, x2, x3, x4, x5, xf⟩ := K8.out.cells
          obtain ⟨r0, r1, r2, r3, r4, r5, rf⟩ := cells6 K8.out.2.2.1
          have cqr : W.heap.size ≠ q := by have := K8.out.2.2.2.1.1.1; omega
          have cqr2 : q ≠ W.heap.size := by omega
          have CE := Lib.hid (show cmdS l s = (⟨3, false, i.1, g.1, c.1, []⟩, c.2) by
            rw [RE.out]
            have hl : (locS l s2).1 = false := by unfold locS; exact decide_eq_false (Eb.out ▸ HLO.out)
            have qEb := Eb.out
            have qEs4 := Es4.out
            have qEi := Ei.out
            have qEg := Eg.out
            have qEc := Ec.out
            subst qEc; subst qEg; subst qEi; subst qEs4; subst qEb
            unfold restS datS cmpS tgtS
            rw [hl]
            rfl)
          go_wp2
          exact bodyPost_ret (results_cmd rfl _ _ W.heap.size _ _ _ _ _ _ rfl (stored6 K9.out.2.2.1 _ _ _ _ _ _)) rfl (CCmd.mk_ K9.out (By.nil _ _) HF.out HG.out rfl CE.out)
  · have e1 : (s2.e != 0) = true := by simp [he]
    have CE := Lib.hid (show cmdS l s = (⟨d, false, 0, 0, 0, []⟩, s2) by rw [HC.out, if_pos (.inl he)])
    clear he ME HC
    go_wp2
    exact bodyPost_ret (results_cmd rfl _ _ W.heap.size _ _ _ _ _ _ rfl (stored6 H3.out.2.2.1 _ _ _ _ _ _)) rfl (CCmd.mk_ H3.out (By.nil _ _) HF.out HG.out rfl CE.out)
end Go.Proofs.Ythkgchlndfcmpaa

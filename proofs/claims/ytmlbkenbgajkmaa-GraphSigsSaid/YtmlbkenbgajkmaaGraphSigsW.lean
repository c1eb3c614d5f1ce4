/- The walk of vivariumlaw10.GraphSigs: it returns true, old memory unchanged. -/
import Derived.Test.YtmlbkenbgajkmaaGraphStepsW
import Derived.Test.YtmlbkenbgajkmaaGraphS
import Derived.Test.YtmlbkenbgajkmaaSame
namespace Go.Proofs.Ytmlbkenbgajkmaa
open Go.RowKit
set_option maxRecDepth 100000

theorem graphSigs_walk (l : List GSt) (A : Option Addr) (len cap : Nat) (W : World) (hA : ArgSt gcells 4 gok W A len cap l) (a b : Nat) (ha : a < 18446744073709551616) (hb : b < 18446744073709551616) :
    Calls Try.prog 8 #[.slice A len cap, .int .u64 a, .int .u64 b] W fun e w' => e = .returned (.bool true) ∧ Below W.heap.size W w' := by
  obtain ⟨hlc, hcm, hrd, hll, hok, _⟩ := hA
  by_cases hlen : 60 < len
  · clear hrd hok
    go_enter Try.func8, Try.ntmps8
    go_wp2_with (go_at_call 22; refine (grLive _).mono ?_; rintro e w' ⟨rfl, hb⟩)
    go_ret
    exact ⟨rfl, hb⟩
  · have RD := Lib.hid (And.intro hrd (And.intro hll hok))
    clear hrd hok hlc hcm hll
    have hlen' : len ≤ 60 := by omega
    go_enter Try.func8, Try.ntmps8
    go_wp2_with (go_at_call 23; refine (gr_new' _).mono ?_; rintro e w1 ⟨p, F1, rfl, h1, b1, f1⟩; have H1 := Lib.hid (And.intro h1 (And.intro b1 f1)); clear h1 b1 f1)
    go_loopw [8, 9] (fun v i wr => ∃ k : Nat, k ≤ len ∧ i = .int .i64 k ∧ Hid (StepsSt W p l k v wr)) (fun _ i _ => len - (intOf i).toNat)
    case atStart =>
      obtain ⟨h1, b1, f1⟩ := H1.out
      obtain ⟨q', bl, L, hq, g⟩ := h1
      refine ⟨0, by omega, rfl, Lib.hid ⟨F1, fun k => k = w1.heap.size, ?_, f1, ?_, ?_, ?_⟩⟩
      · exact GrIs.keep ⟨q', bl, L, hq, g⟩ ((Keep.refl (fun _ => False) _).alloc _) (fun _ _ h => h)
      · exact Sl.lit w1 36 [.int .u64 0] (by unfold maxLen; simp)
      · intro x hx hf
        have := g.lt x hf
        omega
      · exact b1.trans (((Keep.refl (fun _ => False) w1).alloc _).to_below'.mono b1.size)
    case round =>
      obtain ⟨k, hk, rfl, hst⟩ := hrel
      by_cases hlt : k < len
      · obtain ⟨b, off, s, rfl, _, hs, hc⟩ := flat_cells gcells_len RD.out.1 RD.out.2.1 (by omega) hlt
        obtain ⟨hcw, ⟨A2, m2, c2, rfl⟩, hdo⟩ := stepsSt_round hst.out hs RD.out.2.2 (by rw [RD.out.2.1]; exact hlen')
        have hc0 : wr.cell? ⟨b, off + k * 4, none⟩ = some (.int .i64 s.act) := hcw _ _ (hc 0 _ rfl)
        have hc1 := hcw _ _ (hc 1 _ rfl)
        have hc2 := hcw _ _ (hc 2 _ rfl)
        have hc3 := hcw _ _ (hc 3 _ rfl)
        have HC := Lib.hid hc
        have D := Lib.hid hdo
        clear hc hcw hdo hst hs
        unfold gval at D
        go_wp2_with (first
          | (go_at_call 24; refine D.out.mono ?_; rintro e w1 ⟨z, rfl, hcw, hgo⟩; have hd0 : w1.cell? ⟨b, off + k * 4, none⟩ = some (.int .i64 s.act) := hcw _ _ (HC.out 0 _ rfl); have hd1 := hcw _ _ (HC.out 1 _ rfl); have hd2 := hcw _ _ (HC.out 2 _ rfl); have hd3 := hcw _ _ (HC.out 3 _ rfl); have GO := Lib.hid hgo; clear hcw hgo)
          | (go_at_call 25; refine GO.out.mono ?_; rintro e w2 ⟨A3, m3, c3, rfl, hst, hlen3⟩; clear hlen3))
        go_roundw
        case rel => exact ⟨k + 1, by omega, by go_num, hst⟩
        case measure => simp [intOf]; omega
      · obtain rfl : k = len := by omega
        obtain ⟨Foot, F, hg, hfoot, hsl, hF, hbel⟩ := hst.out
        have hm : (goAll [0] (l.take k)).length ≤ 1099511627776 := by
          have := (goAll_len (l.take k) [0]).1
          rw [List.length_take, RD.out.2.1] at this
          simp at this
          omega
        have hsm := (goAll_ok (l.take k) [0] (fun x hx => RD.out.2.2 x (List.mem_of_mem_take hx)) (by simp) (by simp)).1
        generalize goAll [0] (l.take k) = S at *
        obtain ⟨A2, c2, rfl, q1, q2, q3, q4⟩ := hsl
        rw [Nat.mul_one] at q4
        have hlg := sgTo_len S a b S.length
        have SS := Lib.hid (fun w1 (hb' : Below wr.heap.size wr w1) => gis_sigs (hg.keep (Keep.of_below' hb') (fun _ _ h => h)) a b ha hb)
        have RS := Lib.hid (fun w1 (hb' : Below wr.heap.size wr w1) => rgSigs S A2 _ c2 F w1 (q4.below hb') (by omega) hsm a b ha hb)
        have BL := Lib.hid hbel
        clear hst hg hbel hfoot hF q4 q3 q1 q2 hsm
        generalize sgTo S a b S.length = d at *
        generalize S.length = m at *
        obtain ⟨n, hn⟩ : ∃ n, d.length = n := ⟨_, rfl⟩
        rw [hn] at hlg SS RS
        clear hn
        go_wp2_with (first
          | (go_at_call 27; refine (gnil_sig _).mono ?_; rintro e w' ⟨rfl, rfl⟩)
          | (go_at_call 28; refine (gnil_find _).mono ?_; rintro e w' ⟨rfl, rfl⟩)
          | (go_at_call 30; refine (gnil_node _).mono ?_; rintro e w' ⟨rfl, rfl⟩))
        refine (gnil_with _).mono ?_
        rintro e w2 ⟨rfl, hb2⟩
        have B2 := Lib.hid hb2
        clear hb2
        go_wp2_with fail
        refine (gnil_without _).mono ?_
        rintro e w3 ⟨rfl, hb3⟩
        have B3 := Lib.hid (B2.out.trans (hb3.mono B2.out.size))
        clear hb3 B2
        go_wp2_with (go_at_call 26; refine (gnil_len _).mono ?_; rintro e w' ⟨rfl, rfl⟩)
        refine (gnil_sigs _).mono ?_
        rintro e w4 ⟨rfl, rfl⟩
        go_wp2_with fail
        refine (SS.out _ B3.out).mono ?_
        rintro e w5 ⟨v5, rfl, ho5, hb5⟩
        have B5 := Lib.hid (B3.out.trans (hb5.mono B3.out.size))
        obtain ⟨A5, c5, rfl, hr5⟩ := ho5.form
        rw [Nat.mul_one] at hr5
        have R5 := Lib.hid hr5
        clear hb5 hr5 ho5
        go_wp2_with fail
        refine (RS.out _ B5.out).mono ?_
        rintro e w6 ⟨v6, rfl, ho6, hb6⟩
        have B6 := Lib.hid (B5.out.trans (hb6.mono B5.out.size))
        have R6 := Lib.hid (R5.out.below hb6)
        obtain ⟨A6, c6, rfl, hr6⟩ := ho6.form
        rw [Nat.mul_one] at hr6
        have R7 := Lib.hid hr6
        clear hb6 hr6 ho6
        go_wp2_with fail
        refine (sameList_any _ _ A5 A6 n n c5 c6 _ _ _ R6.out R7.out (by omega) (by omega)).mono ?_
        rintro e w7 ⟨rfl, q, rfl⟩
        rw [decide_eq_true (rfl : ints d = ints d)]
        go_wp2_with (go_at_call 22; refine (grLive _).mono ?_; rintro e w8 ⟨rfl, hb8⟩)
        go_ret
        have sz := BL.out.size
        have sz6 := B6.out.size
        exact ⟨rfl, (below_drewN (BL.out.trans (B6.out.mono sz)) q).trans (hb8.mono (Nat.le_trans sz sz6))⟩
end Go.Proofs.Ytmlbkenbgajkmaa

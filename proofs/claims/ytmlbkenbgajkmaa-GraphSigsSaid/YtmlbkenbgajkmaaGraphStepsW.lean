/- The walk of vivariumlaw10.GraphSteps: it returns true, old memory unchanged. -/
import Derived.Test.YtmlbkenbgajkmaaGraph5
import Derived.Test.YtmlbkenbgajkmaaGraphA
namespace Go.Proofs.Ytmlbkenbgajkmaa
open Go.RowKit
set_option maxRecDepth 100000

/-- Behind k steps: the graph and the list beside it. -/
def StepsSt (W : World) (p : Nat) (l : List GSt) (k : Nat) (v : Value) (w : World) : Prop :=
  ∃ Foot F, GrIs w p Foot k (goAll [0] (l.take k)) ∧ (∀ x, Foot x → W.heap.size ≤ x) ∧ Sl w F 1 v (goAll [0] (l.take k)).length (uv (goAll [0] (l.take k))) ∧ (∀ x, F x → ¬ Foot x) ∧ Below W.heap.size W w

theorem stepsSt_next {W w w1 w2 : World} {p k : Nat} {l : List GSt} {v' : Value} {s : GSt} {Foot F : Nat → Prop} (hs : l[k]? = some s) (hfoot : ∀ x, Foot x → W.heap.size ≤ x) (hF : ∀ x, F x → ¬ Foot x) (hb : Below W.heap.size W w)
    (hto : GrTo w p Foot (k + 1) (goS (goAll [0] (l.take k)) s.act s.n s.c s.sig).1 w1)
    (hsl : Sl w2 (fun x => F x ∧ x < w.heap.size ∨ w1.heap.size ≤ x) 1 v' (goS (goAll [0] (l.take k)) s.act s.n s.c s.sig).1.length (uv (goS (goAll [0] (l.take k)) s.act s.n s.c s.sig).1)) (hb2 : Below w1.heap.size w1 w2) : StepsSt W p l (k + 1) v' w2 := by
  obtain ⟨Foot', h1, h2, h3⟩ := hto
  have lt : ∀ x, Foot' x → x < w1.heap.size := by obtain ⟨q', bl, L, _, g⟩ := h1; exact g.lt
  have sz := hb.size
  refine ⟨Foot', fun x => F x ∧ x < w.heap.size ∨ w1.heap.size ≤ x, ?_, fun x hx => ?_, ?_, fun x hx hf => ?_, ?_⟩
  · rw [goAll_take _ _ hs]; exact h1.keep (Keep.of_below' hb2) (fun _ _ h => h)
  · rcases h3 x hx with h | h
    · exact hfoot x h
    · omega
  · rw [goAll_take _ _ hs]; exact hsl
  · rcases hx with h | h
    · rcases h3 x hf with h' | h'
      · exact hF x h.1 h'
      · omega
    · have := lt x hf; omega
  · have := h2.size
    exact (hb.trans (h2.below sz (fun x hx hf => by have := hfoot x hf; omega))).trans (hb2.mono (by omega))

/-- The step's value: as the walk holds it. -/
def gval (s : GSt) : Value := .agg #[.int .i64 s.act, .int .u64 s.sig, .int .i64 s.n, .int .i64 s.c]
theorem stepsSt_round {W w : World} {p k : Nat} {l : List GSt} {v : Value} {s : GSt} (h : StepsSt W p l k v w) (hs : l[k]? = some s) (hok : ∀ x ∈ l, gok x) (hl : l.length ≤ 60) :
    (∀ a u, W.cell? a = some u → w.cell? a = some u) ∧ (∃ A n c, v = .slice A n c) ∧
    Calls Try.prog 24 #[.pointer (some ⟨p, 0, none⟩), gval s] w fun e w1 => ∃ z : Int, e = .returned (.int .i64 z) ∧ (∀ a u, W.cell? a = some u → w1.cell? a = some u) ∧
      Calls Try.prog 25 #[v, gval s] w1 fun e w2 => ∃ A m c, e = .returned (.tuple #[.slice A m c, .int .i64 z]) ∧ Hid (StepsSt W p l (k + 1) (.slice A m c) w2) ∧
        Calls Try.prog 26 #[.pointer (some ⟨p, 0, none⟩)] w2 fun e w3 => e = .returned (.int .i64 (m : Nat)) ∧ w2 = w3 := by
  have hst := h
  obtain ⟨Foot, F, hg, hfoot, hsl, hF, hbel⟩ := h
  have hlk := (goAll_len (l.take k) [0]).1
  have hsm := goAll_ok (l.take k) [0] (fun x hx => hok x (List.mem_of_mem_take hx)) (by simp) (by simp)
  have hkl := (List.getElem?_eq_some_iff.1 hs).1
  rw [List.length_take] at hlk
  have okS := hok s (List.mem_of_getElem? hs)
  have hlen1 : (goAll [0] (l.take k)).length < 1099511627776 := by simp at hlk; omega
  obtain ⟨A2, c2, rfl, q1, q2, q3, q4⟩ := hsl
  refine ⟨fun a u ha => (Keep.of_below' hbel).cell (fun h => h) ha, ⟨_, _, _, rfl⟩, (gis_do hg s.act s.n s.c s.sig (by omega) hlen1 okS.2 okS.1).mono ?_⟩
  rintro e w1 ⟨rfl, hto⟩
  have kb := hto.below (B := W.heap.size) hbel.size hfoot
  refine ⟨_, rfl, fun a u ha => (Keep.of_below' (hbel.trans kb)).cell (fun h => h) ha, ?_⟩
  have hto' := hto
  obtain ⟨Foot', h1, h2, h3⟩ := hto
  have hsl1 : Sl w1 (fun x => F x ∧ x < w.heap.size) 1 (.slice A2 (goAll [0] (l.take k)).length c2) (goAll [0] (l.take k)).length (uv (goAll [0] (l.take k))) :=
    Sl.keep (Sl.mono ⟨A2, c2, rfl, q1, q2, q3, q4⟩ (fun b hb hf => ⟨hf, hb⟩)) h2 (fun x hx hF' => hF x hF'.1)
  refine (rgGo _ A2 _ c2 _ w1 hsl1 (by omega) hsm.1 s.act s.n s.c s.sig).mono ?_
  rintro e w2 ⟨v', rfl, hsl', hb2⟩
  have nx := stepsSt_next hs hfoot hF hbel hto' hsl' hb2
  obtain ⟨A3, c3, rfl, _⟩ := hsl'
  refine ⟨A3, _, c3, rfl, Lib.hid nx, ?_⟩
  exact gis_len (h1.keep (Keep.of_below' hb2) (fun _ _ h => h))

theorem graphSteps_walk (l : List GSt) (A : Option Addr) (len cap : Nat) (W : World) (hA : ArgSt gcells 4 gok W A len cap l) (n : Int) (sig : Nat) (hsig : sig < 18446744073709551616) :
    Calls Try.prog 5 #[.slice A len cap, .int .i64 n, .int .u64 sig] W fun e w' => e = .returned (.bool true) ∧ Below W.heap.size W w' := by
  obtain ⟨hlc, hcm, hrd, hll, hok, _⟩ := hA
  by_cases hlen : 60 < len
  · clear hrd hok
    go_enter Try.func5, Try.ntmps5
    go_wp2_with (go_at_call 22; refine (grLive _).mono ?_; rintro e w' ⟨rfl, hb⟩)
    go_ret
    exact ⟨rfl, hb⟩
  · have RD := Lib.hid (And.intro hrd (And.intro hll hok))
    clear hrd hok hlc hcm hll
    have hlen' : len ≤ 60 := by omega
    go_enter Try.func5, Try.ntmps5
    go_wp2_with (go_at_call 23; refine (gr_new' _).mono ?_; rintro e w1 ⟨p, F1, rfl, h1, b1, f1⟩; have H1 := Lib.hid (And.intro h1 (And.intro b1 f1)); clear h1 b1 f1)
    go_loopw [8, 9] (fun v i wr => ∃ k : Nat, k ≤ len ∧ i = .int .i64 k ∧ Hid (StepsSt W p l k v wr)) (fun _ i _ => len - (intOf i).toNat)
    case atStart =>
      obtain ⟨h1, b1, f1⟩ := H1.out
      obtain ⟨q', bl, L, hq, g⟩ := h1
      refine ⟨0, by omega, rfl, Lib.hid ⟨F1, fun k => k = w1.heap.size, ?_, f1, ?_, ?_, ?_⟩⟩
      · exact GrIs.keep ⟨q', bl, L, hq, g⟩ ((Keep.refl (fun _ => False) _).alloc _) (fun _ _ h => h)
      · exact Sl.lit w1 36 [.int .u64 0] (by unfold maxLen; simp)
      · intro x hx hf
        have := g.lt x hf
        omega
      · exact b1.trans (((Keep.refl (fun _ => False) w1).alloc _).to_below'.mono b1.size)
    case round =>
      obtain ⟨k, hk, rfl, hst⟩ := hrel
      by_cases hlt : k < len
      · obtain ⟨b, off, s, rfl, _, hs, hc⟩ := flat_cells gcells_len RD.out.1 RD.out.2.1 (by omega) hlt
        obtain ⟨hcw, ⟨A2, m2, c2, rfl⟩, hdo⟩ := stepsSt_round hst.out hs RD.out.2.2 (by rw [RD.out.2.1]; exact hlen')
        have hc0 : wr.cell? ⟨b, off + k * 4, none⟩ = some (.int .i64 s.act) := hcw _ _ (hc 0 _ rfl)
        have hc1 := hcw _ _ (hc 1 _ rfl)
        have hc2 := hcw _ _ (hc 2 _ rfl)
        have hc3 := hcw _ _ (hc 3 _ rfl)
        have HC := Lib.hid hc
        have D := Lib.hid hdo
        clear hc hcw hdo hst hs
        unfold gval at D
        go_wp2_with (first
          | (go_at_call 24; refine D.out.mono ?_; rintro e w1 ⟨z, rfl, hcw, hgo⟩; have hd0 : w1.cell? ⟨b, off + k * 4, none⟩ = some (.int .i64 s.act) := hcw _ _ (HC.out 0 _ rfl); have hd1 := hcw _ _ (HC.out 1 _ rfl); have hd2 := hcw _ _ (HC.out 2 _ rfl); have hd3 := hcw _ _ (HC.out 3 _ rfl); have GO := Lib.hid hgo; clear hcw hgo)
          | (go_at_call 25; refine GO.out.mono ?_; rintro e w2 ⟨A3, m3, c3, rfl, hst, hlen3⟩; have LE := Lib.hid hlen3; clear hlen3)
          | (go_at_call 26; refine LE.out.mono ?_; rintro e w3 ⟨rfl, rfl⟩))
        go_roundw
        case rel => exact ⟨k + 1, by omega, by go_num, hst⟩
        case measure => simp [intOf]; omega
      · obtain rfl : k = len := by omega
        obtain ⟨Foot, F, hg, hfoot, hsl, hF, hbel⟩ := hst.out
        have hm : (goAll [0] (l.take k)).length ≤ 1099511627776 := by
          have := (goAll_len (l.take k) [0]).1
          rw [List.length_take, RD.out.2.1] at this
          simp at this
          omega
        generalize goAll [0] (l.take k) = S at *
        obtain ⟨A2, c2, rfl, q1, q2, q3, q4⟩ := hsl
        rw [Nat.mul_one] at q4
        have SG := Lib.hid (gis_sig hg n)
        have FI := Lib.hid (gis_find hg sig hsig)
        have RF := Lib.hid (rgFind S A2 _ c2 F _ q4 (by omega) sig)
        have BL := Lib.hid hbel
        have bz : (((pos S sig).getD 0 : Nat) : Int) == (((pos S sig).getD 0 : Nat) : Int) := by simp
        have bb : ((pos S sig).isSome == (pos S sig).isSome) = true := by simp
        by_cases hn : 0 ≤ n ∧ n < S.length
        · obtain ⟨j, rfl⟩ := Int.eq_ofNat_of_zero_le hn.1
          have hj : j < S.length := by omega
          obtain ⟨b2, o2, rfl, _, hc⟩ := q4.at_ hj
          have ck := hc j _ (uv_at hj).1
          rw [if_pos hn, decide_eq_true hn.1, decide_eq_true hn.2, Int.toNat_natCast] at SG
          have hji : (j : Int) < (S.length : Int) := by omega
          have bx : (((S.getD j 0 : Nat) : Int) == ((S.getD j 0 : Nat) : Int)) = true := by simp
          clear hc q4 hn hst hg hbel hfoot hF q3 q1 q2
          generalize S.getD j 0 = x at *
          generalize (pos S sig).getD 0 = y at *
          generalize (pos S sig).isSome = t at *
          generalize S.length = m at *
          go_wp2_with (first
            | (go_at_call 27; refine SG.out.mono ?_; rintro e w3 ⟨rfl, rfl⟩)
            | (go_at_call 28; refine FI.out.mono ?_; rintro e w3 ⟨rfl, rfl⟩)
            | (go_at_call 29; refine RF.out.mono ?_; rintro e w3 ⟨rfl, rfl⟩)
            | (go_at_call 22; refine (grLive _).mono ?_; rintro e w4 ⟨rfl, hb4⟩))
          go_ret
          exact ⟨rfl, BL.out.trans (hb4.mono BL.out.size)⟩
        · rw [if_neg hn] at SG
          clear hst hg hbel hfoot hF q4 q3 q1 q2
          by_cases h0 : n < 0
          · rw [decide_eq_false (p := 0 ≤ n) (by omega), Bool.false_and] at SG
            clear hn
            generalize (pos S sig).getD 0 = y at *
            generalize (pos S sig).isSome = t at *
            generalize S.length = m at *
            go_wp2_with (first
              | (go_at_call 27; refine SG.out.mono ?_; rintro e w3 ⟨rfl, rfl⟩)
              | (go_at_call 28; refine FI.out.mono ?_; rintro e w3 ⟨rfl, rfl⟩)
              | (go_at_call 29; refine RF.out.mono ?_; rintro e w3 ⟨rfl, rfl⟩)
              | (go_at_call 22; refine (grLive _).mono ?_; rintro e w4 ⟨rfl, hb4⟩))
            go_ret
            exact ⟨rfl, BL.out.trans (hb4.mono BL.out.size)⟩
          · have h1 : (S.length : Int) ≤ n := by omega
            rw [decide_eq_true (p := 0 ≤ n) (by omega), decide_eq_false (p := n < S.length) (by omega), Bool.and_false] at SG
            clear hn
            generalize (pos S sig).getD 0 = y at *
            generalize (pos S sig).isSome = t at *
            generalize S.length = m at *
            go_wp2_with (first
              | (go_at_call 27; refine SG.out.mono ?_; rintro e w3 ⟨rfl, rfl⟩)
              | (go_at_call 28; refine FI.out.mono ?_; rintro e w3 ⟨rfl, rfl⟩)
              | (go_at_call 29; refine RF.out.mono ?_; rintro e w3 ⟨rfl, rfl⟩)
              | (go_at_call 22; refine (grLive _).mono ?_; rintro e w4 ⟨rfl, hb4⟩))
            go_ret
            exact ⟨rfl, BL.out.trans (hb4.mono BL.out.size)⟩
end Go.Proofs.Ytmlbkenbgajkmaa

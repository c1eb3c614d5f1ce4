/- The walk of vivariumlaw10.GraphOnce: it returns true, old memory unchanged. -/
import Derived.Test.YtmlbkenbgajkmaaGraph5
import Derived.Test.YtmlbkenbgajkmaaGraphA
namespace Go.Proofs.Ytmlbkenbgajkmaa
open Go.RowKit
set_option maxRecDepth 100000

/-- The graph in its own memory, over S. -/
def OnceSt (W : World) (p q : Nat) (S : List Nat) (w : World) : Prop :=
  ∃ Foot, GrIs w p Foot q S ∧ (∀ x, Foot x → W.heap.size ≤ x) ∧ Below W.heap.size W w

theorem goS_pos {S : List Nat} (a n c : Int) (sig : Nat) {y k : Nat} (h : pos S y = some k) : pos (goS S a n c sig).1 y = some k := by
  unfold goS
  split
  · split
    · exact nodeS_keep h
    · exact h
  · exact nodeS_keep h
theorem OnceSt.next {W w w1 : World} {p q q' : Nat} {Foot : Nat → Prop} {S : List Nat} (hf : ∀ x, Foot x → W.heap.size ≤ x) (hb : Below W.heap.size W w) (h : GrTo w p Foot q' S w1) (hq : q' ≤ q) : OnceSt W p q S w1 := by
  have kb := h.below (B := W.heap.size) hb.size hf
  obtain ⟨Foot', ⟨q1, bl, L, h0, g⟩, h2, h3⟩ := h
  exact ⟨Foot', ⟨q1, bl, L, by omega, g⟩, fun x hx => (h3 x hx).elim (hf x) (fun h => Nat.le_trans hb.size h), hb.trans kb⟩
theorem OnceSt.do_ {W w : World} {p q : Nat} {S : List Nat} (h : OnceSt W p q S w) (s : GSt) (hs : gok s) (hq : q < 1099511627776) (hlen : S.length < 1099511627776) :
    Calls Try.prog 24 #[.pointer (some ⟨p, 0, none⟩), .agg #[.int .i64 s.act, .int .u64 s.sig, .int .i64 s.n, .int .i64 s.c]] w fun e w1 => ∃ z : Int, e = .returned (.int .i64 z) ∧ OnceSt W p (q + 1) (goS S s.act s.n s.c s.sig).1 w1 := by
  obtain ⟨Foot, hg, hf, hb⟩ := h
  exact (gis_do hg s.act s.n s.c s.sig hq hlen hs.2 hs.1).mono fun e w1 ⟨he, hto⟩ => ⟨_, he, OnceSt.next hf hb hto (Nat.le_refl _)⟩
theorem OnceSt.node {W w : World} {p q : Nat} {S : List Nat} (h : OnceSt W p q S w) (x : Nat) (hx : x < 18446744073709551616) (hlen : S.length < 1099511627776) :
    Calls Try.prog 30 #[.pointer (some ⟨p, 0, none⟩), .int .u64 x] w fun e w1 => e = .returned (.int .i64 (nodeI S x : Nat)) ∧ OnceSt W p q (nodeS S x) w1 := by
  obtain ⟨Foot, hg, hf, hb⟩ := h
  exact (gis_node hg x hx hlen).mono fun e w1 ⟨he, hto⟩ => ⟨he, OnceSt.next hf hb hto (Nat.le_refl _)⟩
theorem OnceSt.cell {W w : World} {p q : Nat} {S : List Nat} (h : OnceSt W p q S w) {a : Addr} {u : Value} (ha : W.cell? a = some u) : w.cell? a = some u := by
  obtain ⟨_, _, _, hb⟩ := h
  exact (Keep.of_below' hb).cell (fun h => h) ha

theorem graphOnce_walk (l more : List GSt) (A : Option Addr) (len cap : Nat) (A' : Option Addr) (len' cap' : Nat) (W : World) (hA : ArgSt gcells 4 gok W A len cap l) (hB : ArgSt gcells 4 gok W A' len' cap' more) (sig : Nat) (hsig : sig < 18446744073709551616) :
    Calls Try.prog 6 #[.slice A len cap, .slice A' len' cap', .int .u64 sig] W fun e w' => e = .returned (.bool true) ∧ Below W.heap.size W w' := by
  obtain ⟨_, _, hrd, hll, hok, _⟩ := hA
  obtain ⟨_, _, hrd', hll', hok', _⟩ := hB
  have RD := Lib.hid (And.intro hrd (And.intro hll hok))
  have RD' := Lib.hid (And.intro hrd' (And.intro hll' hok'))
  clear hrd hok hll hrd' hok' hll'
  by_cases hlen : 60 < len
  · go_enter Try.func6, Try.ntmps6
    go_wp2_with (go_at_call 22; refine (grLive _).mono ?_; rintro e w' ⟨rfl, hb⟩)
    go_ret
    exact ⟨rfl, hb⟩
  by_cases hlen' : 60 < len'
  · go_enter Try.func6, Try.ntmps6
    go_wp2_with (go_at_call 22; refine (grLive _).mono ?_; rintro e w' ⟨rfl, hb⟩)
    go_ret
    exact ⟨rfl, hb⟩
  have hlen : len ≤ 60 := by omega
  have hlen' : len' ≤ 60 := by omega
  go_enter Try.func6, Try.ntmps6
  go_wp2_with (go_at_call 23; refine (gr_new' _).mono ?_; rintro e w1 ⟨p, F1, rfl, h1, b1, f1⟩; have H1 := Lib.hid (And.intro h1 (And.intro b1 f1)); clear h1 b1 f1)
  go_loopw [8] (fun i wr => ∃ k : Nat, k ≤ len ∧ i = .int .i64 k ∧ Hid (∃ S, S.length ≤ k + 1 ∧ OnceSt W p k S wr)) (fun i _ => len - (intOf i).toNat)
  case atStart =>
    obtain ⟨h1, b1, f1⟩ := H1.out
    exact ⟨0, by omega, rfl, Lib.hid ⟨_, by simp, F1, h1, f1, b1⟩⟩
  case round =>
    obtain ⟨k, hk, rfl, hst⟩ := hrel
    by_cases hlt : k < len
    · obtain ⟨b, off, s, rfl, _, hs, hc⟩ := flat_cells gcells_len RD.out.1 RD.out.2.1 (by omega) hlt
      obtain ⟨S, hS, hSt⟩ := hst.out
      have hc0 : wr.cell? ⟨b, off + k * 4, none⟩ = some (.int .i64 s.act) := hSt.cell (hc 0 _ rfl)
      have hc1 := hSt.cell (hc 1 _ rfl)
      have hc2 := hSt.cell (hc 2 _ rfl)
      have hc3 := hSt.cell (hc 3 _ rfl)
      have D := Lib.hid (hSt.do_ s (RD.out.2.2 s (List.mem_of_getElem? hs)) (by omega) (by omega))
      have hS' := Lib.hid (show (goS S s.act s.n s.c s.sig).1.length ≤ k + 1 + 1 by have := (goS_len S s.act s.n s.c s.sig).2; omega)
      clear hc hst hs hSt hS
      go_wp2_with (go_at_call 24; refine D.out.mono ?_; rintro e w2 ⟨z, rfl, hst2⟩; have ST := Lib.hid hst2; clear hst2)
      go_roundw
      case rel => exact ⟨k + 1, by omega, by go_num, Lib.hid ⟨_, hS'.out, ST.out⟩⟩
      case measure => simp [intOf]; omega
    · obtain rfl : k = len := by omega
      obtain ⟨S, hS, hSt⟩ := hst.out
      have N := Lib.hid (hSt.node sig hsig (by omega))
      have hp := nodeS_pos S sig
      have hl := nodeS_len S sig
      have hni := nodeI_lt S sig
      generalize nodeS S sig = S1 at *
      generalize nodeI S sig = j at *
      have HP := Lib.hid (And.intro hp (show S1.length ≤ 62 by omega))
      have hj : j < 100 := by omega
      clear hst hSt hS hp hl hni
      go_wp2_with (go_at_call 30; refine N.out.mono ?_; rintro e w2 ⟨rfl, hst2⟩; have ST := Lib.hid hst2; clear hst2)
      go_loopw [10] (fun i wr => ∃ m : Nat, m ≤ len' ∧ i = .int .i64 m ∧ Hid (∃ S, S.length ≤ 62 + m ∧ pos S sig = some j ∧ OnceSt W p (60 + m) S wr)) (fun i _ => len' - (intOf i).toNat)
      case atStart =>
        refine ⟨0, by omega, rfl, Lib.hid ⟨S1, HP.out.2, HP.out.1, ?_⟩⟩
        obtain ⟨Foot, ⟨q1, bl, L, h0, g⟩, hf, hb⟩ := ST.out
        exact ⟨Foot, ⟨q1, bl, L, by omega, g⟩, hf, hb⟩
      case round =>
        obtain ⟨m, hm, rfl, hst⟩ := hrel
        by_cases hlt : m < len'
        · obtain ⟨b, off, s, rfl, _, hs, hc⟩ := flat_cells gcells_len RD'.out.1 RD'.out.2.1 (by omega) hlt
          obtain ⟨S, hS, hpo, hSt⟩ := hst.out
          have hc0 : wr.cell? ⟨b, off + m * 4, none⟩ = some (.int .i64 s.act) := hSt.cell (hc 0 _ rfl)
          have hc1 := hSt.cell (hc 1 _ rfl)
          have hc2 := hSt.cell (hc 2 _ rfl)
          have hc3 := hSt.cell (hc 3 _ rfl)
          have D := Lib.hid (hSt.do_ s (RD'.out.2.2 s (List.mem_of_getElem? hs)) (by omega) (by omega))
          have hS' := Lib.hid (And.intro (show (goS S s.act s.n s.c s.sig).1.length ≤ 62 + (m + 1) by have := (goS_len S s.act s.n s.c s.sig).2; omega) (goS_pos s.act s.n s.c s.sig hpo))
          clear hc hst hs hSt hS hpo
          go_wp2_with (go_at_call 24; refine D.out.mono ?_; rintro e w2 ⟨z, rfl, hst2⟩; have ST := Lib.hid hst2; clear hst2)
          go_roundw
          case rel => exact ⟨m + 1, by omega, by go_num, Lib.hid ⟨_, hS'.out.1, hS'.out.2, ST.out⟩⟩
          case measure => simp [intOf]; omega
        · obtain rfl : m = len' := by omega
          obtain ⟨S, hS, hpo, hSt⟩ := hst.out
          have N2 := Lib.hid (hSt.node sig hsig (by omega))
          rw [(nodeS_old hpo).1, (nodeS_old hpo).2] at N2
          have hjl := pos_lt hpo
          obtain ⟨Foot, hg, hf, hb⟩ := hSt
          have SG := Lib.hid (gis_sig hg (j : Int))
          have hsj : S.getD j 0 = sig := by rw [List.getD_eq_getElem?_getD, (pos_some.1 hpo).1]; rfl
          rw [if_pos ⟨by omega, by omega⟩, decide_eq_true (p := 0 ≤ (j : Int)) (by omega), decide_eq_true (p := (j : Int) < S.length) (by omega), Int.toNat_natCast, hsj] at SG
          have bj : ((j : Int) != (j : Int)) = false := by simp
          have bs : ((sig : Int) != (sig : Int)) = false := by simp
          clear hst hg hf hb hpo hjl hsj
          go_wp2_with (first
            | (go_at_call 27; refine SG.out.mono ?_; rintro e w3 ⟨rfl, rfl⟩)
            | (go_at_call 30; refine N2.out.mono ?_; rintro e w3 ⟨rfl, hst3⟩; have ST3 := Lib.hid hst3; clear hst3))
          go_loop [13] (fun i => ∃ u : Nat, u ≤ S.length ∧ i = .int .i64 u) (fun i => S.length - (intOf i).toNat)
          case atStart => exact ⟨0, by omega, rfl⟩
          case round =>
            obtain ⟨u, hu, rfl⟩ := hrel
            obtain ⟨Foot, hg, hf, hb⟩ := ST3.out
            have LE := Lib.hid (gis_len hg)
            by_cases hlt3 : u < S.length
            · have SG3 := Lib.hid (gis_sig hg (u : Int))
              rw [if_pos ⟨by omega, by omega⟩, decide_eq_true (p := 0 ≤ (u : Int)) (by omega), decide_eq_true (p := (u : Int) < S.length) (by omega), Int.toNat_natCast] at SG3
              obtain ⟨q1, bl, L, h0, g⟩ := hg
              have hsu := (uv_at hlt3).2
              have hpu := pos_of_nodup g.nodup hsu
              have F3 := Lib.hid (gr_find _ p Foot q1 S bl L g (S.getD u 0) (g.small _ (List.mem_of_getElem? hsu)))
              rw [hpu] at F3
              have bu : ((u : Int) != (u : Int)) = false := by simp
              clear hsu hpu g hf hb SG N2 N
              generalize S.getD u 0 = x at *
              generalize S.length = n at *
              go_wp2_with (first
                | (go_at_call 26; refine LE.out.mono ?_; rintro e w4 ⟨rfl, rfl⟩)
                | (go_at_call 27; refine SG3.out.mono ?_; rintro e w4 ⟨rfl, rfl⟩)
                | (go_at_call 28; refine F3.out.mono ?_; rintro e w4 ⟨rfl, rfl⟩))
              go_round
              case rel => exact ⟨u + 1, by omega, by go_num⟩
              case measure => simp [intOf]; omega
            · obtain rfl : u = S.length := by omega
              have BL := Lib.hid hb
              clear hg hf hb SG N2 N
              generalize S.length = n at *
              go_wp2_with (first
                | (go_at_call 26; refine LE.out.mono ?_; rintro e w4 ⟨rfl, rfl⟩)
                | (go_at_call 22; refine (grLive _).mono ?_; rintro e w4 ⟨rfl, hb4⟩))
              go_ret
              exact ⟨rfl, BL.out.trans (hb4.mono BL.out.size)⟩
end Go.Proofs.Ytmlbkenbgajkmaa

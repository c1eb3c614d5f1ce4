/- Contracts of frame.each and of the iterator that it makes. -/
import Derived.Test.YtfjgbnnjfapcmaaFrm3
import Derived.Test.YtfjgbnnjfapcmaaMem
import Derived.Deep.RegionHeld3
namespace Go.Proofs.Ytfjgbnnjfapcmaa
open Go.RowKit Go.Shelf
attribute [local go_sem] Oper.semAt_some
set_option maxRecDepth 100000
set_option linter.unusedVariables false
set_option linter.unusedSimpArgs false

theorem each_any (A : Option Addr) (m c : Nat) (a n : Int) (w : World) :
    Calls Try.prog 60 #[.slice A m c, .int .i64 a, .int .i64 n] w fun e w' => e = .returned (.func (.func 82) #[] #[.pointer (some ⟨w.heap.size + 2, 0, none⟩), .pointer (some ⟨w.heap.size, 0, none⟩), .pointer (some ⟨w.heap.size + 1, 0, none⟩)]) ∧
      w' = ((w.alloc (.cells #[.slice A m c] 29)).alloc (.cells #[.int .i64 a] 3)).alloc (.cells #[.int .i64 n] 3) := by
  go_enter Try.func60, Try.ntmps60
  go_wp2
  go_ret
  exact ⟨rfl, rfl⟩
/-- Where the iterator stands: rounds, place, what came, the last error. -/
abbrev ESt := Nat × Int × List Cmd × Int
/-- What it hands out: the command, its data's slice, the next place, the error. -/
abbrev EX := Cmd × Value × Int × Int
def exV (x : EX) : Array Value := #[.agg #[.int .i64 x.1.do_, .bool x.1.loc, .int .i64 x.1.idx, .int .i64 x.1.gen, .int .i64 x.1.comp, x.2.1, .int .i64 x.2.2.1, .int .i64 x.2.2.2]]
def exNext (s : ESt) (x : EX) : ESt := (s.1 + 1, x.2.2.1, s.2.2.1 ++ [x.1], x.2.2.2)
def exHx (b : List UInt8) (M nn : Nat) (s : ESt) (x : EX) (W0 W : World) : Prop := s.1 < nn ∧ ∃ a : Nat, s.2.1 = a ∧ a ≤ b.length ∧ getP b a = (x.1, x.2.2.1, x.2.2.2) ∧ (By W (fun k => W0.heap.size ≤ k) x.2.1 x.1.l ∧ M ≤ W0.heap.size) ∧ ∃ A c, x.2.1 = .slice A x.1.l.length c
def exKp (n0 pn pb p : Nat) (W W' : World) : Prop := Keep (fun k => n0 ≤ k ∧ k ≠ pn ∧ k ≠ pb ∧ k ≠ p) W W'
/-- Where the loop stands. -/
def exL (b : List UInt8) (F : Nat → Prop) (v : Value) (M pb p : Nat) (J : ESt → World → Prop) (k a : Nat) (acc : List Cmd) (wr : World) : Prop :=
  J (k, (a : Int), acc, 0) wr ∧ wr.heap[pb]? = some (.cells #[v] 29 (0, 0)) ∧ wr.heap[p]? = some (.cells #[.int .i64 (a : Nat)] 3 (0, 0)) ∧ By wr F v b ∧ M ≤ wr.heap.size
theorem cell1_of {w : World} {p : Nat} {t : TypeId} {v : Value} (h : w.heap[p]? = some (.cells #[v] t (0, 0))) : w.cell? ⟨p, 0, none⟩ = some v ∧ w.frozen? ⟨p, 0, none⟩ = false :=
  ⟨by rw [cell_of_row w p 0 _ _ _ h]; rfl, frozen_of_row w p 0 _ _ h⟩
def exPost (nn : Nat) (J : ESt → World → Prop) (Jx : World → Prop) (e : Ending) (W' : World) : Prop := (∃ v, e = .returned v) ∧ ((∃ s : ESt, (s.1 = nn ∨ s.2.2.2 ≠ 0) ∧ J s W') ∨ Jx W')
set_option maxHeartbeats 8000000 in
theorem each1_any (b : List UInt8) (n0 pn pb p M nn l : Nat) (v : Value) (W : World) (J : ESt → World → Prop) (Jx : World → Prop) (hv : By W (fun k => k < n0) v b) (hn : b.length ≤ 1000000000) (hd : n0 ≤ pn ∧ n0 ≤ pb ∧ n0 ≤ p ∧ pn ≠ pb ∧ pn ≠ p ∧ pb ≠ p) (hM : M ≤ W.heap.size)
    (h1 : W.heap[pn]? = some (.cells #[.int .i64 (nn : Nat)] 3 (0, 0))) (h2 : W.heap[pb]? = some (.cells #[v] 29 (0, 0))) (h3 : W.heap[p]? = some (.cells #[.int .i64 1] 3 (0, 0))) (hb1 : 1 ≤ b.length) (hnn : nn ≤ 1000)
    (hJ : ∀ s A B, J s A → Keep (fun r => r = p) A B → J s B) (hJx : ∀ A B, Jx A → Keep (fun r => r = p) A B → Jx B)
    (hY : ∀ s x W0 W1, J s W0 → Keep (fun _ => False) W0 W1 → exHx b M nn s x W0 W1 → YieldAt Fence.wide 3 Try.prog l (exV x) W1 fun e W' => (e = .returned (.bool true) ∧ J (exNext s x) W' ∧ exKp n0 pn pb p W1 W') ∨ (e = .returned (.bool false) ∧ Jx W'))
    (h0 : J (0, 1, [], 0) W) :
    Calls Try.prog 82 #[.func (.yield l) #[] #[], .pointer (some ⟨pn, 0, none⟩), .pointer (some ⟨pb, 0, none⟩), .pointer (some ⟨p, 0, none⟩)] W (exPost nn J Jx) := by
  obtain ⟨A, c, rfl, -⟩ := id hv
  have HY := Lib.hid hY
  have HJ := Lib.hid hJ
  have HJX := Lib.hid hJx
  have GT := Lib.hid (fun W1 (a : Nat) (ha : a ≤ b.length) (hv : By W1 (fun k => k < n0) (.slice A b.length c) b) => cget_any b _ _ (a : Int) W1 hv (by omega) (by omega) (by omega))
  have HD := Lib.hid hd
  have NX := Lib.hid (show ∀ a : Nat, (getP b (a : Int)).2.2 = 0 → ∃ k : Nat, (getP b (a : Int)).2.1 = k ∧ a ≤ k ∧ k ≤ b.length from fun a h => by rw [getP_refP] at h ⊢; exact readN_next h)
  have L0 := Lib.hid (show exL b (fun k => k < n0) (.slice A b.length c) M pb p J 0 1 [] W from ⟨h0, h2, h3, hv, hM⟩)
  have HP := Lib.hid (show ∀ a : Nat, a ≤ b.length → ∃ y nx er, getP b (a : Int) = (y, nx, er) from fun a _ => ⟨_, _, _, rfl⟩)
  have hnn2 : (nn : Int) ≤ 1000 := by omega
  obtain ⟨cn, -⟩ := cell1_of h1
  clear hv hY hJ hJx hd h0 h1 h2 h3 hM
  generalize hm : b.length = m at *
  have HB := Lib.hid hm
  clear hm
  go_enter Try.func82, Try.ntmps82
  go_wp2
  go_loopw [9] (fun i wr => ∃ (k a : Nat) (acc : List Cmd), i = .int .i64 k ∧ k ≤ nn ∧ a ≤ m ∧ Hid (exL b (fun k => k < n0) (.slice A m c) M pb p J k a acc wr)) (fun i _ => nn - (intOf i).toNat)
  case atStart => exact ⟨0, 1, [], rfl, Nat.zero_le _, hb1, L0⟩
  case round =>
    obtain ⟨k, a, acc, rfl, hk, ham, ht⟩ := hrel
    clear cn
    by_cases hlt : k < nn
    · have hi : (k : Int) < (nn : Int) := by omega
      obtain ⟨cb, -⟩ := cell1_of ht.out.2.1
      obtain ⟨ca, -⟩ := cell1_of ht.out.2.2.1
      have K1 := GT.out wr a ham ht.out.2.2.2.1
      obtain ⟨y, nx, er, hg⟩ := HP.out a ham
      have HG := Lib.hid hg
      have NX1 := NX.out a
      rw [hg] at K1 NX1
      have HN := Lib.hid NX1
      unfold GetPost cmdV at K1
      clear hg NX1
      go_wp2_with fail
      with_reducible refine K1.mono ?_
      rintro e w1 ⟨A1, n1, c1, rfl, hy, hb⟩
      have en : n1 = y.l.length := by obtain ⟨_, _, e2, _⟩ := id hy; injection e2
      subst en
      have KB := Lib.hid (Keep.of_below' hb)
      have HYB := Lib.hid hy
      clear K1 hb hy cb ca
      go_upto_region 3 with fail
      refine wp_world (S := fun Z => Z.heap[w1.heap.size]? = some (.cells #[.int .i64 y.do_, .bool y.loc, .int .i64 y.idx, .int .i64 y.gen, .int .i64 y.comp, .slice A1 y.l.length c1] 83 (0, 0)) ∧ Keep (fun _ => False) w1 Z) ⟨heap_alloc_new w1 _, (Keep.refl _ w1).alloc _⟩ ?_
      intro Z hZ
      have HZ := Lib.hid hZ
      clear hZ
      have KZ := Lib.hid (KB.out.trans HZ.out.2 (fun _ _ h => h))
      have hsz := KZ.out.size
      obtain ⟨fn, tmps, assign, body, hyy, hR⟩ := HY.out (k, (a : Int), acc, 0) (y, .slice A1 y.l.length c1, nx, er) wr Z ht.out.1 KZ.out
        ⟨hlt, a, rfl, by rw [HB.out]; exact ham, HG.out, ⟨HYB.out.keep HZ.out.2 (fun _ _ _ h => h), ht.out.2.2.2.2⟩, A1, c1, rfl⟩
      dsimp only [exV] at hyy
      have P2 := Lib.hid ((KZ.out.block pb (Array.getElem?_eq_some_iff.1 ht.out.2.1).1 (fun h => h)).trans ht.out.2.1)
      have P3 := Lib.hid ((KZ.out.block p (Array.getElem?_eq_some_iff.1 ht.out.2.2.1).1 (fun h => h)).trans ht.out.2.2.1)
      have BZ := Lib.hid (ht.out.2.2.2.1.keep KZ.out (fun _ _ _ h => h))
      have hMz : M ≤ Z.heap.size := by have := ht.out.2.2.2.2; omega
      obtain ⟨x0, x1, x2, x3, x4, x5, xf⟩ := cells6 HZ.out.1
      clear ht GT KB HYB hsz
      refine (wpIn_wide (n := 4)).1 ?_
      gi_wp2
      refine hR.mono ?_
      rintro e W3 (⟨rfl, hJ3, hk3⟩ | ⟨rfl, hJx3⟩)
      · have Q2 := Lib.hid ((hk3.block pb (Array.getElem?_eq_some_iff.1 P2.out).1 (fun h => h.2.2.1 rfl)).trans P2.out)
        have Q3 := Lib.hid ((hk3.block p (Array.getElem?_eq_some_iff.1 P3.out).1 (fun h => h.2.2.2 rfl)).trans P3.out)
        have B3 := Lib.hid (BZ.out.keep hk3 (fun b' _ h h2 => by omega))
        have hM3 : M ≤ W3.heap.size := Nat.le_trans hMz hk3.size
        have J3 := Lib.hid hJ3
        clear hk3 hJ3 hR hyy x0 x1 x2 x3 x4 x5 xf P2 P3 BZ
        by_cases he : er = 0
        · have e2 : (er != 0) = false := by simp [he]
          obtain ⟨j, hj, hj1, hj2⟩ := HN.out he
          have hj : nx = (j : Int) := hj
          subst hj
          obtain ⟨ca, cf⟩ := cell1_of Q3.out
          subst he
          gi_wp2
          go_wp2
          go_roundw
          case rel =>
            have hk4 : Keep (fun r => r = p) W3 (W3.setCell ⟨p, 0, none⟩ (.int .i64 (j : Int))) := Keep.setCell (S := fun r => r = p) (p := ⟨p, 0, none⟩) (Keep.refl _ W3) (.inr rfl) _
            refine ⟨k + 1, j, acc ++ [y], by first | rfl | go_num, by omega, hj2, Lib.hid ⟨HJ.out _ _ _ J3.out hk4, ?_, ?_, B3.out.keep hk4 (fun b' _ h h2 => by have := HD.out; omega), Nat.le_trans hM3 hk4.size⟩⟩
            · exact (hk4.block pb (Array.getElem?_eq_some_iff.1 Q2.out).1 (fun h => by have := HD.out; omega)).trans Q2.out
            · rw [heap_setCell_same W3 p 0 _ _ _ Q3.out]; rfl
          case measure => simp [intOf]; omega
        · have e2 : (er != 0) = true := by simp [he]
          have HE := Lib.hid he
          clear he
          gi_wp2
          go_wp2
          go_end0
          exact ⟨⟨_, rfl⟩, .inl ⟨_, .inr HE.out, J3.out⟩⟩
      · have J3 := Lib.hid hJx3
        clear hJx3 hR hyy
        gi_wp2
        go_wp2
        go_end0
        exact ⟨⟨_, rfl⟩, .inr J3.out⟩
    · have hi : ¬ (k : Int) < (nn : Int) := by omega
      have hkn : k = nn := by omega
      have HK := Lib.hid hkn
      clear hkn
      go_wp2
      go_end0
      exact ⟨⟨_, rfl⟩, .inl ⟨_, .inl HK.out, ht.out.1⟩⟩
end Go.Proofs.Ytfjgbnnjfapcmaa
namespace Go.Proofs.Ytfjgbnnjfapcmaa
open Go.RowKit Go.Shelf
attribute [local go_sem] Oper.semAt_some
set_option maxRecDepth 100000
set_option linter.unusedVariables false
set_option linter.unusedSimpArgs false

/-- Two results in boxes. -/
theorem results_fget {fn : Func} {p q : Tmp} (h : fn.results = #[.cell p 48, .cell q 68]) (tmps : Array Value) (w : World) (gp gq : Nat) (A : Option Addr) (n c : Nat) (z : Int)
    (hp : tmps.getD p undef = .pointer (some ⟨gp, 0, none⟩)) (hq : tmps.getD q undef = .pointer (some ⟨gq, 0, none⟩)) (c1 : w.cell? ⟨gp, 0, none⟩ = some (.slice A n c)) (c2 : w.cell? ⟨gq, 0, none⟩ = some (.int .i64 z)) :
    (results fn tmps).run Try.prog w = .ok (.tuple #[.slice A n c, .int .i64 z]) w := by
  have hp' : tmps[p]?.getD undef = .pointer (some ⟨gp, 0, none⟩) := by simpa using hp
  have hq' : tmps[q]?.getD undef = .pointer (some ⟨gq, 0, none⟩) := by simpa using hq
  simp [results, h, hp', hq', asAddr, go_sem, c1, c2]
/-- What stands ahead of the sum, and the sum, in memory. -/
structure GIn (w : World) (F : Nat → Prop) (b : List UInt8) (gb go c m : Nat) : Prop where
  len : b.length = m + 4
  inn : By w F (.slice (some ⟨gb, go, none⟩) m c) (inB b)
  il : (inB b).length = m
  c0 : 1 ≤ m → w.cell? ⟨gb, go, none⟩ = some (.int .u8 (byteZ (inB b) 0))
  cm : m ≤ c
theorem gin_of {w : World} {F : Nat → Prop} {A : Option Addr} {n c : Nat} {b : List UInt8} (hv : By w F (.slice A n c) b) (h5 : 5 ≤ b.length) : ∃ gb go m, A = some ⟨gb, go, none⟩ ∧ n = m + 4 ∧ 1 ≤ m ∧ GIn w F b gb go c m := by
  obtain ⟨A', c', e, hbc, hcm, hnil, hrd⟩ := id hv
  injection e with e1 e2 e3
  subst e1 e2 e3
  obtain ⟨gb, go, rfl, -, q1⟩ := hrd.at_ (show 0 < b.length * 1 by omega)
  obtain ⟨m, hm⟩ : ∃ m, b.length = m + 4 := ⟨b.length - 4, by omega⟩
  have il : (inB b).length = m := by unfold inB; rw [List.length_take]; omega
  have hi : By w F (.slice (some ⟨gb, go, none⟩) m c) (inB b) := by
    have := hv.piece (A' := some ⟨gb, go, none⟩) (lo := 0) (m := m) (c' := c) (by omega) (fun _ x hx => by rw [hx]; rfl) (by omega) (by omega) (fun hh => by cases hh)
    rw [List.drop_zero] at this
    unfold inB
    rwa [show b.length - 4 = m by omega]
  refine ⟨gb, go, m, rfl, hm, by omega, hm, hi, il, fun h1 => ?_, by omega⟩
  have b0 := bv_at (l := inB b) (k := 0) (by omega)
  obtain ⟨A', c', e, -, -, -, hrd2⟩ := hi
  injection e with e1 e2 e3
  obtain ⟨gb', go', e4, -, q2⟩ := hrd2.at_ (show 0 < (inB b).length * 1 by omega)
  rw [← e1] at e4
  injection e4 with e4
  injection e4 with e5 e6
  subst e5 e6
  have := q2 0 _ b0.1
  rw [Nat.add_zero] at this
  exact this
/-- The sum that stands there. -/
theorem sum_iff {b : List UInt8} {m : Nat} (hm : b.length = m + 4) : (getZ b (m : Int) 4 = (crcOf (inB b) : Nat)) ↔ leB (word (crcOf (inB b) : Nat)) 4 = b.drop (b.length - 4) := by
  have hp : b.drop (b.length - 4) = pieceOf b m 4 := by
    unfold pieceOf
    rw [hm, show m + 4 - 4 = m by omega, List.take_of_length_le (by rw [List.length_drop]; omega)]
  have hw : wideN 4 = 4 := rfl
  rw [hp]
  constructor
  · intro h
    rw [← h]
    exact wire hw (by omega)
  · intro h
    have hl := crcOf_lt (inB b)
    unfold getZ
    rw [if_pos (getOk_yes (by rw [hw]; omega)), Int.toNat_natCast, hw, ← h, getN_leB]
    unfold wrap64 word
    rw [show (256 : Nat) ^ 4 = 4294967296 from by decide]
    omega
set_option maxHeartbeats 4000000 in
theorem fget_short (b : List UInt8) (v : Value) (F : Nat → Prop) (w : World) (hv : By w F v b) (h5 : b.length < 5) :
    Calls Try.prog 34 #[v] w (GfPost w (getFr b)) := by
  rw [show getFr b = ([], 12) by unfold getFr; rw [if_pos h5]]
  obtain ⟨A, c, rfl, -⟩ := hv
  have h1 : (b.length : Int) < 5 := by omega
  generalize b.length = n at *
  go_enter Try.func34, Try.ntmps34
  go_wp2
  refine bodyPost_ret (results_fget rfl _ _ w.heap.size (w.heap.size + 1) none 0 0 12 rfl rfl (by go_simp) (by go_simp)) rfl ?_
  exact ⟨none, 0, rfl, NS.nil _ _ _, by exact (by repeat first | exact Below.refl _ _ | refine Below.setCell ?_ (by first | omega | (simp; done) | (simp; omega)) _ | refine Below.alloc ?_ (by first | omega | (simp; done) | (simp; omega)) _ | refine Below.drew ?_ | refine below_drewN ?_ _ | assumption)⟩
set_option maxHeartbeats 8000000 in
theorem fget_sum (b : List UInt8) (v : Value) (F : Nat → Prop) (w : World) (hv : By w F v b) (h5 : 5 ≤ b.length) (hn : b.length ≤ 1000000000) (hs : getZ b ((b.length : Int) - 4) 4 ≠ (crcOf (inB b) : Nat)) :
    Calls Try.prog 34 #[v] w (GfPost w (getFr b)) := by
  rw [show getFr b = ([], 11) from ?hg]
  case hg =>
    obtain ⟨A, c, rfl, -⟩ := id hv
    obtain ⟨gb, go, m, rfl, hnm, hm1, GI⟩ := gin_of hv h5
    have SI := sum_iff GI.len
    rw [show ((b.length : Int) - 4) = (m : Int) by omega] at *
    unfold getFr
    rw [if_neg (by omega)]
    rw [if_neg (fun h => hs (SI.2 h))]
  obtain ⟨A, c, rfl, -⟩ := id hv
  obtain ⟨gb, go, m, rfl, hnm, hm1, GI⟩ := gin_of hv h5
  rw [show ((b.length : Int) - 4) = (m : Int) by omega] at *
  have GT := Lib.hid (fun W (hk : Keep (fun _ => False) w W) => get_any b _ F (m : Int) 4 W (hv.keep hk (fun _ _ _ h => h)) (by omega) (by omega))
  have CO := Lib.hid (fun W V (hk : Keep (fun _ => False) w W) (hv2 : Keep (fun _ => False) (W.alloc (.cells #[.slice (some ⟨gb, go, none⟩) m c] 29)) V) => cof [inB b] _ _ V ((bys_lit1 29 (GI.inn.keep hk (fun _ _ _ h => h))).keep hv2 (fun _ _ _ h => h)))
  rw [show ([inB b] : List (List UInt8)).flatten = inB b by simp] at CO
  have hcl := crcOf_lt (inB b)
  have hbz := byteZ_bd (inB b) 0
  have cb0 := GI.c0 hm1
  have hcm := GI.cm
  have em : (b.length : Int) - 4 = (m : Int) := by omega
  have m0 : (0 : Int) ≤ (m : Int) := by omega
  have m1 : (0 : Int) < (m : Int) := by omega
  have m2 : (m : Int) ≤ (b.length : Int) := by omega
  have m3 : (m : Int) ≤ (c : Int) := by omega
  have h1 : ¬ (b.length : Int) < 5 := by omega
  generalize crcOf (inB b) = cz at *
  generalize getZ b (m : Int) 4 = sz at *
  generalize getOk b (m : Int) 4 = ok at *
  have pw : IntKind.i64.wrap (cz : Int) = cz := IntWalk.i64_in _ (by omega)
  have e1 : (sz != (cz : Int)) = true := by rw [bne_iff_ne]; exact hs
  clear hs hv GI
  generalize b.length = n at *
  clear hnm
  go_enter Try.func34, Try.ntmps34
  go_wp2_with fail
  with_reducible refine (GT.out _ (by exact (by repeat first | assumption | exact Keep.refl _ _ | refine Keep.alloc ?_ _ | refine Keep.drew ?_ | refine Keep.drewN ?_ _ | refine Keep.setCell ?_ (.inl (by first | omega | (simp; done) | (simp; omega))) _))).mono ?_
  rintro e w1 ⟨rfl, rfl⟩
  go_upto_region 5 with fail
  refine wp_world (S := fun Z => Z.heap[w.heap.size]? = some (.cells #[.slice none 0 0] 48 (0, 0)) ∧ Z.heap[w.heap.size + 1]? = some (.cells #[.int .i64 0] 68 (0, 0)) ∧ Keep (fun _ => False) w Z ∧ w.heap.size + 2 ≤ Z.heap.size) ⟨?d0, ?d1, ?d2, ?d3⟩ ?_
  case d0 => ((try simp only [heap_drew']); (try simp only [World.heap_drewN]); repeat (first | (refine heap_alloc_at _ _ _ ?_; first | rfl | (simp; done)) | (refine (Below.heap_alloc _ _ _ ?_).trans ?_; (focus first | (simp; done) | (simp; omega)))))
  case d1 => ((try simp only [heap_drew']); (try simp only [World.heap_drewN]); repeat (first | (refine heap_alloc_at _ _ _ ?_; first | rfl | (simp; done)) | (refine (Below.heap_alloc _ _ _ ?_).trans ?_; (focus first | (simp; done) | (simp; omega)))))
  case d2 => exact (by repeat first | assumption | exact Keep.refl _ _ | refine Keep.alloc ?_ _ | refine Keep.drew ?_ | refine Keep.drewN ?_ _ | refine Keep.setCell ?_ (.inl (by first | omega | (simp; done) | (simp; omega))) _)
  case d3 => simp
  intro Z hZ
  have HZ := Lib.hid hZ
  clear hZ
  obtain ⟨r0, rf0⟩ := cell1_of HZ.out.1
  obtain ⟨r1, rf1⟩ := cell1_of HZ.out.2.1
  have cz0 := HZ.out.2.2.1.cell (fun h => h) cb0
  have hzs := HZ.out.2.2.2
  go_wp2_with fail
  with_reducible refine (CO.out Z _ HZ.out.2.2.1 (by exact Keep.refl _ _)).mono ?_
  rintro e w1 ⟨rfl, rfl⟩
  have r2 := fun o => (((Keep.refl (fun _ => False) Z).alloc o).block w.heap.size (by omega) (fun h => h)).trans HZ.out.1
  have r3 := fun o => (((Keep.refl (fun _ => False) Z).alloc o).block (w.heap.size + 1) (by omega) (fun h => h)).trans HZ.out.2.1
  obtain ⟨r4, r5⟩ := cell1_of (r2 (.cells #[.slice (some ⟨gb, go, none⟩) m c] 29))
  obtain ⟨r6, r7⟩ := cell1_of (r3 (.cells #[.slice (some ⟨gb, go, none⟩) m c] 29))
  have cz1 := ((Keep.refl (fun _ => False) Z).alloc (.cells #[.slice (some ⟨gb, go, none⟩) m c] 29)).cell (fun h => h) cz0
  clear r0 r1 rf0 rf1 r2 r3 cz0
  clear GT CO
  go_wp2
  refine bodyPost_ret (results_fget rfl _ _ w.heap.size (w.heap.size + 1) none 0 0 11 rfl rfl (by go_simp) (by go_simp)) rfl ?_
  exact ⟨none, 0, rfl, NS.nil _ _ _, (Keep.trans HZ.out.2.2.1 (T := fun k => w.heap.size ≤ k) (by exact Keep.setCell (Keep.setCell ((Keep.refl _ Z).alloc _) (.inr (by exact Nat.le_refl _)) _) (.inr (by exact Nat.le_succ _)) _) (fun _ _ _ => by omega)).to_below'⟩
set_option maxHeartbeats 8000000 in
theorem fget_many (b : List UInt8) (v : Value) (F : Nat → Prop) (w : World) (hv : By w F v b) (h5 : 5 ≤ b.length) (hn : b.length ≤ 1000000000) (hs : getZ b ((b.length : Int) - 4) 4 = (crcOf (inB b) : Nat)) (h64 : 64 < byteZ (inB b) 0) :
    Calls Try.prog 34 #[v] w (GfPost w (getFr b)) := by
  rw [show getFr b = ([], 13) from ?hg]
  case hg =>
    obtain ⟨A, c, rfl, -⟩ := id hv
    obtain ⟨gb, go, m, rfl, hnm, hm1, GI⟩ := gin_of hv h5
    have SI := sum_iff GI.len
    rw [show ((b.length : Int) - 4) = (m : Int) by omega] at *
    unfold getFr
    rw [if_neg (by omega)]
    rw [if_pos (SI.1 hs), if_pos h64]
  obtain ⟨A, c, rfl, -⟩ := id hv
  obtain ⟨gb, go, m, rfl, hnm, hm1, GI⟩ := gin_of hv h5
  rw [show ((b.length : Int) - 4) = (m : Int) by omega] at *
  have GT := Lib.hid (fun W (hk : Keep (fun _ => False) w W) => get_any b _ F (m : Int) 4 W (hv.keep hk (fun _ _ _ h => h)) (by omega) (by omega))
  have CO := Lib.hid (fun W V (hk : Keep (fun _ => False) w W) (hv2 : Keep (fun _ => False) (W.alloc (.cells #[.slice (some ⟨gb, go, none⟩) m c] 29)) V) => cof [inB b] _ _ V ((bys_lit1 29 (GI.inn.keep hk (fun _ _ _ h => h))).keep hv2 (fun _ _ _ h => h)))
  rw [show ([inB b] : List (List UInt8)).flatten = inB b by simp] at CO
  have hcl := crcOf_lt (inB b)
  have hbz := byteZ_bd (inB b) 0
  have cb0 := GI.c0 hm1
  have hcm := GI.cm
  have em : (b.length : Int) - 4 = (m : Int) := by omega
  have m0 : (0 : Int) ≤ (m : Int) := by omega
  have m1 : (0 : Int) < (m : Int) := by omega
  have m2 : (m : Int) ≤ (b.length : Int) := by omega
  have m3 : (m : Int) ≤ (c : Int) := by omega
  have h1 : ¬ (b.length : Int) < 5 := by omega
  generalize crcOf (inB b) = cz at *
  generalize getZ b (m : Int) 4 = sz at *
  generalize getOk b (m : Int) 4 = ok at *
  have pw : IntKind.i64.wrap (cz : Int) = cz := IntWalk.i64_in _ (by omega)
  have e1 : (sz != (cz : Int)) = false := by rw [hs]; simp
  generalize byteZ (inB b) 0 = z at *
  clear hs hv GI
  generalize b.length = n at *
  clear hnm
  go_enter Try.func34, Try.ntmps34
  go_wp2_with fail
  with_reducible refine (GT.out _ (by exact (by repeat first | assumption | exact Keep.refl _ _ | refine Keep.alloc ?_ _ | refine Keep.drew ?_ | refine Keep.drewN ?_ _ | refine Keep.setCell ?_ (.inl (by first | omega | (simp; done) | (simp; omega))) _))).mono ?_
  rintro e w1 ⟨rfl, rfl⟩
  go_upto_region 5 with fail
  refine wp_world (S := fun Z => Z.heap[w.heap.size]? = some (.cells #[.slice none 0 0] 48 (0, 0)) ∧ Z.heap[w.heap.size + 1]? = some (.cells #[.int .i64 0] 68 (0, 0)) ∧ Keep (fun _ => False) w Z ∧ w.heap.size + 2 ≤ Z.heap.size) ⟨?d0, ?d1, ?d2, ?d3⟩ ?_
  case d0 => ((try simp only [heap_drew']); (try simp only [World.heap_drewN]); repeat (first | (refine heap_alloc_at _ _ _ ?_; first | rfl | (simp; done)) | (refine (Below.heap_alloc _ _ _ ?_).trans ?_; (focus first | (simp; done) | (simp; omega)))))
  case d1 => ((try simp only [heap_drew']); (try simp only [World.heap_drewN]); repeat (first | (refine heap_alloc_at _ _ _ ?_; first | rfl | (simp; done)) | (refine (Below.heap_alloc _ _ _ ?_).trans ?_; (focus first | (simp; done) | (simp; omega)))))
  case d2 => exact (by repeat first | assumption | exact Keep.refl _ _ | refine Keep.alloc ?_ _ | refine Keep.drew ?_ | refine Keep.drewN ?_ _ | refine Keep.setCell ?_ (.inl (by first | omega | (simp; done) | (simp; omega))) _)
  case d3 => simp
  intro Z hZ
  have HZ := Lib.hid hZ
  clear hZ
  obtain ⟨r0, rf0⟩ := cell1_of HZ.out.1
  obtain ⟨r1, rf1⟩ := cell1_of HZ.out.2.1
  have cz0 := HZ.out.2.2.1.cell (fun h => h) cb0
  have hzs := HZ.out.2.2.2
  go_wp2_with fail
  with_reducible refine (CO.out Z _ HZ.out.2.2.1 (by exact Keep.refl _ _)).mono ?_
  rintro e w1 ⟨rfl, rfl⟩
  have r2 := fun o => (((Keep.refl (fun _ => False) Z).alloc o).block w.heap.size (by omega) (fun h => h)).trans HZ.out.1
  have r3 := fun o => (((Keep.refl (fun _ => False) Z).alloc o).block (w.heap.size + 1) (by omega) (fun h => h)).trans HZ.out.2.1
  obtain ⟨r4, r5⟩ := cell1_of (r2 (.cells #[.slice (some ⟨gb, go, none⟩) m c] 29))
  obtain ⟨r6, r7⟩ := cell1_of (r3 (.cells #[.slice (some ⟨gb, go, none⟩) m c] 29))
  have cz1 := ((Keep.refl (fun _ => False) Z).alloc (.cells #[.slice (some ⟨gb, go, none⟩) m c] 29)).cell (fun h => h) cz0
  clear r0 r1 rf0 rf1 r2 r3 cz0
  clear GT CO
  go_wp2
  refine bodyPost_ret (results_fget rfl _ _ w.heap.size (w.heap.size + 1) none 0 0 13 rfl rfl (by go_simp) (by go_simp)) rfl ?_
  exact ⟨none, 0, rfl, NS.nil _ _ _, (Keep.trans HZ.out.2.2.1 (T := fun k => w.heap.size ≤ k) (by exact Keep.setCell (Keep.setCell ((Keep.refl _ Z).alloc _) (.inr (by exact Nat.le_refl _)) _) (.inr (by exact Nat.le_succ _)) _) (fun _ _ _ => by omega)).to_below'⟩
end Go.Proofs.Ytfjgbnnjfapcmaa
namespace Go.Proofs.Ytfjgbnnjfapcmaa
open Go.RowKit Go.Shelf
attribute [local go_sem] Oper.semAt_some
set_option maxRecDepth 100000
set_option linter.unusedVariables false
set_option linter.unusedSimpArgs false

/-- What the loop of frame.Get keeps. -/
def FI (w : World) (b : List UInt8) (L M nn : Nat) (r : List Cmd × Int) (s : ESt) (W : World) : Prop :=
  s.2.2.2 = 0 ∧ r = endF b (readN b (nn - s.1) s.2.1 s.2.2.1) ∧ s.2.2.1.length = s.1 ∧
    (∃ A c, W.heap[L + 1]? = some (.cells #[.slice A s.1 c] 48 (0, 0)) ∧ NBX cmN (fun k => M ≤ k) M 83 W (.slice A s.1 c) s.2.2.1) ∧
    W.heap[L + 2]? = some (.cells #[.int .i64 s.2.1] 3 (0, 0)) ∧ W.heap[w.heap.size]? = some (.cells #[.slice none 0 0] 48 (0, 0)) ∧ W.heap[w.heap.size + 1]? = some (.cells #[.int .i64 0] 68 (0, 0)) ∧ Keep (fun _ => False) w W
/-- Where it has returned out of the loop. -/
def FX (w : World) (r : List Cmd × Int) (W : World) : Prop :=
  ∃ z, r = ([], z) ∧ W.heap[w.heap.size]? = some (.cells #[.slice none 0 0] 48 (0, 0)) ∧ W.heap[w.heap.size + 1]? = some (.cells #[.int .i64 z] 68 (0, 0)) ∧ Keep (fun _ => False) w W
section
variable {w A B : World} {b : List UInt8} {L M nn : Nat} {r : List Cmd × Int} {s : ESt} {S : Nat → Prop}
theorem keep_at {k : Nat} {o : Obj} (hk : Keep S A B) (h : A.heap[k]? = some o) (hs : ¬ S k) : B.heap[k]? = some o := (hk.block k (Array.getElem?_eq_some_iff.1 h).1 hs).trans h
theorem FI.start (h0 : r = endF b (readN b nn 1 [])) (h1 : A.heap[w.heap.size]? = some (.cells #[.slice none 0 0] 48 (0, 0))) (h2 : A.heap[w.heap.size + 1]? = some (.cells #[.int .i64 0] 68 (0, 0)))
    (h3 : A.heap[L + 1]? = some (.cells #[.slice none 0 0] 48 (0, 0))) (h4 : A.heap[L + 2]? = some (.cells #[.int .i64 1] 3 (0, 0))) (hk : Keep (fun _ => False) w A) : FI w b L M nn r (0, 1, [], 0) A :=
  ⟨rfl, h0, rfl, ⟨none, 0, h3, NBX.nil _ _ _ _ _⟩, h4, h1, h2, hk⟩
theorem FI.keep (h : FI w b L M nn r s A) (hk : Keep S A B) (hs : ∀ k, (k ≤ L + 2 ∨ M ≤ k) → ¬ S k) (hL : w.heap.size + 2 ≤ L) : FI w b L M nn r s B := by
  obtain ⟨h1, h2, h3, ⟨A1, c1, h4, h5⟩, h6, h7, h8, h9⟩ := h
  exact ⟨h1, h2, h3, ⟨A1, c1, keep_at hk h4 (hs _ (by omega)), h5.keep hk (fun k e => hs k (.inr (h5.own_lt e).1)) (fun k _ h _ => hs k (.inr h))⟩, keep_at hk h6 (hs _ (by omega)), keep_at hk h7 (hs _ (by omega)), keep_at hk h8 (hs _ (by omega)), h9.trans hk (fun k hk2 h => hs k (by omega) h)⟩
theorem FX.keep (h : FX w r A) (hk : Keep S A B) (hs : ∀ k, k ≤ w.heap.size + 1 → ¬ S k) : FX w r B := by
  obtain ⟨z, h1, h2, h3, h4⟩ := h
  exact ⟨z, h1, keep_at hk h2 (hs _ (by omega)), keep_at hk h3 (hs _ (by omega)), h4.trans hk (fun k hk2 h => hs k (by omega) h)⟩
end
theorem ex_step {b : List UInt8} {M nn : Nat} {s : ESt} {x : EX} {W0 W : World} (hx : exHx b M nn s x W0 W) {f : Nat} (hf : nn - s.1 = f + 1) (acc : List Cmd) :
    readN b (f + 1) s.2.1 acc = if x.2.2.2 ≠ 0 then ([], 0, x.2.2.2) else readN b f x.2.2.1 (acc ++ [x.1]) := by
  obtain ⟨_, a, ha, _, hg, _⟩ := hx
  rw [readN, ha, ← getP_refP, hg]
theorem fin_box {w W : World} {D : Nat} {a b : Value} (u v : Value) (c0 : W.heap[w.heap.size]? = some (.cells #[a] 48 (0, 0))) (c1 : W.heap[w.heap.size + 1]? = some (.cells #[b] 68 (0, 0))) (hD : w.heap.size + 1 < D) :
    (((W.setCell ⟨w.heap.size, 0, none⟩ u).setCell ⟨w.heap.size + 1, 0, none⟩ v).putObj D (.deferred none)).cell? ⟨w.heap.size, 0, none⟩ = some u ∧ (((W.setCell ⟨w.heap.size, 0, none⟩ u).setCell ⟨w.heap.size + 1, 0, none⟩ v).putObj D (.deferred none)).cell? ⟨w.heap.size + 1, 0, none⟩ = some v ∧
      Keep (fun x => x = w.heap.size ∨ x = w.heap.size + 1 ∨ x = D) W (((W.setCell ⟨w.heap.size, 0, none⟩ u).setCell ⟨w.heap.size + 1, 0, none⟩ v).putObj D (.deferred none)) := by
  have kp : ∀ X : World, Keep (fun x => x = D) X (X.putObj D (.deferred none)) := fun X => (Keep.refl (fun x => x = D) X).putObj (l := D) (.inr rfl) (.deferred none)
  have b0 : ((W.setCell ⟨w.heap.size, 0, none⟩ u).setCell ⟨w.heap.size + 1, 0, none⟩ v).heap[w.heap.size]? = some (.cells #[u] 48 (0, 0)) := by
    rw [Below.heap_setCell _ ⟨w.heap.size + 1, 0, none⟩ _ w.heap.size (by show w.heap.size ≠ w.heap.size + 1; omega), heap_setCell_same W w.heap.size 0 _ _ _ c0]
    rfl
  have b1 : ((W.setCell ⟨w.heap.size, 0, none⟩ u).setCell ⟨w.heap.size + 1, 0, none⟩ v).heap[w.heap.size + 1]? = some (.cells #[v] 68 (0, 0)) := by
    rw [heap_setCell_same _ (w.heap.size + 1) 0 _ _ _ ((Below.heap_setCell _ ⟨w.heap.size, 0, none⟩ _ (w.heap.size + 1) (by show w.heap.size + 1 ≠ w.heap.size; omega)).trans c1)]
    rfl
  exact ⟨(cell1_of (keep_at (kp _) b0 (by omega))).1, (cell1_of (keep_at (kp _) b1 (by omega))).1,
    Keep.trans (S := fun x => x = w.heap.size ∨ x = w.heap.size + 1 ∨ x = D) (Keep.setCell (Keep.setCell (Keep.refl _ W) (.inr (.inl rfl)) _) (.inr (.inr (.inl rfl))) _) (kp _) (fun x _ h => .inr (.inr h))⟩
set_option maxHeartbeats 8000000 in
theorem fget_rest (b : List UInt8) (v : Value) (F : Nat → Prop) (w : World) (hv : By w F v b) (h5 : 5 ≤ b.length) (hn : b.length ≤ 1000000000) (hs : getZ b ((b.length : Int) - 4) 4 = (crcOf (inB b) : Nat)) (h64 : ¬ 64 < byteZ (inB b) 0) :
    Calls Try.prog 34 #[v] w (GfPost w (getFr b)) := by
  rw [show getFr b = endF (inB b) (readN (inB b) (byteZ (inB b) 0).toNat 1 []) from ?hg]
  case hg =>
    obtain ⟨A, c, rfl, -⟩ := id hv
    obtain ⟨gb, go, m, rfl, hnm, hm1, GI⟩ := gin_of hv h5
    have SI := sum_iff GI.len
    rw [show ((b.length : Int) - 4) = (m : Int) by omega] at *
    unfold getFr
    rw [if_neg (by omega)]
    rw [if_pos (SI.1 hs), if_neg h64]
  obtain ⟨A, c, rfl, -⟩ := id hv
  obtain ⟨gb, go, m, rfl, hnm, hm1, GI⟩ := gin_of hv h5
  rw [show ((b.length : Int) - 4) = (m : Int) by omega] at *
  have GT := Lib.hid (fun W (hk : Keep (fun _ => False) w W) => get_any b _ F (m : Int) 4 W (hv.keep hk (fun _ _ _ h => h)) (by omega) (by omega))
  have CO := Lib.hid (fun W V (hk : Keep (fun _ => False) w W) (hv2 : Keep (fun _ => False) (W.alloc (.cells #[.slice (some ⟨gb, go, none⟩) m c] 29)) V) => cof [inB b] _ _ V ((bys_lit1 29 (GI.inn.keep hk (fun _ _ _ h => h))).keep hv2 (fun _ _ _ h => h)))
  rw [show ([inB b] : List (List UInt8)).flatten = inB b by simp] at CO
  have hcl := crcOf_lt (inB b)
  have hbz := byteZ_bd (inB b) 0
  have cb0 := GI.c0 hm1
  have hcm := GI.cm
  have em : (b.length : Int) - 4 = (m : Int) := by omega
  have m0 : (0 : Int) ≤ (m : Int) := by omega
  have m1 : (0 : Int) < (m : Int) := by omega
  have m2 : (m : Int) ≤ (b.length : Int) := by omega
  have m3 : (m : Int) ≤ (c : Int) := by omega
  have h1 : ¬ (b.length : Int) < 5 := by omega
  generalize crcOf (inB b) = cz at *
  generalize getZ b (m : Int) 4 = sz at *
  generalize getOk b (m : Int) 4 = ok at *
  have pw : IntKind.i64.wrap (cz : Int) = cz := IntWalk.i64_in _ (by omega)
  have e1 : (sz != (cz : Int)) = false := by rw [hs]; simp
  obtain ⟨nn, hnn⟩ : ∃ nn : Nat, byteZ (inB b) 0 = nn := ⟨(byteZ (inB b) 0).toNat, by omega⟩
  rw [hnn] at cb0 h64 hbz
  rw [hnn, Int.toNat_natCast]
  obtain ⟨r, hr⟩ : ∃ r, r = endF (inB b) (readN (inB b) nn 1 []) := ⟨_, rfl⟩
  rw [← hr]
  have RE := Lib.hid hr
  have EF := Lib.hid (show ∀ x, endF (inB b) x = if x.2.2 ≠ 0 then ([], x.2.2) else if x.2.1 = (m : Int) then (x.1, 0) else ([], 11) from fun x => by unfold endF; rw [GI.il])
  have HI := Lib.hid GI.inn
  have HIL := Lib.hid GI.il
  have pw2 : IntKind.i64.wrap (nn : Int) = nn := IntWalk.i64_in _ (by omega)
  have nnz : (0 : Int) ≤ (nn : Int) := by omega
  have nn64 : nn ≤ 64 := by omega
  have hm9 : m ≤ 1000000000 := by omega
  have m1n : 0 < m := hm1
  clear hs hv GI hr hnn
  generalize b.length = n at *
  clear hnm
  refine (callsIn_wide (n := 3)).1 (callsIn_of_wp_marks Try.func34 rfl trivial ?_ rfl)
  refine wpIn_wide.2 ?_
  simp only [Try.ntmps34, List.size_toArray, List.length_cons, List.length_nil, Nat.reduceAdd, Nat.reduceSub, Array.replicate_succ, Array.replicate_zero, List.push_toArray, List.append_toArray, List.nil_append, List.cons_append]
  go_wp2_with fail
  with_reducible refine (GT.out _ (by exact (by repeat first | assumption | exact Keep.refl _ _ | refine Keep.alloc ?_ _ | refine Keep.drew ?_ | refine Keep.drewN ?_ _ | refine Keep.setCell ?_ (.inl (by first | omega | (simp; done) | (simp; omega))) _))).mono ?_
  rintro e w1 ⟨rfl, rfl⟩
  go_upto_region 5 with fail
  refine wp_world (S := fun Z => Z.heap[w.heap.size]? = some (.cells #[.slice none 0 0] 48 (0, 0)) ∧ Z.heap[w.heap.size + 1]? = some (.cells #[.int .i64 0] 68 (0, 0)) ∧ Keep (fun _ => False) w Z ∧ w.heap.size + 2 ≤ Z.heap.size) ⟨?d0, ?d1, ?d2, ?d3⟩ ?_
  case d0 => ((try simp only [heap_drew']); (try simp only [World.heap_drewN]); repeat (first | (refine heap_alloc_at _ _ _ ?_; first | rfl | (simp; done)) | (refine (Below.heap_alloc _ _ _ ?_).trans ?_; (focus first | (simp; done) | (simp; omega)))))
  case d1 => ((try simp only [heap_drew']); (try simp only [World.heap_drewN]); repeat (first | (refine heap_alloc_at _ _ _ ?_; first | rfl | (simp; done)) | (refine (Below.heap_alloc _ _ _ ?_).trans ?_; (focus first | (simp; done) | (simp; omega)))))
  case d2 => exact (by repeat first | assumption | exact Keep.refl _ _ | refine Keep.alloc ?_ _ | refine Keep.drew ?_ | refine Keep.drewN ?_ _ | refine Keep.setCell ?_ (.inl (by first | omega | (simp; done) | (simp; omega))) _)
  case d3 => simp
  intro Z hZ
  have HZ := Lib.hid hZ
  clear hZ
  obtain ⟨r0, rf0⟩ := cell1_of HZ.out.1
  obtain ⟨r1, rf1⟩ := cell1_of HZ.out.2.1
  have cz0 := HZ.out.2.2.1.cell (fun h => h) cb0
  have hzs := HZ.out.2.2.2
  go_wp2_with fail
  with_reducible refine (CO.out Z _ HZ.out.2.2.1 (by exact Keep.refl _ _)).mono ?_
  rintro e w1 ⟨rfl, rfl⟩
  have r2 := fun o => (((Keep.refl (fun _ => False) Z).alloc o).block w.heap.size (by omega) (fun h => h)).trans HZ.out.1
  have r3 := fun o => (((Keep.refl (fun _ => False) Z).alloc o).block (w.heap.size + 1) (by omega) (fun h => h)).trans HZ.out.2.1
  obtain ⟨r4, r5⟩ := cell1_of (r2 (.cells #[.slice (some ⟨gb, go, none⟩) m c] 29))
  obtain ⟨r6, r7⟩ := cell1_of (r3 (.cells #[.slice (some ⟨gb, go, none⟩) m c] 29))
  have cz1 := ((Keep.refl (fun _ => False) Z).alloc (.cells #[.slice (some ⟨gb, go, none⟩) m c] 29)).cell (fun h => h) cz0
  clear r0 r1 rf0 rf1 r2 r3 cz0
  clear GT CO
  go_upto_region 11 with fail
  refine wp_world (S := fun Y => Y.heap[w.heap.size]? = some (.cells #[.slice none 0 0] 48 (0, 0)) ∧ Y.heap[w.heap.size + 1]? = some (.cells #[.int .i64 0] 68 (0, 0)) ∧ Y.heap[Z.heap.size + 1]? = some (.cells #[.slice none 0 0] 48 (0, 0)) ∧ Y.heap[Z.heap.size + 2]? = some (.cells #[.int .i64 1] 3 (0, 0)) ∧ Keep (fun _ => False) w Y ∧ Z.heap.size + 3 ≤ Y.heap.size) ⟨?f0, ?f1, ?f2, ?f3, ?f4, ?f5⟩ ?_
  case f0 => exact (((Keep.refl (fun _ => False) Z).alloc _).alloc _ |>.alloc _).block w.heap.size (by omega) (fun h => h) |>.trans HZ.out.1
  case f1 => exact (((Keep.refl (fun _ => False) Z).alloc _).alloc _ |>.alloc _).block (w.heap.size + 1) (by omega) (fun h => h) |>.trans HZ.out.2.1
  case f2 => ((try simp only [heap_drew']); (try simp only [World.heap_drewN]); repeat (first | (refine heap_alloc_at _ _ _ ?_; first | rfl | (simp; done)) | (refine (Below.heap_alloc _ _ _ ?_).trans ?_; (focus first | (simp; done) | (simp; omega)))))
  case f3 => ((try simp only [heap_drew']); (try simp only [World.heap_drewN]); repeat (first | (refine heap_alloc_at _ _ _ ?_; first | rfl | (simp; done)) | (refine (Below.heap_alloc _ _ _ ?_).trans ?_; (focus first | (simp; done) | (simp; omega)))))
  case f4 => exact HZ.out.2.2.1.trans (((Keep.refl (fun _ => False) Z).alloc _).alloc _ |>.alloc _) (fun _ _ h => h)
  case f5 => simp
  intro Y hY
  have HY := Lib.hid hY
  clear hY
  obtain ⟨c8, -⟩ := cell1_of HY.out.2.2.2.1
  have cyb := HY.out.2.2.2.2.1.cell (fun h => h) cb0
  have hys := HY.out.2.2.2.2.2
  clear cz1 r4 r5 r6 r7 cb0
  have EC := Lib.hid (fun W => each_any (some ⟨gb, go, none⟩) m c 1 (nn : Int) W)
  have CE := Lib.hid (show ∀ W', Keep (fun _ => False) Y W' → W'.cell? ⟨Z.heap.size + 2, 0, none⟩ = some (.int .i64 1) ∧ W'.cell? ⟨gb, go, none⟩ = some (.int .u8 (nn : Nat)) ∧ Keep (fun _ => False) Y W' from fun W' hk => ⟨hk.cell (fun h => h) c8, hk.cell (fun h => h) cyb, hk⟩)
  go_region_held3 (fun W' => W'.cell? ⟨Z.heap.size + 2, 0, none⟩ = some (.int .i64 1) ∧ W'.cell? ⟨gb, go, none⟩ = some (.int .u8 (nn : Nat)) ∧ Keep (fun _ => False) Y W') (exact CE.out _ (by exact (by repeat first | (with_reducible assumption) | (with_reducible exact Keep.refl _ _) | (with_reducible refine Keep.alloc ?_ _) | (with_reducible refine Keep.drew ?_) | (with_reducible refine Keep.drewN ?_ _) | (with_reducible refine Keep.setCell ?_ (.inl (by first | omega | (simp; done) | (simp; omega) | fail)) _)))) (first
    | (go_at_call 60; (with_reducible refine (EC.out _).mono ?_); rintro e w3 ⟨rfl, rfl⟩)
    | fail)
  go_wp2
  refine wp_world (S := fun V => (V.heap[Y.heap.size]? = some (.cells #[.slice (some ⟨gb, go, none⟩) m c] 29 (0, 0)) ∧ V.heap[Y.heap.size + 1]? = some (.cells #[.int .i64 1] 3 (0, 0)) ∧ V.heap[Y.heap.size + 2]? = some (.cells #[.int .i64 (nn : Nat)] 3 (0, 0))) ∧ Keep (fun _ => False) Y V ∧ Y.heap.size + 3 ≤ V.heap.size) ⟨⟨?k0, ?k1, ?k2⟩, ?k3, ?k4⟩ ?_
  case k0 => ((try simp only [heap_drew']); (try simp only [World.heap_drewN]); repeat (first | (refine heap_alloc_at _ _ _ ?_; first | rfl | (simp; done)) | (refine (Below.heap_alloc _ _ _ ?_).trans ?_; (focus first | (simp; done) | (simp; omega)))))
  case k1 => ((try simp only [heap_drew']); (try simp only [World.heap_drewN]); repeat (first | (refine heap_alloc_at _ _ _ ?_; first | rfl | (simp; done)) | (refine (Below.heap_alloc _ _ _ ?_).trans ?_; (focus first | (simp; done) | (simp; omega)))))
  case k2 => ((try simp only [heap_drew']); (try simp only [World.heap_drewN]); repeat (first | (refine heap_alloc_at _ _ _ ?_; first | rfl | (simp; done)) | (refine (Below.heap_alloc _ _ _ ?_).trans ?_; (focus first | (simp; done) | (simp; omega)))))
  case k3 => exact (by repeat first | assumption | exact Keep.refl _ _ | refine Keep.alloc ?_ _ | refine Keep.drew ?_ | refine Keep.drewN ?_ _ | refine Keep.setCell ?_ (.inl (by first | omega | (simp; done) | (simp; omega))) _)
  case k4 => simp
  intro V hV
  have HV := Lib.hid hV
  clear hV EC CE cyb c8
  have F0 := Lib.hid (FI.start (b := inB b) (nn := nn) (r := r) (M := V.heap.size + 2) (L := Z.heap.size) RE.out ((HV.out.2.1.block _ (by omega) (fun h => h)).trans HY.out.1) ((HV.out.2.1.block _ (by omega) (fun h => h)).trans HY.out.2.1) ((HV.out.2.1.block _ (by omega) (fun h => h)).trans HY.out.2.2.1) ((HV.out.2.1.block _ (by omega) (fun h => h)).trans HY.out.2.2.2.1) (HY.out.2.2.2.2.1.trans HV.out.2.1 (fun _ _ h => h)))
  have KV := Lib.hid (HY.out.2.2.2.2.1.trans HV.out.2.1 (fun _ _ h => h))
  have hvs := HV.out.2.2
  have BI := Lib.hid ((HI.out.mono (G := fun k => k < w.heap.size) (fun k h _ => h)).keep KV.out (fun _ _ _ h => h))
  generalize hP : Y.heap.size = P at *
  generalize hL : Z.heap.size = L at *
  have HE := Lib.hid (And.intro hP hL)
  clear hP hL HY HZ
  refine wp_range (gf := 82) (lb := #[.pointer (some ⟨P + 2, 0, none⟩), .pointer (some ⟨P, 0, none⟩), .pointer (some ⟨P + 1, 0, none⟩)]) rfl (enters_of Try.func82 (by kernel_rfl) rfl) exV (fun _ => rfl) (P + 1) (by omega)
    (exKp w.heap.size (P + 2) P (P + 1)) (fun _ _ _ h k => Keep.trans h k (fun _ _ h => h)) (fun W o => (Keep.refl _ W).putObj (.inr (by omega)) o) (exHx (inB b) (V.heap.size + 2) nn) exNext (fun s => s.1 = nn ∨ s.2.2.2 ≠ 0) (0, 1, [], 0) ?seq
    (FI w (inB b) L (V.heap.size + 2) nn r) (FX w r) (fun s A B h hk => h.keep hk (fun k h h2 => by omega) (by omega)) (fun A B h hk => h.keep hk (fun k h h2 => by omega)) F0.out ?round ?done ?stop
  case seq =>
    intro l J Jx W hk hs hJ hJx hY h0
    exact each1_any (inB b) w.heap.size (P + 2) P (P + 1) (V.heap.size + 2) nn l (.slice (some ⟨gb, go, none⟩) m c) W J Jx (BI.out.keep hk (fun _ _ _ h => h)) (by rw [HIL.out]; exact hm9) (by omega) hs ((hk.block _ (by omega) (fun h => h)).trans HV.out.1.2.2) ((hk.block _ (by omega) (fun h => h)).trans HV.out.1.1) ((hk.block _ (by omega) (fun h => h)).trans HV.out.1.2.1) (by rw [HIL.out]; exact hm1) (by omega) hJ hJx hY h0
  case done =>
    rintro ⟨k, ak, acc, er⟩ W hS hI hD
    have er0z : er = 0 := hI.1
    subst er0z
    have hkn : k = nn := by rcases hS with h | h; exact h; exact absurd rfl h
    subst hkn
    obtain ⟨A5, c5, q1, q2⟩ := hI.2.2.2.1
    have RG : r = endF (inB b) (acc, ak, 0) := by have := hI.2.1; simpa [readN] using this
    rw [EF.out, if_neg (by simp)] at RG
    have AL : acc.length = k := hI.2.2.1
    have HQ := Lib.hid (show NBX cmN (fun k => V.heap.size + 2 ≤ k) (V.heap.size + 2) 83 W (.slice A5 k c5) acc from q2)
    have HAL := Lib.hid AL
    have HD0 := Lib.hid hD
    have KW := Lib.hid hI.2.2.2.2.2.2.2
    obtain ⟨p7, pf7⟩ := cell1_of q1
    obtain ⟨p8, pf8⟩ := cell1_of hI.2.2.2.2.1
    obtain ⟨p0, pf0⟩ := cell1_of hI.2.2.2.2.2.1
    obtain ⟨p1, pf1⟩ := cell1_of hI.2.2.2.2.2.2.1
    have C0 := Lib.hid hI.2.2.2.2.2.1
    have C1 := Lib.hid hI.2.2.2.2.2.2.1
    clear hI hS q1 q2 AL hD
    have kf : ∀ u v, Keep (fun x => x = w.heap.size ∨ x = w.heap.size + 1) W ((W.setCell ⟨w.heap.size, 0, none⟩ u).setCell ⟨w.heap.size + 1, 0, none⟩ v) := fun u v => Keep.setCell (Keep.setCell (Keep.refl _ W) (.inr (.inl rfl)) _) (.inr (.inr rfl)) _
    have KK := Lib.hid kf
    clear kf
    by_cases hmm : ak = (m : Int)
    · have e3 : (ak != (m : Int)) = false := by simp [hmm]
      have RG2 := Lib.hid (show r = (acc, 0) by rw [RG, if_pos hmm])
      clear RG hmm
      go_wp2
      refine ⟨by simp, .inl ⟨_, _, rfl, run_takeDeferred (keep_at (KK.out _ _) HD0.out (by omega)), ?_⟩⟩
      obtain ⟨g0, g1, gk⟩ := fin_box (D := V.heap.size) (.slice A5 k c5) (.int .i64 0) C0.out C1.out (by have := KV.out.size; omega)
      refine ⟨_, results_fget rfl _ _ w.heap.size (w.heap.size + 1) A5 k c5 0 rfl rfl g0 g1, ?_⟩
      rw [RG2.out]
      have hq := (HQ.out.keep gk (fun g e => by have := (HQ.out.own_lt e).1; omega) (fun g _ h _ => by omega)).nb.ns
      exact ⟨A5, c5, by show _ = Ending.returned (.tuple #[.slice A5 acc.length c5, .int .i64 0]); rw [HAL.out], by show NS cmN _ _ (.slice A5 acc.length c5) acc; rw [HAL.out]; exact hq, (KW.out.trans gk (fun x hx h => by have := KV.out.size; omega)).to_below'⟩
    · have e3 : (ak != (m : Int)) = true := by simp [hmm]
      have RG2 := Lib.hid (show r = ([], 11) by rw [RG, if_neg hmm])
      clear RG hmm
      go_wp2
      refine ⟨by simp, .inl ⟨_, _, rfl, run_takeDeferred (keep_at (KK.out _ _) HD0.out (by omega)), ?_⟩⟩
      obtain ⟨g0, g1, gk⟩ := fin_box (D := V.heap.size) (.slice none 0 0) (.int .i64 11) C0.out C1.out (by have := KV.out.size; omega)
      refine ⟨_, results_fget rfl _ _ w.heap.size (w.heap.size + 1) none 0 0 11 rfl rfl g0 g1, ?_⟩
      rw [RG2.out]
      exact ⟨none, 0, rfl, NS.nil _ _ _, (KW.out.trans gk (fun x hx h => by have := KV.out.size; omega)).to_below'⟩
  case stop =>
    intro W hX hD
    obtain ⟨z, hr, q1, q2, hkw⟩ := hX
    have hlt := (Array.getElem?_eq_some_iff.1 hD).1
    refine ⟨by simp, .inl ⟨_, _, rfl, run_takeDeferred hD, ?_⟩⟩
    have kp : Keep (fun x => x = V.heap.size) W (W.putObj V.heap.size (.deferred none)) := (Keep.refl (fun x => x = V.heap.size) W).putObj (l := V.heap.size) (.inr rfl) (.deferred none)
    refine ⟨_, results_fget rfl _ _ w.heap.size (w.heap.size + 1) none 0 0 z rfl rfl (cell1_of (keep_at kp q1 (by omega))).1 (cell1_of (keep_at kp q2 (by omega))).1, ?_⟩
    rw [hr]
    exact ⟨none, 0, rfl, NS.nil _ _ _, (hkw.trans kp (fun x hx h => by have := KV.out.size; omega)).to_below'⟩
  case round =>
    rintro l ⟨k, ak, acc, er0⟩ ⟨y, u, nx, er⟩ W0 W K hI h0W hx hlt hK
    obtain ⟨hkn, a, ha, hal, hg, ⟨hby, hM0⟩, A1, c1, hu⟩ := id hx
    have ha : ak = (a : Int) := ha
    have hu : u = .slice A1 y.l.length c1 := hu
    subst ha hu
    have hlt2 := Nat.lt_of_lt_of_le hlt h0W.size
    dsimp only [exV]
    gi_wp2
    refine hK _ _ (Same2.keep ((Keep.refl (fun _ => False) W).alloc _) hlt2 (fun h => h) (fun h => h)) ((Keep.refl _ W).alloc _) ?_
    intro W2 hk2
    clear hK
    have kw2 := Lib.hid (((Keep.refl (fun r => r = V.heap.size + 1) W).alloc _).trans hk2 (fun _ _ h => h))
    have k02 := Lib.hid (Keep.trans (S := fun r => r = V.heap.size + 1) (h0W.mono (fun _ _ h => h.elim)) kw2.out (fun _ _ h => h))
    have B9 := Lib.hid (keep_at hk2 (heap_alloc_new W _) (by omega))
    have I2 := Lib.hid (hI.keep k02.out (fun k h h2 => by omega) (by omega))
    have Y2 := Lib.hid (hby.keep kw2.out (fun b' _ h h2 => by omega))
    have OB := Lib.hid (show ∀ A c, NBX cmN (fun k => V.heap.size + 2 ≤ k) (V.heap.size + 2) 83 W0 (.slice A k c) acc → ∀ g, ownB (.slice A k c) = some g → g < W0.heap.size from fun A c h g e => (h.own_lt e).2)
    have I0 := Lib.hid hI.2.2.2.1
    have W2s : W.heap.size < W2.heap.size := (Array.getElem?_eq_some_iff.1 B9.out).1
    have hws := h0W.size
    obtain ⟨f, hf⟩ : ∃ f, nn - k = f + 1 := ⟨nn - k - 1, by have : k < nn := hkn; omega⟩
    have hfk : f = nn - (k + 1) := by omega
    have hkq : k ≤ 64 := by have : k < nn := hkn; omega
    have ST := ex_step hx hf acc
    have er0z : er0 = 0 := I2.out.1
    subst er0z
    have RG : r = endF (inB b) (readN (inB b) (nn - k) (a : Int) acc) := I2.out.2.1
    rw [hf, ST] at RG
    have HR := Lib.hid RG
    have HF := Lib.hid hfk
    generalize hW : W.heap.size = R at *
    clear hk2 hI hby hx hg hf ST RG hfk hW kw2 h0W
    obtain ⟨x0, x1, x2, x3, x4, x5, x6, x7, xf⟩ := cells8 B9.out
    by_cases he : er = 0
    · have e2 : (er != 0) = false := by simp [he]
      have HX := Lib.hid (show r = endF (inB b) (readN (inB b) (nn - (k + 1)) nx (acc ++ [y])) by rw [HR.out, if_neg (by simp [he]), HF.out])
      have HZ0 := Lib.hid he
      obtain ⟨Aq, cq, hq1, hq2⟩ := I0.out
      have OBq := Lib.hid (OB.out Aq cq hq2)
      have I7 := Lib.hid (show W2.heap[L + 1]? = some (.cells #[.slice Aq k cq] 48 (0, 0)) from keep_at k02.out hq1 (by omega))
      have N7 := Lib.hid (hq2.keep k02.out (fun g e => by have := (hq2.own_lt e).1; omega) (fun g _ h _ => by omega))
      obtain ⟨p7, pf7⟩ := cell1_of I7.out
      obtain ⟨p8, pf8⟩ := cell1_of I2.out.2.2.2.2.1
      clear he hq1 hq2 I0 OB
      have AL := Lib.hid (show acc.length = k from I2.out.2.2.1)
      have CE := Lib.hid (show ∀ (S' : Nat → Prop) W', Keep S' W2 W' → ¬ S' R → W'.cell? ⟨R, 0, none⟩ = some (.int .i64 y.do_) ∧ W'.cell? ⟨R, 1, none⟩ = some (.bool y.loc) ∧ W'.cell? ⟨R, 2, none⟩ = some (.int .i64 y.idx) ∧ W'.cell? ⟨R, 3, none⟩ = some (.int .i64 y.gen) ∧ W'.cell? ⟨R, 4, none⟩ = some (.int .i64 y.comp) ∧ W'.cell? ⟨R, 5, none⟩ = some (.slice A1 y.l.length c1) ∧ W'.cell? ⟨R, 6, none⟩ = some (.int .i64 nx) ∧ W'.cell? ⟨R, 7, none⟩ = some (.int .i64 er) from fun S' W' hk hn => ⟨hk.cell (p := ⟨R, 0, none⟩) hn x0, hk.cell (p := ⟨R, 1, none⟩) hn x1, hk.cell (p := ⟨R, 2, none⟩) hn x2, hk.cell (p := ⟨R, 3, none⟩) hn x3, hk.cell (p := ⟨R, 4, none⟩) hn x4, hk.cell (p := ⟨R, 5, none⟩) hn x5, hk.cell (p := ⟨R, 6, none⟩) hn x6, hk.cell (p := ⟨R, 7, none⟩) hn x7⟩)
      have NR := Lib.hid (show ¬ ownB (.slice Aq k cq) = some R from fun e => by have := OBq.out _ e; omega)
      have KA := Lib.hid (show Keep (fun _ => False) W2 (W2.alloc (.cells #[.int .i64 y.do_, .bool y.loc, .int .i64 y.idx, .int .i64 y.gen, .int .i64 y.comp, .slice A1 y.l.length c1] 83)) from (Keep.refl _ W2).alloc _)
      obtain ⟨i0, hi0, hz0, hz1, hz2⟩ := info_parts info_cmd
      have q7 : (W2.alloc (.cells #[.int .i64 y.do_, .bool y.loc, .int .i64 y.idx, .int .i64 y.gen, .int .i64 y.comp, .slice A1 y.l.length c1] 83)).cell? ⟨L + 1, 0, none⟩ = some (.slice Aq k cq) := KA.out.cell (fun h => h) p7
      gi_wp2
      refine region_in (fun W' => W'.cell? ⟨R, 0, none⟩ = some (.int .i64 y.do_) ∧ W'.cell? ⟨R, 1, none⟩ = some (.bool y.loc) ∧ W'.cell? ⟨R, 2, none⟩ = some (.int .i64 y.idx) ∧ W'.cell? ⟨R, 3, none⟩ = some (.int .i64 y.gen) ∧ W'.cell? ⟨R, 4, none⟩ = some (.int .i64 y.comp) ∧ W'.cell? ⟨R, 5, none⟩ = some (.slice A1 y.l.length c1) ∧ W'.cell? ⟨R, 6, none⟩ = some (.int .i64 nx) ∧ W'.cell? ⟨R, 7, none⟩ = some (.int .i64 er)) (by kernel_rfl) (by kernel_rfl) (by rintro ⟨_, _, h⟩; exact h) (CE.out (fun _ => False) _ (Keep.refl _ W2).drew (fun h => h)) ?_
      have hHeld := CE.out (fun _ => False) W2.drew (Keep.refl _ W2).drew (fun h => h)
      (refine' wpAnyH_take (i := 1) (oi := _) (v := _) ?_ (by kernel_rfl) (by kernel_rfl) (by kernel_rfl) (fun _ _ _ h => h) ?_ (by assumption) ?_; rotate_left; rotate_left; (focus (first | (simp only [List.getElem?_toArray, List.getElem?_cons_succ, List.getElem?_cons_zero]; done) | (simp only [List.getElem?_toArray, List.getElem?_cons_succ, List.getElem?_cons_zero]; rfl))); (focus (refine Or.inl ⟨by rfl, ?_⟩; intro W' hSw; (try dsimp only at hSw); go_simp; try with_reducible rfl)); (try simp only [Act.put, List.setIfInBounds_toArray, List.set_cons_zero, List.set_cons_succ]))
      (refine' wpAnyH_take (i := 2) (oi := _) (v := _) ?_ (by kernel_rfl) (by kernel_rfl) (by kernel_rfl) (fun _ _ _ h => h) ?_ (by assumption) ?_; rotate_left; rotate_left; (focus (first | (simp only [List.getElem?_toArray, List.getElem?_cons_succ, List.getElem?_cons_zero]; done) | (simp only [List.getElem?_toArray, List.getElem?_cons_succ, List.getElem?_cons_zero]; rfl))); (focus (refine Or.inl ⟨by rfl, ?_⟩; intro W' hSw; (try dsimp only at hSw); go_simp; try with_reducible rfl)); (try simp only [Act.put, List.setIfInBounds_toArray, List.set_cons_zero, List.set_cons_succ]))
      (refine' wpAnyH_take (i := 5) (oi := _) (v := _) ?_ (by kernel_rfl) (by kernel_rfl) (by kernel_rfl) (fun _ _ _ h => h) ?_ (by assumption) ?_; rotate_left; rotate_left; (focus (first | (simp only [List.getElem?_toArray, List.getElem?_cons_succ, List.getElem?_cons_zero]; done) | (simp only [List.getElem?_toArray, List.getElem?_cons_succ, List.getElem?_cons_zero]; rfl))); (focus (refine Or.inl ⟨by rfl, ?_⟩; intro W' hSw; (try dsimp only at hSw); go_simp; try with_reducible rfl)); (try simp only [Act.put, List.setIfInBounds_toArray, List.set_cons_zero, List.set_cons_succ]))
      (refine' wpAnyH_take (i := 6) (oi := _) (v := _) ?_ (by kernel_rfl) (by kernel_rfl) (by kernel_rfl) (fun _ _ _ h => h) ?_ (by assumption) ?_; rotate_left; rotate_left; (focus (first | (simp only [List.getElem?_toArray, List.getElem?_cons_succ, List.getElem?_cons_zero]; done) | (simp only [List.getElem?_toArray, List.getElem?_cons_succ, List.getElem?_cons_zero]; rfl))); (focus (refine Or.inl ⟨by rfl, ?_⟩; intro W' hSw; (try dsimp only at hSw); go_simp; try with_reducible rfl)); (try simp only [Act.put, List.setIfInBounds_toArray, List.set_cons_zero, List.set_cons_succ]))
      refine wpAnyH_ready (rs := [0, 3]) (by kernel_rfl) (by simp) ?_
      refine' AllReadyH.cons (o := _) ?ho1 (fun K hK => ?go1) ?rest1
      case ho1 => (first | (simp only [List.getElem?_toArray, List.getElem?_cons_succ, List.getElem?_cons_zero]; done) | (simp only [List.getElem?_toArray, List.getElem?_cons_succ, List.getElem?_cons_zero]; rfl))
      case rest1 =>
        refine' AllReadyH.cons (o := _) ?ho2 (fun K hK => ?go2) AllReadyH.nil
        case ho2 => (first | (simp only [List.getElem?_toArray, List.getElem?_cons_succ, List.getElem?_cons_zero]; done) | (simp only [List.getElem?_toArray, List.getElem?_cons_succ, List.getElem?_cons_zero]; rfl))
        case go2 =>
          go_simp
          refine hK.out _ _ (CE.out (fun _ => False) _ KA.out.drew (fun h => h)) (fun _ => ?_)
          clear hK K
          (try simp only [Act.put, List.setIfInBounds_toArray, List.set_cons_zero, List.set_cons_succ])
          (refine wpAnyH_ready (rs := [0]) (by kernel_rfl) (by simp) ?_; refine' AllReadyH.cons (o := _) ?_ (fun K hK => ?_) AllReadyH.nil; rotate_left; (focus (first | (simp only [List.getElem?_toArray, List.getElem?_cons_succ, List.getElem?_cons_zero]; done) | (simp only [List.getElem?_toArray, List.getElem?_cons_succ, List.getElem?_cons_zero]; rfl))))
          go_simp
          refine hK.out _ _ (CE.out (fun _ => False) _ KA.out.drew (fun h => h)) (fun _ => ?_)
          clear hK K
          (try simp only [Act.put, List.setIfInBounds_toArray, List.set_cons_zero, List.set_cons_succ])
          (refine wpAnyH_ready (rs := [4]) (by kernel_rfl) (by simp) ?_; refine' AllReadyH.cons (o := _) ?_ (fun K hK => ?_) AllReadyH.nil; rotate_left; (focus (first | (simp only [List.getElem?_toArray, List.getElem?_cons_succ, List.getElem?_cons_zero]; done) | (simp only [List.getElem?_toArray, List.getElem?_cons_succ, List.getElem?_cons_zero]; rfl))))
          rw [if_pos (by rfl)]
          refine wp_pushX _ _ _ rfl cmN (fun k => V.heap.size + 2 ≤ k) (V.heap.size + 2) 83 i0 _ 64 Try.underlying48 hi0 hz0 hz1 hz2 rfl (.slice Aq k cq) acc k AL.out (by rfl) (N7.out.keep KA.out.drew (fun _ _ h => h) (fun _ _ _ _ h => h)) W2.heap.size 1 y (.slice A1 y.l.length c1) (by rfl) (lit_cells W2 _ _) ((Y2.out.keep KA.out.drew (fun _ _ _ h => h)).mono (fun b' _ h => ⟨by omega, fun e => by have := OBq.out _ e; omega⟩)) ?_ ?_ ?_ ?_
          · unfold maxLen; omega
          · omega
          · simp; omega
          intro A5 c5 w5 hp hk5
          have K5 := Lib.hid (show Keep (fun g => ownB (.slice Aq k cq) = some g) W2 w5 from Keep.trans (S := fun g => ownB (.slice Aq k cq) = some g) (KA.out.drew.mono (fun _ _ h => h.elim)) hk5 (fun _ _ h => h))
          have HP := Lib.hid hp
          clear hk5 hp
          refine hK.out _ _ (CE.out _ _ K5.out NR.out) (fun _ => ?_)
          clear hK K
          (try simp only [Act.put, List.setIfInBounds_toArray, List.set_cons_zero, List.set_cons_succ])
          have J7 := Lib.hid (keep_at K5.out I7.out (fun e => by have := (N7.out.own_lt e).1; omega))
          have J8 := Lib.hid (keep_at K5.out I2.out.2.2.2.2.1 (fun e => by have := (N7.out.own_lt e).1; omega))
          obtain ⟨j7, jf7⟩ := cell1_of J7.out
          obtain ⟨j8, jf8⟩ := cell1_of J8.out
          (refine wpAnyH_ready (rs := [7]) (by kernel_rfl) (by simp) ?_; refine' AllReadyH.cons (o := _) ?_ (fun K hK => ?_) AllReadyH.nil; rotate_left; (focus (first | (simp only [List.getElem?_toArray, List.getElem?_cons_succ, List.getElem?_cons_zero]; done) | (simp only [List.getElem?_toArray, List.getElem?_cons_succ, List.getElem?_cons_zero]; rfl))))
          go_simp
          have KS := Lib.hid (show Keep (fun x => ownB (.slice Aq k cq) = some x ∨ x = L + 1 ∨ x = L + 2) W2 (w5.setCell ⟨L + 1, 0, none⟩ (.slice A5 (k + 1) c5)) from Keep.setCell (K5.out.mono (fun _ _ h => .inl h)) (.inr (.inr (.inl rfl))) _)
          refine hK.out _ _ (CE.out _ _ KS.out (fun h => by rcases h with h | h; exact NR.out h; omega)) (fun _ => ?_)
          clear hK K
          (try simp only [Act.put, List.setIfInBounds_toArray, List.set_cons_zero, List.set_cons_succ])
          (refine wpAnyH_ready (rs := [8]) (by kernel_rfl) (by simp) ?_; refine' AllReadyH.cons (o := _) ?_ (fun K hK => ?_) AllReadyH.nil; rotate_left; (focus (first | (simp only [List.getElem?_toArray, List.getElem?_cons_succ, List.getElem?_cons_zero]; done) | (simp only [List.getElem?_toArray, List.getElem?_cons_succ, List.getElem?_cons_zero]; rfl))))
          go_simp
          have KF := Lib.hid (show Keep (fun x => ownB (.slice Aq k cq) = some x ∨ x = L + 1 ∨ x = L + 2) W2 ((w5.setCell ⟨L + 1, 0, none⟩ (.slice A5 (k + 1) c5)).setCell ⟨L + 2, 0, none⟩ (.int .i64 nx)) from Keep.setCell KS.out (.inr (.inr (.inr rfl))) _)
          refine hK.out _ _ (CE.out _ _ KF.out (fun h => by rcases h with h | h; exact NR.out h; omega)) (fun _ => ?_)
          clear hK K
          (try simp only [Act.put, List.setIfInBounds_toArray, List.set_cons_zero, List.set_cons_succ])
          refine wpAnyH_done (by kernel_rfl) ?_ _
          have nl : ∀ x, x ≤ L + 2 ∨ x = V.heap.size ∨ x = V.heap.size + 1 ∨ x ≤ P + 2 → x ≠ L + 1 → x ≠ L + 2 → ¬ (ownB (.slice Aq k cq) = some x ∨ x = L + 1 ∨ x = L + 2) := fun x h h1 h2 h3 => by
            rcases h3 with h3 | h3
            · have := (N7.out.own_lt h3).1; omega
            · omega
          gi_wp2
          refine ⟨Same2.keep KF.out (by omega) (nl _ (by omega) (by omega) (by omega)) (nl _ (by omega) (by omega) (by omega)), KF.out.mono (fun x _ h => ?_), ⟨HZ0.out, HX.out, ?_, ⟨A5, c5, ?_, ?_⟩, ?_, keep_at KF.out I2.out.2.2.2.2.2.1 (nl _ (by omega) (by omega) (by omega)), keep_at KF.out I2.out.2.2.2.2.2.2.1 (nl _ (by omega) (by omega) (by omega)), ?_⟩⟩
          · rcases h with h | h
            · have := (N7.out.own_lt h).1
              exact ⟨by omega, by omega, by omega, by omega⟩
            · exact ⟨by omega, by omega, by omega, by omega⟩
          · show (acc ++ [y]).length = k + 1
            rw [List.length_append, AL.out]
            rfl
          · rw [Below.heap_setCell _ ⟨L + 2, 0, none⟩ _ (L + 1) (by show L + 1 ≠ L + 2; omega), heap_setCell_same w5 (L + 1) 0 _ _ _ J7.out]
            rfl
          · exact HP.out.keep (S := fun x => x = L + 1 ∨ x = L + 2) (Keep.setCell (Keep.setCell (Keep.refl _ w5) (.inr (.inl rfl)) _) (.inr (.inr rfl)) _) (fun g e => by have := (HP.out.own_lt e).1; omega) (fun g _ h _ => by omega)
          · show ((w5.setCell ⟨L + 1, 0, none⟩ (.slice A5 (k + 1) c5)).setCell ⟨L + 2, 0, none⟩ (.int .i64 nx)).heap[L + 2]? = _
            rw [heap_setCell_same _ (L + 2) 0 _ _ _ ((Below.heap_setCell _ ⟨L + 1, 0, none⟩ _ (L + 2) (by show L + 2 ≠ L + 1; omega)).trans J8.out)]
            rfl
          · exact I2.out.2.2.2.2.2.2.2.trans KF.out (fun x hx h => by
              rcases h with h | h
              · have := (N7.out.own_lt h).1; omega
              · omega)
      case go1 =>
        go_simp
        refine hK.out _ _ hHeld (fun _ => ?_)
        clear hK K
        (try simp only [Act.put, List.setIfInBounds_toArray, List.set_cons_zero, List.set_cons_succ])
        (refine wpAnyH_ready (rs := [3]) (by kernel_rfl) (by simp) ?_; refine' AllReadyH.cons (o := _) ?_ (fun K hK => ?_) AllReadyH.nil; rotate_left; (focus (first | (simp only [List.getElem?_toArray, List.getElem?_cons_succ, List.getElem?_cons_zero]; done) | (simp only [List.getElem?_toArray, List.getElem?_cons_succ, List.getElem?_cons_zero]; rfl))))
        go_simp
        refine hK.out _ _ (CE.out (fun _ => False) _ KA.out.drew (fun h => h)) (fun _ => ?_)
        clear hK K
        (try simp only [Act.put, List.setIfInBounds_toArray, List.set_cons_zero, List.set_cons_succ])
        (refine wpAnyH_ready (rs := [4]) (by kernel_rfl) (by simp) ?_; refine' AllReadyH.cons (o := _) ?_ (fun K hK => ?_) AllReadyH.nil; rotate_left; (focus (first | (simp only [List.getElem?_toArray, List.getElem?_cons_succ, List.getElem?_cons_zero]; done) | (simp only [List.getElem?_toArray, List.getElem?_cons_succ, List.getElem?_cons_zero]; rfl))))
        rw [if_pos (by rfl)]
        refine wp_pushX _ _ _ rfl cmN (fun k => V.heap.size + 2 ≤ k) (V.heap.size + 2) 83 i0 _ 64 Try.underlying48 hi0 hz0 hz1 hz2 rfl (.slice Aq k cq) acc k AL.out (by rfl) (N7.out.keep KA.out.drew (fun _ _ h => h) (fun _ _ _ _ h => h)) W2.heap.size 1 y (.slice A1 y.l.length c1) (by rfl) (lit_cells W2 _ _) ((Y2.out.keep KA.out.drew (fun _ _ _ h => h)).mono (fun b' _ h => ⟨by omega, fun e => by have := OBq.out _ e; omega⟩)) ?_ ?_ ?_ ?_
        · unfold maxLen; omega
        · omega
        · simp; omega
        intro A5 c5 w5 hp hk5
        have K5 := Lib.hid (show Keep (fun g => ownB (.slice Aq k cq) = some g) W2 w5 from Keep.trans (S := fun g => ownB (.slice Aq k cq) = some g) (KA.out.drew.mono (fun _ _ h => h.elim)) hk5 (fun _ _ h => h))
        have HP := Lib.hid hp
        clear hk5 hp
        refine hK.out _ _ (CE.out _ _ K5.out NR.out) (fun _ => ?_)
        clear hK K
        (try simp only [Act.put, List.setIfInBounds_toArray, List.set_cons_zero, List.set_cons_succ])
        have J7 := Lib.hid (keep_at K5.out I7.out (fun e => by have := (N7.out.own_lt e).1; omega))
        have J8 := Lib.hid (keep_at K5.out I2.out.2.2.2.2.1 (fun e => by have := (N7.out.own_lt e).1; omega))
        obtain ⟨j7, jf7⟩ := cell1_of J7.out
        obtain ⟨j8, jf8⟩ := cell1_of J8.out
        (refine wpAnyH_ready (rs := [7]) (by kernel_rfl) (by simp) ?_; refine' AllReadyH.cons (o := _) ?_ (fun K hK => ?_) AllReadyH.nil; rotate_left; (focus (first | (simp only [List.getElem?_toArray, List.getElem?_cons_succ, List.getElem?_cons_zero]; done) | (simp only [List.getElem?_toArray, List.getElem?_cons_succ, List.getElem?_cons_zero]; rfl))))
        go_simp
        have KS := Lib.hid (show Keep (fun x => ownB (.slice Aq k cq) = some x ∨ x = L + 1 ∨ x = L + 2) W2 (w5.setCell ⟨L + 1, 0, none⟩ (.slice A5 (k + 1) c5)) from Keep.setCell (K5.out.mono (fun _ _ h => .inl h)) (.inr (.inr (.inl rfl))) _)
        refine hK.out _ _ (CE.out _ _ KS.out (fun h => by rcases h with h | h; exact NR.out h; omega)) (fun _ => ?_)
        clear hK K
        (try simp only [Act.put, List.setIfInBounds_toArray, List.set_cons_zero, List.set_cons_succ])
        (refine wpAnyH_ready (rs := [8]) (by kernel_rfl) (by simp) ?_; refine' AllReadyH.cons (o := _) ?_ (fun K hK => ?_) AllReadyH.nil; rotate_left; (focus (first | (simp only [List.getElem?_toArray, List.getElem?_cons_succ, List.getElem?_cons_zero]; done) | (simp only [List.getElem?_toArray, List.getElem?_cons_succ, List.getElem?_cons_zero]; rfl))))
        go_simp
        have KF := Lib.hid (show Keep (fun x => ownB (.slice Aq k cq) = some x ∨ x = L + 1 ∨ x = L + 2) W2 ((w5.setCell ⟨L + 1, 0, none⟩ (.slice A5 (k + 1) c5)).setCell ⟨L + 2, 0, none⟩ (.int .i64 nx)) from Keep.setCell KS.out (.inr (.inr (.inr rfl))) _)
        refine hK.out _ _ (CE.out _ _ KF.out (fun h => by rcases h with h | h; exact NR.out h; omega)) (fun _ => ?_)
        clear hK K
        (try simp only [Act.put, List.setIfInBounds_toArray, List.set_cons_zero, List.set_cons_succ])
        refine wpAnyH_done (by kernel_rfl) ?_ _
        have nl : ∀ x, x ≤ L + 2 ∨ x = V.heap.size ∨ x = V.heap.size + 1 ∨ x ≤ P + 2 → x ≠ L + 1 → x ≠ L + 2 → ¬ (ownB (.slice Aq k cq) = some x ∨ x = L + 1 ∨ x = L + 2) := fun x h h1 h2 h3 => by
          rcases h3 with h3 | h3
          · have := (N7.out.own_lt h3).1; omega
          · omega
        gi_wp2
        refine ⟨Same2.keep KF.out (by omega) (nl _ (by omega) (by omega) (by omega)) (nl _ (by omega) (by omega) (by omega)), KF.out.mono (fun x _ h => ?_), ⟨HZ0.out, HX.out, ?_, ⟨A5, c5, ?_, ?_⟩, ?_, keep_at KF.out I2.out.2.2.2.2.2.1 (nl _ (by omega) (by omega) (by omega)), keep_at KF.out I2.out.2.2.2.2.2.2.1 (nl _ (by omega) (by omega) (by omega)), ?_⟩⟩
        · rcases h with h | h
          · have := (N7.out.own_lt h).1
            exact ⟨by omega, by omega, by omega, by omega⟩
          · exact ⟨by omega, by omega, by omega, by omega⟩
        · show (acc ++ [y]).length = k + 1
          rw [List.length_append, AL.out]
          rfl
        · rw [Below.heap_setCell _ ⟨L + 2, 0, none⟩ _ (L + 1) (by show L + 1 ≠ L + 2; omega), heap_setCell_same w5 (L + 1) 0 _ _ _ J7.out]
          rfl
        · exact HP.out.keep (S := fun x => x = L + 1 ∨ x = L + 2) (Keep.setCell (Keep.setCell (Keep.refl _ w5) (.inr (.inl rfl)) _) (.inr (.inr rfl)) _) (fun g e => by have := (HP.out.own_lt e).1; omega) (fun g _ h _ => by omega)
        · show ((w5.setCell ⟨L + 1, 0, none⟩ (.slice A5 (k + 1) c5)).setCell ⟨L + 2, 0, none⟩ (.int .i64 nx)).heap[L + 2]? = _
          rw [heap_setCell_same _ (L + 2) 0 _ _ _ ((Below.heap_setCell _ ⟨L + 1, 0, none⟩ _ (L + 2) (by show L + 2 ≠ L + 1; omega)).trans J8.out)]
          rfl
        · exact I2.out.2.2.2.2.2.2.2.trans KF.out (fun x hx h => by
            rcases h with h | h
            · have := (N7.out.own_lt h).1; omega
            · omega)
    · have e2 : (er != 0) = true := by simp [he]
      have HX := Lib.hid (show r = ([], er) by rw [HR.out, if_pos he, EF.out, if_pos he])
      obtain ⟨p0, pf0⟩ := cell1_of I2.out.2.2.2.2.2.1
      obtain ⟨p1, pf1⟩ := cell1_of I2.out.2.2.2.2.2.2.1
      clear he
      gi_wp2
      refine region_in (fun W' => W'.cell? ⟨R, 7, none⟩ = some (.int .i64 er)) (by kernel_rfl) (by kernel_rfl) (by rintro ⟨_, _, h⟩; exact h) x7 ?_
      (refine' wpAnyH_take (i := 0) (oi := _) (v := _) ?_ (by kernel_rfl) (by kernel_rfl) (by kernel_rfl) (fun _ _ _ h => h) ?_ (by assumption) ?_; rotate_left; rotate_left; (focus (first | (simp only [List.getElem?_toArray, List.getElem?_cons_succ, List.getElem?_cons_zero]; done) | (simp only [List.getElem?_toArray, List.getElem?_cons_succ, List.getElem?_cons_zero]; rfl))); (focus (refine Or.inl ⟨by rfl, ?_⟩; intro W' hSw; (try dsimp only at hSw); go_simp; try with_reducible rfl)); (try simp only [Act.put, List.setIfInBounds_toArray, List.set_cons_zero, List.set_cons_succ]))
      (refine' wpAnyH_take (i := 1) (oi := _) (v := _) ?_ (by kernel_rfl) (by kernel_rfl) (by kernel_rfl) (fun _ _ _ h => h) ?_ (by assumption) ?_; rotate_left; rotate_left; (focus (first | (simp only [List.getElem?_toArray, List.getElem?_cons_succ, List.getElem?_cons_zero]; done) | (simp only [List.getElem?_toArray, List.getElem?_cons_succ, List.getElem?_cons_zero]; rfl))); (focus (refine Or.inl ⟨by rfl, ?_⟩; intro W' hSw; (try dsimp only at hSw); go_simp; try with_reducible rfl)); (try simp only [Act.put, List.setIfInBounds_toArray, List.set_cons_zero, List.set_cons_succ]))
      (refine wpAnyH_ready (rs := [2]) (by kernel_rfl) (by simp) ?_; refine' AllReadyH.cons (o := _) ?_ (fun K hK => ?_) AllReadyH.nil; rotate_left; (focus (first | (simp only [List.getElem?_toArray, List.getElem?_cons_succ, List.getElem?_cons_zero]; done) | (simp only [List.getElem?_toArray, List.getElem?_cons_succ, List.getElem?_cons_zero]; rfl))))
      go_simp
      refine hK.out _ _ ?_ (fun _ => ?_)
      · show (W2.setCell _ _).cell? _ = _
        rw [cell_away (by omega)]
        exact x7
      clear hK K
      (try simp only [Act.put, List.setIfInBounds_toArray, List.set_cons_zero, List.set_cons_succ])
      (refine wpAnyH_ready (rs := [3]) (by kernel_rfl) (by simp) ?_; refine' AllReadyH.cons (o := _) ?_ (fun K hK => ?_) AllReadyH.nil; rotate_left; (focus (first | (simp only [List.getElem?_toArray, List.getElem?_cons_succ, List.getElem?_cons_zero]; done) | (simp only [List.getElem?_toArray, List.getElem?_cons_succ, List.getElem?_cons_zero]; rfl))))
      go_simp
      refine hK.out _ _ ?_ (fun _ => ?_)
      · show ((W2.setCell _ _).setCell _ _).cell? _ = _
        rw [cell_away (by omega), cell_away (by omega)]
        exact x7
      clear hK K
      (try simp only [Act.put, List.setIfInBounds_toArray, List.set_cons_zero, List.set_cons_succ])
      refine wpAnyH_done (by kernel_rfl) ?_ _
      gi_wp2
      have hk : Keep (fun x => x = w.heap.size ∨ x = w.heap.size + 1) W2 (((W2.setCell ⟨w.heap.size, 0, none⟩ (.slice none 0 0)).setCell ⟨w.heap.size + 1, 0, none⟩ (.int .i64 er)).drew) := (Keep.setCell (Keep.setCell (Keep.refl _ W2) (.inr (.inl rfl)) _) (.inr (.inr rfl)) _).drew
      refine ⟨Same2.keep hk (by omega) (by omega) (by omega), er, HX.out, ?_, ?_, I2.out.2.2.2.2.2.2.2.trans hk (fun x hx h => by omega)⟩
      · show ((W2.setCell ⟨w.heap.size, 0, none⟩ (.slice none 0 0)).setCell ⟨w.heap.size + 1, 0, none⟩ (.int .i64 er)).heap[w.heap.size]? = _
        rw [Below.heap_setCell _ ⟨w.heap.size + 1, 0, none⟩ _ w.heap.size (by show w.heap.size ≠ w.heap.size + 1; omega), heap_setCell_same W2 w.heap.size 0 _ _ _ I2.out.2.2.2.2.2.1]
        rfl
      · show ((W2.setCell ⟨w.heap.size, 0, none⟩ (.slice none 0 0)).setCell ⟨w.heap.size + 1, 0, none⟩ (.int .i64 er)).heap[w.heap.size + 1]? = _
        rw [heap_setCell_same _ (w.heap.size + 1) 0 _ _ _ ((Below.heap_setCell _ ⟨w.heap.size, 0, none⟩ _ (w.heap.size + 1) (by show w.heap.size + 1 ≠ w.heap.size; omega)).trans I2.out.2.2.2.2.2.2.1)]
        rfl
theorem fget_any (b : List UInt8) (v : Value) (F : Nat → Prop) (w : World) (hv : By w F v b) (hn : b.length ≤ 1000000000) : Calls Try.prog 34 #[v] w (GfPost w (getFr b)) := by
  by_cases h5 : b.length < 5
  · exact fget_short b v F w hv h5
  by_cases hs : getZ b ((b.length : Int) - 4) 4 = (crcOf (inB b) : Nat)
  · by_cases h64 : 64 < byteZ (inB b) 0
    · exact fget_many b v F w hv (by omega) hn hs h64
    · exact fget_rest b v F w hv (by omega) hn hs h64
  · exact fget_sum b v F w hv (by omega) hn hs
end Go.Proofs.Ytfjgbnnjfapcmaa

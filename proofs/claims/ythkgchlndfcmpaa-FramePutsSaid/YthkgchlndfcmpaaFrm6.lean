/- Contracts of frame.each and of the iterator that it makes. -/
import Derived.Test.YthkgchlndfcmpaaFrm3
import Derived.Test.YthkgchlndfcmpaaRng
namespace Go.Proofs.Ythkgchlndfcmpaa
open Go.RowKit Go.Shelf
attribute [local go_sem] Oper.semAt_some
set_option maxRecDepth 100000
set_option linter.unusedVariables false
set_option linter.unusedSimpArgs false

theorem each_any (A : Option Addr) (m c : Nat) (a n : Int) (w : World) :
    Calls Try.prog 103 #[.slice A m c, .int .i64 a, .int .i64 n] w fun e w' => e = .returned (.func (.func 124) #[] #[.pointer (some ⟨w.heap.size + 2, 0, none⟩), .pointer (some ⟨w.heap.size, 0, none⟩), .pointer (some ⟨w.heap.size + 1, 0, none⟩)]) ∧
      w' = ((w.alloc (.cells #[.slice A m c] 37)).alloc (.cells #[.int .i64 a] 3)).alloc (.cells #[.int .i64 n] 3) := by
  go_enter Try.func103, Try.ntmps103
  go_wp2
  go_ret
  exact ⟨rfl, rfl⟩
/-- Where the iterator stands: rounds, place, what came, the last error. -/
abbrev ESt := Nat × Int × List Cmd × Int
/-- What it hands out: the command, its data's slice, the next place, the error. -/
abbrev EX := Cmd × Value × Int × Int
def exV (x : EX) : Array Value := #[.agg #[.int .i64 x.1.do_, .bool x.1.loc, .int .i64 x.1.idx, .int .i64 x.1.gen, .int .i64 x.1.comp, x.2.1, .int .i64 x.2.2.1, .int .i64 x.2.2.2]]
def exNext (s : ESt) (x : EX) : ESt := (s.1 + 1, x.2.2.1, s.2.2.1 ++ [x.1], x.2.2.2)
def exHx (b : List UInt8) (M nn : Nat) (s : ESt) (x : EX) (W0 W : World) : Prop := s.1 < nn ∧ ∃ a : Nat, s.2.1 = a ∧ a ≤ b.length ∧ getP b a = (x.1, x.2.2.1, x.2.2.2) ∧ (By W (fun k => W0.heap.size ≤ k) x.2.1 x.1.l ∧ M ≤ W0.heap.size) ∧ ∃ A c, x.2.1 = .slice A x.1.l.length c
def exKp (n0 pn pb p : Nat) (W W' : World) : Prop := Keep (fun k => n0 ≤ k ∧ k ≠ pn ∧ k ≠ pb ∧ k ≠ p) W W'
/-- Where the loop stands. -/
def exL (b : List UInt8) (F : Nat → Prop) (v : Value) (M pb p : Nat) (J : ESt → World → Prop) (k a : Nat) (acc : List Cmd) (wr : World) : Prop :=
  J (k, (a : Int), acc, 0) wr ∧ wr.heap[pb]? = some (.cells #[v] 37 (0, 0)) ∧ wr.heap[p]? = some (.cells #[.int .i64 (a : Nat)] 3 (0, 0)) ∧ By wr F v b ∧ M ≤ wr.heap.size
theorem cell1_of {w : World} {p : Nat} {t : TypeId} {v : Value} (h : w.heap[p]? = some (.cells #[v] t (0, 0))) : w.cell? ⟨p, 0, none⟩ = some v ∧ w.frozen? ⟨p, 0, none⟩ = false :=
  ⟨by rw [cell_of_row w p 0 _ _ _ h]; rfl, frozen_of_row w p 0 _ _ h⟩
def exPost (nn : Nat) (J : ESt → World → Prop) (Jx : World → Prop) (e : Ending) (W' : World) : Prop := (∃ v, e = .returned v) ∧ ((∃ s : ESt, (s.1 = nn ∨ s.2.2.2 ≠ 0) ∧ J s W') ∨ Jx W')
set_option maxHeartbeats 8000000 in
theorem each1_any (b : List UInt8) (n0 pn pb p M nn l : Nat) (v : Value) (W : World) (J : ESt → World → Prop) (Jx : World → Prop) (hv : By W (fun k => k < n0) v b) (hn : b.length ≤ 1000000000) (hd : n0 ≤ pn ∧ n0 ≤ pb ∧ n0 ≤ p ∧ pn ≠ pb ∧ pn ≠ p ∧ pb ≠ p) (hM : M ≤ W.heap.size)
    (h1 : W.heap[pn]? = some (.cells #[.int .i64 (nn : Nat)] 3 (0, 0))) (h2 : W.heap[pb]? = some (.cells #[v] 37 (0, 0))) (h3 : W.heap[p]? = some (.cells #[.int .i64 1] 3 (0, 0))) (hb1 : 1 ≤ b.length) (hnn : nn ≤ 1000)
    (hJ : ∀ s A B, J s A → Keep (fun r => r = p) A B → J s B) (hJx : ∀ A B, Jx A → Keep (fun r => r = p) A B → Jx B)
    (hY : ∀ s x W0 W1, J s W0 → Keep (fun _ => False) W0 W1 → exHx b M nn s x W0 W1 → YieldAt Fence.wide 3 Try.prog l (exV x) W1 fun e W' => (e = .returned (.bool true) ∧ J (exNext s x) W' ∧ exKp n0 pn pb p W1 W') ∨ (e = .returned (.bool false) ∧ Jx W'))
    (h0 : J (0, 1, [], 0) W) :
    Calls Try.prog 124 #[.func (.yield l) #[] #[], .pointer (some ⟨pn, 0, none⟩), .pointer (some ⟨pb, 0, none⟩), .pointer (some ⟨p, 0, none⟩)] W (exPost nn J Jx) := by
  obtain ⟨A, c, rfl, -⟩ := id hv
  have HY := Lib.hid hY
  have HJ := Lib.hid hJ
  have HJX := Lib.hid hJx
  have GT := Lib.hid (fun W1 (a : Nat) (ha : a ≤ b.length) (hv : By W1 (fun k => k < n0) (.slice A b.length c) b) => cget_any b _ _ (a : Int) W1 hv (by omega) (by omega) (by omega))
  have HD := Lib.hid hd
  have NX := Lib.hid (show ∀ a : Nat, (getP b (a : Int)).2.2 = 0 → ∃ k : Nat, (getP b (a : Int)).2.1 = k ∧ a ≤ k ∧ k ≤ b.length from fun a h => by rw [getP_refP] at h ⊢; exact readN_next h)
  have L0 := Lib.hid (show exL b (fun k => k < n0) (.slice A b.length c) M pb p J 0 1 [] W from ⟨h0, h2, h3, hv, hM⟩)
  have HP := Lib.hid (show ∀ a : Nat, a ≤ b.length → ∃ y nx er, getP b (a : Int) = (y, nx, er) from fun a _ => ⟨_, _, _, rfl⟩)
  have hnn2 : (nn : Int) ≤ 1000 := by omega
  obtain ⟨cn, -⟩ := cell1_of h1
  clear hv hY hJ hJx hd h0 h1 h2 h3 hM
  generalize hm : b.length = m at *
  have HB := Lib.hid hm
  clear hm
  go_enter Try.func124, Try.ntmps124
  go_wp2
  go_loopw [9] (fun i wr => ∃ (k a : Nat) (acc : List Cmd), i = .int .i64 k ∧ k ≤ nn ∧ a ≤ m ∧ Hid (exL b (fun k => k < n0) (.slice A m c) M pb p J k a acc wr)) (fun i _ => nn - (intOf i).toNat)
  case atStart => exact ⟨0, 1, [], rfl, Nat.zero_le _, hb1, L0⟩
  case round =>
    obtain ⟨k, a, acc, rfl, hk, ham, ht⟩ := hrel
    clear cn
    by_cases hlt : k < nn
    · have hi : (k : Int) < (nn : Int) := by omega
      obtain ⟨cb, -⟩ := cell1_of ht.out.2.1
      obtain ⟨ca, -⟩ := cell1_of ht.out.2.2.1
      have K1 := GT.out wr a ham ht.out.2.2.2.1
      obtain ⟨y, nx, er, hg⟩ := HP.out a ham
      have HG := Lib.hid hg
      have NX1 := NX.out a
      rw [hg] at K1 NX1
      have HN := Lib.hid NX1
      unfold GetPost cmdV at K1
      clear hg NX1
      go_wp2_with fail
      with_reducible refine K1.mono ?_
      rintro e w1 ⟨A1, n1, c1, rfl, hy, hb⟩
      have en : n1 = y.l.length := by obtain ⟨_, _, e2, _⟩ := id hy; injection e2
      subst en
      have KB := Lib.hid (Keep.of_below' hb)
      have HYB := Lib.hid hy
      clear K1 hb hy cb ca
      go_upto_region 3 with fail
      refine wp_world (S := fun Z => Z.heap[w1.heap.size]? = some (.cells #[.int .i64 y.do_, .bool y.loc, .int .i64 y.idx, .int .i64 y.gen, .int .i64 y.comp, .slice A1 y.l.length c1] 39 (0, 0)) ∧ Keep (fun _ => False) w1 Z) ⟨heap_alloc_new w1 _, (Keep.refl _ w1).alloc _⟩ ?_
      intro Z hZ
      have HZ := Lib.hid hZ
      clear hZ
      have KZ := Lib.hid (KB.out.trans HZ.out.2 (fun _ _ h => h))
      have hsz := KZ.out.size
      obtain ⟨fn, tmps, assign, body, hyy, hR⟩ := HY.out (k, (a : Int), acc, 0) (y, .slice A1 y.l.length c1, nx, er) wr Z ht.out.1 KZ.out
        ⟨hlt, a, rfl, by rw [HB.out]; exact ham, HG.out, ⟨HYB.out.keep HZ.out.2 (fun _ _ _ h => h), ht.out.2.2.2.2⟩, A1, c1, rfl⟩
      dsimp only [exV] at hyy
      have P2 := Lib.hid ((KZ.out.block pb (Array.getElem?_eq_some_iff.1 ht.out.2.1).1 (fun h => h)).trans ht.out.2.1)
      have P3 := Lib.hid ((KZ.out.block p (Array.getElem?_eq_some_iff.1 ht.out.2.2.1).1 (fun h => h)).trans ht.out.2.2.1)
      have BZ := Lib.hid (ht.out.2.2.2.1.keep KZ.out (fun _ _ _ h => h))
      have hMz : M ≤ Z.heap.size := by have := ht.out.2.2.2.2; omega
      obtain ⟨x0, x1, x2, x3, x4, x5, xf⟩ := cells6 HZ.out.1
      clear ht GT KB HYB hsz
      refine (wpIn_wide (n := 4)).1 ?_
      gi_wp2
      refine hR.mono ?_
      rintro e W3 (⟨rfl, hJ3, hk3⟩ | ⟨rfl, hJx3⟩)
      · have Q2 := Lib.hid ((hk3.block pb (Array.getElem?_eq_some_iff.1 P2.out).1 (fun h => h.2.2.1 rfl)).trans P2.out)
        have Q3 := Lib.hid ((hk3.block p (Array.getElem?_eq_some_iff.1 P3.out).1 (fun h => h.2.2.2 rfl)).trans P3.out)
        have B3 := Lib.hid (BZ.out.keep hk3 (fun b' _ h h2 => by omega))
        have hM3 : M ≤ W3.heap.size := Nat.le_trans hMz hk3.size
        have J3 := Lib.hid hJ3
        clear hk3 hJ3 hR hyy x0 x1 x2 x3 x4 x5 xf P2 P3 BZ
        by_cases he : er = 0
        · have e2 : (er != 0) = false := by simp [he]
          obtain ⟨j, hj, hj1, hj2⟩ := HN.out he
          have hj : nx = (j : Int) := hj
          subst hj
          obtain ⟨ca, cf⟩ := cell1_of Q3.out
          subst he
          gi_wp2
          go_wp2
          go_roundw
          case rel =>
            have hk4 : Keep (fun r => r = p) W3 (W3.setCell ⟨p, 0, none⟩ (.int .i64 (j : Int))) := Keep.setCell (S := fun r => r = p) (p := ⟨p, 0, none⟩) (Keep.refl _ W3) (.inr rfl) _
            refine ⟨k + 1, j, acc ++ [y], by first | rfl | go_num, by omega, hj2, Lib.hid ⟨HJ.out _ _ _ J3.out hk4, ?_, ?_, B3.out.keep hk4 (fun b' _ h h2 => by have := HD.out; omega), Nat.le_trans hM3 hk4.size⟩⟩
            · exact (hk4.block pb (Array.getElem?_eq_some_iff.1 Q2.out).1 (fun h => by have := HD.out; omega)).trans Q2.out
            · rw [heap_setCell_same W3 p 0 _ _ _ Q3.out]; rfl
          case measure => simp [intOf]; omega
        · have e2 : (er != 0) = true := by simp [he]
          have HE := Lib.hid he
          clear he
          gi_wp2
          go_wp2
          go_end0
          exact ⟨⟨_, rfl⟩, .inl ⟨_, .inr HE.out, J3.out⟩⟩
      · have J3 := Lib.hid hJx3
        clear hJx3 hR hyy
        gi_wp2
        go_wp2
        go_end0
        exact ⟨⟨_, rfl⟩, .inr J3.out⟩
    · have hi : ¬ (k : Int) < (nn : Int) := by omega
      have hkn : k = nn := by omega
      have HK := Lib.hid hkn
      clear hkn
      go_wp2
      go_end0
      exact ⟨⟨_, rfl⟩, .inl ⟨_, .inl HK.out, ht.out.1⟩⟩
end Go.Proofs.Ythkgchlndfcmpaa

/- Contracts of vivariumref03.Same, seal.Tear, vivariumref03.Tear. -/
import Derived.Test.YtfjgbnnjfapcmaaSeal4
import Derived.Test.YtfjgbnnjfapcmaaPart1
namespace Go.Proofs.Ytfjgbnnjfapcmaa
open Go.RowKit
set_option maxRecDepth 100000
set_option linter.unusedVariables false

def sameS (x y : SV) : Bool := decide (x.ep = y.ep) && (decide (x.no = y.no) && (decide (x.kd = y.kd) && decide (x.bd = y.bd)))
theorem sameS_iff {x y : SV} : sameS x y = true ↔ x = y := by
  unfold sameS
  rw [Bool.and_eq_true, Bool.and_eq_true, Bool.and_eq_true, decide_eq_true_iff, decide_eq_true_iff, decide_eq_true_iff, decide_eq_true_iff]
  constructor
  · rintro ⟨h1, h2, h3, h4⟩
    cases x; cases y; simp_all
  · rintro rfl; exact ⟨rfl, rfl, rfl, rfl⟩
theorem sameS_self (x : SV) : sameS x x = true := sameS_iff.2 rfl
set_option maxHeartbeats 2000000 in
theorem rsameS_any (x y : SV) (u v : Value) (F G : Nat → Prop) (w : World) (hu : By w F u x.bd) (hv : By w G v y.bd) :
    Calls Try.prog 15 #[.agg #[.int .i64 x.ep, .int .i64 x.no, .int .i64 x.kd, u], .agg #[.int .i64 y.ep, .int .i64 y.no, .int .i64 y.kd, v]] w fun e w' => e = .returned (.bool (sameS x y)) ∧ Below w.heap.size w w' := by
  have SM := Lib.hid (fun W (hk : Keep (fun _ => False) w W) => same_any x.bd y.bd u v F G W (hu.keep hk (fun _ _ _ h => h)) (hv.keep hk (fun _ _ _ h => h)))
  have S := Lib.hid (show sameS x y = (decide (x.ep = y.ep) && (decide (x.no = y.no) && (decide (x.kd = y.kd) && decide (x.bd = y.bd)))) from rfl)
  obtain ⟨A, c, rfl, -⟩ := hu
  obtain ⟨B, d, rfl, -⟩ := hv
  obtain ⟨r, hr⟩ : ∃ r, r = decide (x.bd = y.bd) := ⟨_, rfl⟩
  rw [← hr] at SM S
  clear hr
  generalize sameS x y = q at *
  generalize x.bd.length = n1 at *
  generalize y.bd.length = n2 at *
  by_cases h1 : x.ep = y.ep
  · have e1 : (x.ep == y.ep) = true := by rw [beq_iff_eq]; exact h1
    rw [decide_eq_true h1, Bool.true_and] at S
    clear h1
    by_cases h2 : x.no = y.no
    · have e2 : (x.no == y.no) = true := by rw [beq_iff_eq]; exact h2
      rw [decide_eq_true h2, Bool.true_and] at S
      clear h2
      by_cases h3 : x.kd = y.kd
      · have e3 : (x.kd == y.kd) = true := by rw [beq_iff_eq]; exact h3
        rw [decide_eq_true h3, Bool.true_and] at S
        obtain rfl := S.out
        clear h3 S
        go_enter Try.func15, Try.ntmps15
        go_wp2_with fail
        refine (SM.out _ (by exact (by repeat first | exact Keep.refl _ _ | refine Keep.alloc ?_ _ | refine Keep.drew ?_ | refine Keep.drewN ?_ _))).mono ?_
        rintro e w1 ⟨rfl, rfl⟩
        go_wp2
        go_ret
        exact ⟨rfl, by exact (by repeat first | exact Below.refl _ _ | refine Below.setCell ?_ (by first | omega | (simp; done) | (simp; omega)) _ | refine Below.alloc ?_ (by first | omega | (simp; done) | (simp; omega)) _ | refine Below.drew ?_ | refine below_drewN ?_ _ | assumption)⟩
      · have e3 : (x.kd == y.kd) = false := by rw [beq_eq_false_iff_ne]; exact h3
        rw [decide_eq_false h3, Bool.false_and] at S
        obtain rfl := S.out
        clear h3 S
        go_enter Try.func15, Try.ntmps15
        go_wp2
        go_ret
        exact ⟨rfl, by exact (by repeat first | exact Below.refl _ _ | refine Below.setCell ?_ (by first | omega | (simp; done) | (simp; omega)) _ | refine Below.alloc ?_ (by first | omega | (simp; done) | (simp; omega)) _ | refine Below.drew ?_ | refine below_drewN ?_ _ | assumption)⟩
    · have e2 : (x.no == y.no) = false := by rw [beq_eq_false_iff_ne]; exact h2
      rw [decide_eq_false h2, Bool.false_and] at S
      obtain rfl := S.out
      clear h2 S
      go_enter Try.func15, Try.ntmps15
      go_wp2
      go_ret
      exact ⟨rfl, by exact (by repeat first | exact Below.refl _ _ | refine Below.setCell ?_ (by first | omega | (simp; done) | (simp; omega)) _ | refine Below.alloc ?_ (by first | omega | (simp; done) | (simp; omega)) _ | refine Below.drew ?_ | refine below_drewN ?_ _ | assumption)⟩
  · have e1 : (x.ep == y.ep) = false := by rw [beq_eq_false_iff_ne]; exact h1
    rw [decide_eq_false h1, Bool.false_and] at S
    obtain rfl := S.out
    clear h1 S
    go_enter Try.func15, Try.ntmps15
    go_wp2
    go_ret
    exact ⟨rfl, by exact (by repeat first | exact Below.refl _ _ | refine Below.setCell ?_ (by first | omega | (simp; done) | (simp; omega)) _ | refine Below.alloc ?_ (by first | omega | (simp; done) | (simp; omega)) _ | refine Below.drew ?_ | refine below_drewN ?_ _ | assumption)⟩

/-- What lies in a slice of the call's own behind a copy onto its middle. -/
theorem Own.laidAt {w w' : World} {base n c g off : Nat} {e : TypeId} {A : Option Addr} {xs cs : List Value} {cur : Array Value} (h : Own w base e 1 (.slice A n c) n xs) (hA : A = some ⟨g, 0, none⟩) (hg : w.heap[g]? = some (.cells cur e (0, 0))) (hn : 0 < n)
    (hl : Laid w w' g off cur cs) (ho : off + cs.length ≤ n) : Own w' base e 1 (.slice A n c) n (splice xs off cs) ∧ Keep (fun k => k = g) w w' := by
  have hb := hl.block hg
  obtain ⟨hlen, A', c', hv, hnc, hcm, hx⟩ := h
  injection hv with h1 h2 h3
  subst h1 h3
  obtain ⟨g', cur', hgg, hbase, hgg', hcs', htk⟩ := hx (by omega)
  rw [hA] at hgg
  injection hgg with hgg
  injection hgg with hgg
  subst hgg
  rw [hg] at hgg'
  injection hgg' with hgg'
  injection hgg' with hcur
  subst hcur
  have hz : cur.toList.length = cur.size := Array.length_toList
  have hlx : (splice xs off cs).length = xs.length := length_splice _ _ _ (by omega)
  refine ⟨⟨by rw [hlx]; exact hlen, _, c, rfl, hnc, hcm, fun _ => ⟨g, _, hA, hbase, hb, ?_, ?_⟩⟩, hl.keep⟩
  · rw [List.size_toArray, length_splice _ _ _ (by omega), hz, hcs']
  · rw [← htk]
    unfold splice
    rw [List.toList_toArray, Nat.mul_one]
    rw [List.take_append, List.length_take, List.take_append, List.take_take, List.take_take, List.drop_take]
    rw [Nat.min_eq_left (by omega : off ≤ cur.toList.length), List.take_of_length_le (l := cs) (by omega), Nat.min_eq_right (by omega : off ≤ n), Nat.min_eq_left (by omega : off ≤ n)]
    congr 3
    omega
theorem Own.blk {w : World} {base n c g : Nat} {e : TypeId} {xs : List Value} (h : Own w base e 1 (.slice (some ⟨g, 0, none⟩) n c) n xs) (hn : 0 < n) : ∃ cur : Array Value, w.heap[g]? = some (.cells cur e (0, 0)) ∧ cur.size = c ∧ n ≤ c := by
  obtain ⟨_, A', c', hv, hnc, hcm, hx⟩ := h
  injection hv with h1 h2 h3
  subst h1 h3
  obtain ⟨g', cur', hgg, _, hgg', hcs', _⟩ := hx (by omega)
  injection hgg with hgg
  injection hgg with hgg
  subst hgg
  exact ⟨cur', hgg', by omega, hnc⟩
theorem over_front {a b : List UInt8} {m : Nat} (hb : m ≤ b.length) : over a 0 (b.take m) = b.take m ++ a.drop m := by
  unfold over; rw [List.take_zero, List.nil_append, Nat.zero_add, List.length_take, Nat.min_eq_left hb]
theorem over_back {a b : List UInt8} {f : Nat} (hab : a.length = b.length) (hf : f ≤ b.length) : over a f (b.drop f) = a.take f ++ b.drop f := by
  unfold over; rw [List.length_drop, show f + (b.length - f) = a.length by omega, List.drop_length, List.append_nil]
theorem rcut512 (l : List UInt8) (v : Value) (F : Nat → Prop) (w : World) (hv : By w F v l) :
    Calls Try.prog 72 #[v, .int .i64 512] w fun e w' => ∃ A c, e = .returned (.slice A 512 c) ∧ Own w' w.heap.size 5 1 (.slice A 512 c) 512 (bv (cutB l 512)) ∧ Below w.heap.size w w' := by
  refine (refCut_any l v F 512 w hv).mono fun e w' ⟨u, he, ho, hb⟩ => ?_
  obtain ⟨A, c, rfl, _⟩ := ho.form
  exact ⟨A, c, he, ho, hb⟩
/-- Where Tear stands: both bytes cut. -/
def TearSt (w W : World) (ga gb ca cb : Nat) (a b : List UInt8) : Prop :=
  (Own W w.heap.size 5 1 (.slice (some ⟨ga, 0, none⟩) 512 ca) 512 (bv a) ∧ Own W w.heap.size 5 1 (.slice (some ⟨gb, 0, none⟩) 512 cb) 512 (bv b)) ∧ (ga ≠ gb ∧ w.heap.size ≤ ga ∧ w.heap.size ≤ gb) ∧ Below w.heap.size w W
theorem tear_zero {a b : List UInt8} (k : Int) : (tearB a b k).take 0 = [] := List.take_zero
theorem tear_word {a b : List UInt8} {k : Int} {j : Nat} (ha : a.length = 512) (hb : b.length = 512) (hj : j < 64) (l : List UInt8) (hl : l = if (0 < k ∧ (j : Int) < k) ∨ (k < 0 ∧ k ≤ (j : Int) - 64) then b else a) :
    (tearB a b k).take (8 * (j + 1)) = (tearB a b k).take (8 * j) ++ (l.drop (8 * j)).take 8 := by
  have ht := tearB_len k ha hb
  have e : (tearB a b k).drop (8 * j) = (tearB a b k).drop (8 * j) := rfl
  have key : ((tearB a b k).drop (8 * j)).take 8 = (l.drop (8 * j)).take 8 := by
    have hp : pieceOf (tearB a b k) (8 * j) 8 = pieceOf l (8 * j) 8 := by
      unfold tearB
      rcases (show 0 < k ∨ k = 0 ∨ k < 0 by omega) with h | h | h
      · rw [if_pos h]
        by_cases h2 : (j : Int) < k
        · rw [hl, if_pos (.inl ⟨h, h2⟩), piece_left (by omega) (by omega)]
        · rw [hl, if_neg (by omega), piece_right (by omega) (by omega)]
      · rw [if_neg (by omega), if_neg (by omega), hl, if_neg (by omega)]
      · rw [if_neg (by omega), if_pos h]
        by_cases h2 : k ≤ (j : Int) - 64
        · rw [hl, if_pos (.inr ⟨h, h2⟩), piece_right (by omega) (by omega)]
        · rw [hl, if_neg (by omega), piece_left (by omega) (by omega)]
    exact hp
  rw [show 8 * (j + 1) = 8 * j + 8 by omega, List.take_add, key]
set_option maxHeartbeats 4000000 in
theorem rtear_any (a b : List UInt8) (u v : Value) (F G : Nat → Prop) (k : Int) (w : World) (hu : By w F u a) (hv : By w G v b) (hk : -9223372036854775808 ≤ k ∧ k ≤ 9223372036854775807) :
    Calls Try.prog 51 #[u, v, .int .i64 k] w (ByPost w (tearB (cutB a 512) (cutB b 512) k)) := by
  have C1 := Lib.hid (rcut512 a u F w hu)
  have C2 := Lib.hid (fun W (hk : Keep (fun _ => False) w W) => rcut512 b v G W (hv.keep hk (fun _ _ _ h => h)))
  have la := cutB_len a 512
  have lb := cutB_len b 512
  obtain ⟨A, c, rfl, -⟩ := hu
  obtain ⟨B, d, rfl, -⟩ := hv
  generalize cutB a 512 = x at *
  generalize cutB b 512 = y at *
  have LX := Lib.hid (And.intro la lb)
  have TW := Lib.hid (fun j (hj : j < 64) l hl => tear_word (k := k) la lb hj l hl)
  have TL := Lib.hid (show (tearB x y k).take (8 * 64) = tearB x y k from List.take_of_length_le (by rw [tearB_len k la lb]; decide))
  have TN := Lib.hid (tearB_len k la lb)
  clear la lb
  generalize a.length = n1 at *
  generalize b.length = n2 at *
  go_enter Try.func51, Try.ntmps51
  go_wp2_with fail
  refine C1.out.mono ?_
  rintro e w1 ⟨A1, c1, rfl, ho1, hb1⟩
  obtain ⟨ga, rfl, hga, hga2, -, -, -⟩ := ho1.cells_ (by decide)
  have H1 := Lib.hid (And.intro ho1 hb1)
  clear ho1 hb1
  go_wp2_with fail
  refine (C2.out _ (Keep.of_below' H1.out.2)).mono ?_
  rintro e w2 ⟨A2, c2, rfl, ho2, hb2⟩
  obtain ⟨gb, rfl, hgb, hgb2, -, -, -⟩ := ho2.cells_ (by decide)
  have H2 := Lib.hid (show TearSt w w2 ga gb c1 c2 x y from ⟨⟨H1.out.1.keep (Keep.of_below' hb2) (fun _ _ h => h), ho2.mono H1.out.2.size⟩, ⟨by omega, hga, by have := H1.out.2.size; omega⟩, H1.out.2.trans (hb2.mono H1.out.2.size)⟩)
  have hc1 : 512 ≤ c1 := by obtain ⟨_, _, _, e, h, _⟩ := H2.out.1.1; injection e with e1 e2 e3; omega
  have hc2 : 512 ≤ c2 := by obtain ⟨_, _, _, e, h, _⟩ := H2.out.1.2; injection e with e1 e2 e3; omega
  clear ho2 hb2 H1 C1 C2 hga hga2 hgb hgb2
  have PX := Lib.hid (show ∀ j, j < 64 → By w2 (fun k => w.heap.size ≤ k) (.slice (some ⟨ga, 8 * j, none⟩) 8 (c1 - 8 * j)) ((x.drop (8 * j)).take 8) from fun j hj =>
    (sl_by H2.out.1.1.sl).piece (lo := 8 * j) (m := 8) (c' := c1 - 8 * j) (by rw [LX.out.1]; omega) (fun _ a ha => by injection ha with ha; subst ha; simp [Addr.add]) (by omega) (by obtain ⟨_, _, _, e, _, h, _⟩ := H2.out.1.1; injection e with e1 e2 e3; unfold maxLen at *; omega) (fun h => by cases h))
  have PY := Lib.hid (show ∀ j, j < 64 → By w2 (fun k => w.heap.size ≤ k) (.slice (some ⟨gb, 8 * j, none⟩) 8 (c2 - 8 * j)) ((y.drop (8 * j)).take 8) from fun j hj =>
    (sl_by H2.out.1.2.sl).piece (lo := 8 * j) (m := 8) (c' := c2 - 8 * j) (by rw [LX.out.2]; omega) (fun _ a ha => by injection ha with ha; subst ha; simp [Addr.add]) (by omega) (by obtain ⟨_, _, _, e, _, h, _⟩ := H2.out.1.2; injection e with e1 e2 e3; unfold maxLen at *; omega) (fun h => by cases h))
  go_wp2_with fail
  go_loopg [9, 10] 64 (fun g v i wr => ∃ j : Nat, g + j = 64 ∧ i = .int .i64 j ∧ (∃ A n c, v = .slice A n c) ∧ Hid (Ob wr w2.heap.size v ((tearB x y k).take (8 * j)) ∧ Below w2.heap.size w2 wr))
  case atStart => exact ⟨0, by omega, rfl, ⟨_, _, _, rfl⟩, Lib.hid ⟨Ob.nil _ _ _, Below.refl _ _⟩⟩
  case round =>
    obtain ⟨j, hj, rfl, ⟨A3, n3, c3, rfl⟩, hst⟩ := hrel
    have H3 := Lib.hid hst.out
    clear hst
    by_cases hj64 : j < 64
    · have f0 : (0 : Int) ≤ 8 * (j : Int) := by omega
      have f1 : 8 * (j : Int) ≤ 8 * (j : Int) + 8 := by omega
      have f2 : 8 * (j : Int) + 8 ≤ (c1 : Int) := by omega
      have f3 : 8 * (j : Int) + 8 ≤ (c2 : Int) := by omega
      have f4 : (8 * (j : Int)).toNat = 8 * j := by omega
      have f5 : (8 * (j : Int) + 8).toNat = 8 * j + 8 := by omega
      have f6 : ¬ c1 = 8 * j := by omega
      have f7 : ¬ c2 = 8 * j := by omega
      have hln : ((tearB x y k).take (8 * j)).length ≤ 512 := by rw [List.length_take]; omega
      have PXj := Lib.hid ((PX.out j hj64).below H3.out.2)
      have PYj := Lib.hid ((PY.out j hj64).below H3.out.2)
      have TWj := Lib.hid (TW.out j hj64)
      have HLN := Lib.hid (show ∀ l : List UInt8, ((tearB x y k).take (8 * j)).length + ((l.drop (8 * j)).take 8).length ≤ 140737488355328 from fun l => by have := List.length_take_le 8 (l.drop (8 * j)); omega)
      clear hln
      rcases (show (0 < k ∧ (j : Int) < k) ∨ (0 < k ∧ ¬ (j : Int) < k) ∨ k = 0 ∨ (k < 0 ∧ k ≤ (j : Int) - 64) ∨ (k < 0 ∧ ¬ k ≤ (j : Int) - 64) by omega) with ⟨h1, h2⟩ | ⟨h1, h2⟩ | rfl | ⟨h1, h2⟩ | ⟨h1, h2⟩
      · go_wp2_with (first | (at_builtin; go_loud (refine wpList_app rfl _ _ rfl w2.heap.size _ _ rfl H3.out.1 _ _ _ rfl PYj.out (HLN.out _) H3.out.2.size ?_)) | fail)
        intro A5 n5 c5 w5 ho hk5
        have H5 := Lib.hid (And.intro ho (H3.out.2.trans ((H3.out.1.keeps hk5).to_below H3.out.2.size)))
        clear ho hk5
        go_wp2
        go_roundg (gk - 1)
        case measure => omega
        case rel => exact ⟨j + 1, by omega, by go_num, ⟨_, _, _, rfl⟩, Lib.hid ⟨by rw [TWj.out y (by first | (rw [if_pos (by omega)]) | (rw [if_neg (by omega)]))]; exact H5.out.1, H5.out.2⟩⟩
      · have h9 : ¬ k < 0 := by omega
        go_wp2_with (first | (at_builtin; go_loud (refine wpList_app rfl _ _ rfl w2.heap.size _ _ rfl H3.out.1 _ _ _ rfl PXj.out (HLN.out _) H3.out.2.size ?_)) | fail)
        intro A5 n5 c5 w5 ho hk5
        have H5 := Lib.hid (And.intro ho (H3.out.2.trans ((H3.out.1.keeps hk5).to_below H3.out.2.size)))
        clear ho hk5
        go_wp2
        go_roundg (gk - 1)
        case measure => omega
        case rel => exact ⟨j + 1, by omega, by go_num, ⟨_, _, _, rfl⟩, Lib.hid ⟨by rw [TWj.out x (by first | (rw [if_pos (by omega)]) | (rw [if_neg (by omega)]))]; exact H5.out.1, H5.out.2⟩⟩
      · go_wp2_with (first | (at_builtin; go_loud (refine wpList_app rfl _ _ rfl w2.heap.size _ _ rfl H3.out.1 _ _ _ rfl PXj.out (HLN.out _) H3.out.2.size ?_)) | fail)
        intro A5 n5 c5 w5 ho hk5
        have H5 := Lib.hid (And.intro ho (H3.out.2.trans ((H3.out.1.keeps hk5).to_below H3.out.2.size)))
        clear ho hk5
        go_wp2
        go_roundg (gk - 1)
        case measure => omega
        case rel => exact ⟨j + 1, by omega, by go_num, ⟨_, _, _, rfl⟩, Lib.hid ⟨by rw [TWj.out x (by first | (rw [if_pos (by omega)]) | (rw [if_neg (by omega)]))]; exact H5.out.1, H5.out.2⟩⟩
      · have h9 : ¬ 0 < k := by omega
        go_wp2_with (first | (at_builtin; go_loud (refine wpList_app rfl _ _ rfl w2.heap.size _ _ rfl H3.out.1 _ _ _ rfl PYj.out (HLN.out _) H3.out.2.size ?_)) | fail)
        intro A5 n5 c5 w5 ho hk5
        have H5 := Lib.hid (And.intro ho (H3.out.2.trans ((H3.out.1.keeps hk5).to_below H3.out.2.size)))
        clear ho hk5
        go_wp2
        go_roundg (gk - 1)
        case measure => omega
        case rel => exact ⟨j + 1, by omega, by go_num, ⟨_, _, _, rfl⟩, Lib.hid ⟨by rw [TWj.out y (by first | (rw [if_pos (by omega)]) | (rw [if_neg (by omega)]))]; exact H5.out.1, H5.out.2⟩⟩
      · have h9 : ¬ 0 < k := by omega
        go_wp2_with (first | (at_builtin; go_loud (refine wpList_app rfl _ _ rfl w2.heap.size _ _ rfl H3.out.1 _ _ _ rfl PXj.out (HLN.out _) H3.out.2.size ?_)) | fail)
        intro A5 n5 c5 w5 ho hk5
        have H5 := Lib.hid (And.intro ho (H3.out.2.trans ((H3.out.1.keeps hk5).to_below H3.out.2.size)))
        clear ho hk5
        go_wp2
        go_roundg (gk - 1)
        case measure => omega
        case rel => exact ⟨j + 1, by omega, by go_num, ⟨_, _, _, rfl⟩, Lib.hid ⟨by rw [TWj.out x (by first | (rw [if_pos (by omega)]) | (rw [if_neg (by omega)]))]; exact H5.out.1, H5.out.2⟩⟩
    · obtain rfl : j = 64 := by omega
      go_wp2
      go_ret
      refine ⟨A3, n3, c3, rfl, ?_, H2.out.2.2.trans (H3.out.2.mono H2.out.2.2.size)⟩
      have := H3.out.1.by_
      rw [TL.out] at this
      exact this.mono (fun b _ h => by have := H2.out.2.2.size; omega)
end Go.Proofs.Ytfjgbnnjfapcmaa
namespace Go.Proofs.Ytfjgbnnjfapcmaa
open Go.RowKit
set_option maxRecDepth 100000
set_option linter.unusedVariables false

/-- A seal in a box of its own. -/
def Bx (W : World) (F : Nat → Prop) (p : Nat) (x : SV) (u : Value) : Prop := W.heap[p]? = some (.cells #[.int .i64 x.ep, .int .i64 x.no, .int .i64 x.kd, u] 33 (0, 0)) ∧ By W F u x.bd
section
variable {W W' : World} {F : Nat → Prop} {p : Nat} {x : SV} {u : Value}
theorem Bx.same (h : Bx W F p x u) (hk : Keep (fun _ => False) W W') : Bx W' F p x u := ⟨(hk.block p (Array.getElem?_eq_some_iff.1 h.1).1 (fun h => h)).trans h.1, h.2.keep hk (fun _ _ _ h => h)⟩
theorem Bx.new (h : By W F u x.bd) : Bx (W.alloc (.cells #[.int .i64 x.ep, .int .i64 x.no, .int .i64 x.kd, u] 33)) F W.heap.size x u := ⟨heap_alloc_new W _, h.keep ((Keep.refl (fun _ => False) W).alloc _) (fun _ _ _ h => h)⟩
theorem Bx.cells (h : Bx W F p x u) : W.cell? ⟨p, 0, none⟩ = some (.int .i64 x.ep) ∧ W.cell? ⟨p, 1, none⟩ = some (.int .i64 x.no) ∧ W.cell? ⟨p, 2, none⟩ = some (.int .i64 x.kd) ∧ W.cell? ⟨p, 3, none⟩ = some u := by
  obtain ⟨h0, h1, h2, h3, _⟩ := cells4 h.1
  exact ⟨h0, h1, h2, h3⟩
end
theorem By.same {W W' : World} {F : Nat → Prop} {v : Value} {l : List UInt8} (h : By W F v l) (hk : Keep (fun _ => False) W W') : By W' F v l := h.keep hk (fun _ _ _ h => h)
theorem K.to {w W W' : World} (h : Keep (fun _ => False) w W) (hb : Below W.heap.size W W') : Keep (fun _ => False) w W' := h.trans (Keep.of_below' hb) (fun _ _ h => h)
/-- The byte at a place of a word. -/
theorem byte_of_piece {s : List UInt8} {at_ n : Nat} {c : UInt8} {l : List UInt8} (h : pieceOf s at_ n = c :: l) (hs : at_ < s.length) : s.getD at_ 0 = c := by
  have h2 := congrArg (fun l => l[0]?) h
  unfold pieceOf at h2
  simp only [List.getElem?_cons_zero] at h2
  rw [List.getElem?_take] at h2
  split at h2
  · rw [List.getElem?_drop, Nat.add_zero] at h2
    rw [List.getD_eq_getElem?_getD, h2]; rfl
  · cases h2
def liveS : SV := ⟨3, 5, 0, []⟩
theorem live_bytes : (sealB liveS).getD 0 0 = 3 ∧ (sealB liveS).getD 504 0 = 3 ∧ (sealB liveS).getD 8 0 = 5 ∧ (sealB liveS).getD 496 0 = 5 := by
  have hl := sealB_len liveS
  have e3 : leB 3 8 = 3 :: [0, 0, 0, 0, 0, 0, 0] := by decide
  have e5 : leB 5 8 = 5 :: [0, 0, 0, 0, 0, 0, 0] := by decide
  refine ⟨byte_of_piece (s := sealB liveS) ((seal_front _ _ _ _).trans e3) (by rw [hl]; decide), byte_of_piece (s := sealB liveS) ((seal_last _ _ _ _).trans e3) (by rw [hl]; decide), byte_of_piece (s := sealB liveS) ((seal_no _ _ _ _).trans e5) (by rw [hl]; decide), byte_of_piece (s := sealB liveS) ((seal_back _ _ _ _).trans e5) (by rw [hl]; decide)⟩
end Go.Proofs.Ytfjgbnnjfapcmaa

/- Contract of vivariumref03.Get. -/
import Derived.Test.YtakchlaoimnnhaaSeal5
namespace Go.Proofs.Ytakchlaoimnnhaa
open Go.RowKit
set_option maxRecDepth 100000
set_option linter.unusedVariables false

/-- Where vivariumref03.Get stands behind the seal's making. -/
def RGet (w W : World) (q : Nat) (a b c : Int) (u : Value) (l : List UInt8) : Prop :=
  W.heap[w.heap.size]? = some (.cells #[.int .i64 0, .int .i64 0, .int .i64 0, .slice none 0 0] 50 (0, 0)) ∧
  W.heap[q]? = some (.cells #[.int .i64 a, .int .i64 b, .int .i64 c, u] 50 (0, 0)) ∧ w.heap.size < q ∧ By W (fun x => w.heap.size < x) u l ∧ Below w.heap.size w W
theorem RGet.mk_ {w W wf : World} {q : Nat} {a b c : Int} {u : Value} {l : List UInt8} (hW : W = w.alloc (.cells #[.int .i64 0, .int .i64 0, .int .i64 0, .slice none 0 0] 50)) (hk : Keep (fun _ => False) W wf)
    (hq : wf.heap[q]? = some (.cells #[.int .i64 a, .int .i64 b, .int .i64 c, u] 50 (0, 0))) (hq0 : W.heap.size ≤ q) (hb : By wf (fun x => W.heap.size ≤ x) u l) : RGet w wf q a b c u l := by
  have hs : W.heap.size = w.heap.size + 1 := by rw [hW]; simp
  have hB : Below w.heap.size w W := by rw [hW]; exact (Below.refl _ w).alloc (Nat.le_refl _) _
  refine ⟨(hk.block w.heap.size (by omega) (fun h => h)).trans ?_, hq, by omega, hb.mono (fun x _ h => by omega), hB.trans (hk.to_below'.mono (by omega))⟩
  rw [hW]; exact heap_alloc_new w _
theorem Keep.trans' {w w1 w2 : World} {q : Nat} (h : Keep (fun _ => False) w w1) (k : Keep (fun b => b = q) w1 w2) (hq : w.heap.size ≤ q) : Keep (fun _ => False) w w2 :=
  h.trans k (fun x hx e => by omega)
set_option maxHeartbeats 4000000 in
theorem refGetS_any (s : List UInt8) (v : Value) (F : Nat → Prop) (w : World) (hv : By w F v s) :
    Calls Try.prog 34 #[v] w (SealPost w (gotS s) (okS s)) := by
  by_cases hl : s.length = 512
  · have G1 := Lib.hid (fun W (hk : Keep (fun _ => False) w W) => refGet_any s v F 0 8 W (hv.keep hk (fun _ _ _ h => h)) (by omega) (by omega))
    have G2 := Lib.hid (fun W (hk : Keep (fun _ => False) w W) => refGet_any s v F 8 8 W (hv.keep hk (fun _ _ _ h => h)) (by omega) (by omega))
    have G3 := Lib.hid (fun W (hk : Keep (fun _ => False) w W) => refGet_any s v F 22 2 W (hv.keep hk (fun _ _ _ h => h)) (by omega) (by omega))
    have hkl := kindN_lt s
    have hll := longN_lt s
    have g1 := getZ_word (s := s) (at_ := 0) (by omega)
    have g2 := getZ_word (s := s) (at_ := 8) (by omega)
    have g3 : getZ s 22 2 = (longN s : Nat) ∧ getOk s 22 2 = true := by
      have ho : getOk s (22 : Nat) 2 = true := getOk_yes (by rw [hl]; decide)
      refine ⟨?_, ho⟩
      have : getZ s (22 : Nat) 2 = wrap64 (longN s : Nat) := by unfold getZ; rw [if_pos ho, Int.toNat_natCast]; rfl
      rw [wrap_small (by omega)] at this
      exact this
    rw [show ((0 : Nat) : Int) = 0 from rfl] at g1
    rw [show ((8 : Nat) : Int) = 8 from rfl] at g2
    rw [g1.1, g1.2] at G1
    rw [g2.1, g2.2] at G2
    rw [g3.1, g3.2] at G3
    have hkd : kindN s = (s.getD 20 0).toNat := by
      unfold kindN pieceOf
      have e : (s.drop 20).take 1 = [s.getD 20 0] := by
        rw [List.drop_eq_getElem_cons (by omega), List.take_succ_cons, List.take_zero, List.getD_eq_getElem?_getD, List.getElem?_eq_getElem (by omega)]; rfl
      rw [e]; simp [getN]
    clear g1 g2 g3
    obtain ⟨A, c, rfl, hlc, hcm, -, hrd⟩ := id hv
    rw [Nat.mul_one] at hrd
    obtain ⟨gb, go, rfl, -, hrc⟩ := hrd.at_ (k := 0) (by omega)
    have x20 : w.cell? ⟨gb, go + 20, none⟩ = some (.int .u8 (kindN s : Nat)) := by
      rw [hkd]; exact hrc 20 _ (bv_at (by omega)).1
    have hgb := World.block_lt_of_cell? w _ x20
    have BY1 := Lib.hid (show longN s ≤ 472 → ∀ W, Keep (fun _ => False) w W → By W F (.slice (some ⟨gb, go + 24, none⟩) (longN s) (c - 24)) (valOf s).bd ∧ (valOf s).bd.length = longN s from fun h W hk => by
      have := (hv.keep hk (fun _ _ _ h => h)).piece (A' := some ⟨gb, go + 24, none⟩) (lo := 24) (m := longN s) (c' := c - 24) (by omega) (fun _ a ha => by injection ha with ha; subst ha; simp [Addr.add]) (by omega) (by unfold maxLen at *; omega) (fun h => by cases h)
      have e : (valOf s).bd = (s.drop 24).take (longN s) := by show pieceOf s 24 (min (longN s) 472) = _; rw [Nat.min_eq_left h]; rfl
      rw [e]
      exact ⟨this, by rw [List.length_take, List.length_drop]; omega⟩)
    have OKN := Lib.hid (show 472 < longN s → okS s = false from fun h => by
      rw [Bool.eq_false_iff]
      intro hk
      have h2 := (okS_iff.1 hk).2
      have h3 : longN (sealB (valOf s)) = (bodyOf (valOf s).bd).length := by unfold longN sealB; rw [seal_long, getN_leB, Nat.mod_eq_of_lt (by have := bodyOf_len (valOf s).bd; omega)]
      rw [h2] at h3
      have := bodyOf_len (valOf s).bd
      omega)
    have OKS := Lib.hid (show okS s = decide (sealB (valOf s) = s) by unfold okS; rw [decide_eq_true hl, Bool.true_and])
    have GT := Lib.hid (show gotS s = if okS s = true then valOf s else zeroS from rfl)
    have PA := Lib.hid (fun W u G (h : By W G u (valOf s).bd) => refPut_any (valOf s) u G W h)
    have SM := Lib.hid (fun W a G (ha : By W G a (sealB (valOf s))) (hk : Keep (fun _ => False) w W) => same_any (sealB (valOf s)) s a _ G F W ha (hv.keep hk (fun _ _ _ h => h)))
    have VV := Lib.hid (show (valOf s).ep = wordZ s 0 ∧ (valOf s).no = wordZ s 8 ∧ (valOf s).kd = kindN s from ⟨rfl, rfl, rfl⟩)
    rw [VV.out.1, VV.out.2.1, VV.out.2.2] at PA
    rw [← OKS.out] at SM
    have BIG := Lib.hid (show 472 < longN s → okS s = false ∧ gotS s = zeroS from fun h => ⟨OKN.out h, by rw [GT.out, OKN.out h]; rfl⟩)
    have HV := Lib.hid hv
    clear hkd hrc hrd hv OKN
    generalize hsl : s.length = n at *
    subst hl
    have HSL := Lib.hid hsl
    clear hsl
    generalize valOf s = x at *
    generalize wordZ s 0 = z0 at *
    generalize wordZ s 8 = z8 at *
    generalize kindN s = kk at *
    generalize longN s = ll at *
    generalize okS s = ok at *
    generalize gotS s = gs at *
    have hc512 : (512 : Int) ≤ (c : Int) := by omega
    by_cases hbig : 472 < ll
    · obtain ⟨e1, e2⟩ := BIG.out hbig
      subst e1 e2
      clear BIG GT OKS SM PA BY1
      go_enter Try.func34, Try.ntmps34
      go_wp2_with fail
      refine (G1.out _ (by exact (by repeat first | exact Keep.refl _ _ | refine Keep.alloc ?_ _ | refine Keep.drew ?_ | refine Keep.drewN ?_ _))).mono ?_
      rintro e w1 ⟨rfl, rfl⟩
      go_wp2_with fail
      refine (G2.out _ (by exact (by repeat first | exact Keep.refl _ _ | refine Keep.alloc ?_ _ | refine Keep.drew ?_ | refine Keep.drewN ?_ _))).mono ?_
      rintro e w1 ⟨rfl, rfl⟩
      go_wp2_with fail
      refine (G3.out _ (by exact (by repeat first | exact Keep.refl _ _ | refine Keep.alloc ?_ _ | refine Keep.drew ?_ | refine Keep.drewN ?_ _))).mono ?_
      rintro e w1 ⟨rfl, rfl⟩
      go_wp2
      exact bodyPost_ret (results_seal rfl _ _ w.heap.size _ _ _ _ rfl (heap_alloc_new w _) _ rfl) rfl ⟨none, 0, 0, rfl, By.nil _ _, by exact (by repeat first | exact Below.refl _ _ | refine Below.setCell ?_ (by first | omega | (simp; done) | (simp; omega)) _ | refine Below.alloc ?_ (by first | omega | (simp; done) | (simp; omega)) _ | refine Below.drew ?_ | refine below_drewN ?_ _ | assumption)⟩
    · have hll' : ll ≤ 472 := by omega
      have B1 := Lib.hid (BY1.out hll')
      have HLX := Lib.hid (show ([] : List UInt8).length + x.bd.length ≤ 140737488355328 by rw [(B1.out w (Keep.refl _ _)).2]; simp; omega)
      have f1 : IntKind.i64.wrap (24 + (ll : Int)) = 24 + (ll : Int) := IntWalk.i64_in _ (by omega)
      have f2 : (24 + (ll : Int)).toNat = 24 + ll := by omega
      have f3 : (24 : Int) ≤ 24 + (ll : Int) := by omega
      have f4 : 24 + (ll : Int) ≤ (c : Int) := by omega
      have f5 : (0 : Int) ≤ 24 + (ll : Int) := by omega
      have f6 : ¬ c = 24 := by omega
      have f7 : IntKind.i64.wrap (kk : Int) = (kk : Int) := IntWalk.i64_in _ (by omega)
      clear BIG BY1
      go_enter Try.func34, Try.ntmps34
      go_wp2_with fail
      refine (G1.out _ (by exact (by repeat first | exact Keep.refl _ _ | refine Keep.alloc ?_ _ | refine Keep.drew ?_ | refine Keep.drewN ?_ _))).mono ?_
      rintro e w1 ⟨rfl, rfl⟩
      go_wp2_with fail
      refine (G2.out _ (by exact (by repeat first | exact Keep.refl _ _ | refine Keep.alloc ?_ _ | refine Keep.drew ?_ | refine Keep.drewN ?_ _))).mono ?_
      rintro e w1 ⟨rfl, rfl⟩
      go_wp2_with fail
      refine (G3.out _ (by exact (by repeat first | exact Keep.refl _ _ | refine Keep.alloc ?_ _ | refine Keep.drew ?_ | refine Keep.drewN ?_ _))).mono ?_
      rintro e w1 ⟨rfl, rfl⟩
      go_upto_region 8 with fail
      obtain ⟨W, hW⟩ : ∃ W, W = w.alloc (.cells #[.int .i64 0, .int .i64 0, .int .i64 0, .slice none 0 0] 50) := ⟨_, rfl⟩
      have xW : W.cell? ⟨gb, go + 20, none⟩ = some (.int .u8 (kk : Nat)) := by rw [hW]; exact ((Keep.refl (fun _ => False) w).alloc _).cell (fun h => h) x20
      rw [← hW]
      have HW := Lib.hid hW
      clear hW x20
      go_cut [10] (fun s10 wx => ∃ q A' n' c', s10 = .pointer (some ⟨q, 0, none⟩) ∧ Hid (RGet w wx q z0 z8 kk (.slice A' n' c') x.bd))
      case first =>
        have CX := Lib.hid (show ∀ W', Keep (fun _ => False) W W' → W'.cell? ⟨gb, go + 20, none⟩ = some (.int .u8 (kk : Nat)) ∧ Keep (fun _ => False) W W' from fun W' hk => ⟨hk.cell (fun h => h) xW, hk⟩)
        have B2 := Lib.hid (fun W' (hk : Keep (fun _ => False) W W') => (B1.out W' ((HW.out ▸ (Keep.refl (fun _ => False) w).alloc _ : Keep (fun _ => False) w W).trans hk (fun _ _ h => h))).1)
        go_region_held3 (fun W' => W'.cell? ⟨gb, go + 20, none⟩ = some (.int .u8 (kk : Nat)) ∧ Keep (fun _ => False) W W') (exact CX.out _ (by exact (by repeat first | assumption | exact Keep.refl _ _ | refine Keep.alloc ?_ _ | refine Keep.drew ?_ | refine Keep.drewN ?_ _ | refine Keep.setCell ?_ (.inl (by first | omega | (simp; done) | (simp; omega))) _))) (first
          | (go_loud (refine step_app (by rfl) _ _ rfl _ _ [] (by rfl) (Ob.nil _ _ _) _ _ _ (by rfl) (B2.out _ (by exact (by repeat first | assumption | exact Keep.refl _ _ | refine Keep.alloc ?_ _ | refine Keep.drew ?_ | refine Keep.drewN ?_ _ | refine Keep.setCell ?_ (.inl (by first | omega | (simp; done) | (simp; omega))) _))) HLX.out (Nat.le_refl _) ?_); intro A5 n5 c5 w5 ho5 hk5; have hk5' : Keep (fun _ => False) W w5 := Keep.trans (by exact (by repeat first | assumption | exact Keep.refl _ _ | refine Keep.alloc ?_ _ | refine Keep.drew ?_ | refine Keep.drewN ?_ _ | refine Keep.setCell ?_ (.inl (by first | omega | (simp; done) | (simp; omega))) _)) (hk5.mono (T := fun _ => False) (fun k _ e => by simp [ownB] at e)) (fun _ _ h => h); have hsz5 := hk5'.size; have hk5z := hk5.mono (T := fun _ => False) (fun k _ e => by simp [ownB] at e); (first | (have hq : w5.heap[W.heap.size]? = some (Obj.cells #[.int .i64 0, .int .i64 0, .int .i64 0, .slice none 0 0] 50 (0, 0)) := ?_; rotate_left; (focus (refine (hk5z.block (W.heap.size) ?_ (fun h => h)).trans ?_; (focus first | (simp; done) | (simp; omega)); (focus (((try simp only [heap_drew']); (try simp only [World.heap_drewN]); repeat (first | (refine heap_alloc_at _ _ _ ?_; first | rfl | (simp; done)) | (refine (Below.heap_alloc _ _ _ ?_).trans ?_; (focus first | (simp; done) | (simp; omega))))); done)))); obtain ⟨y0, y1, y2, y3, yf⟩ := cells4 hq; have HQ := Lib.hid hq; clear hq) | skip); (first | (have hq : w5.heap[W.heap.size + 1]? = some (Obj.cells #[.int .i64 0, .int .i64 0, .int .i64 0, .slice none 0 0] 50 (0, 0)) := ?_; rotate_left; (focus (refine (hk5z.block (W.heap.size + 1) ?_ (fun h => h)).trans ?_; (focus first | (simp; done) | (simp; omega)); (focus (((try simp only [heap_drew']); (try simp only [World.heap_drewN]); repeat (first | (refine heap_alloc_at _ _ _ ?_; first | rfl | (simp; done)) | (refine (Below.heap_alloc _ _ _ ?_).trans ?_; (focus first | (simp; done) | (simp; omega))))); done)))); obtain ⟨y0, y1, y2, y3, yf⟩ := cells4 hq; have HQ := Lib.hid hq; clear hq) | skip); clear hk5z; have HO5 := Lib.hid (And.intro ho5.by_ hk5'); clear ho5 hk5)
          | fail)
        · go_wp2_with fail
          go_meet
          exact ⟨_, _, _, _, rfl, Lib.hid (RGet.mk_ HW.out (HO5.out.2.alloc _) (heap_alloc_new w5 _) hsz5 ((HO5.out.1.keep ((Keep.refl (fun _ => False) w5).alloc _) (fun _ _ _ h => h)).mono (fun b _ h => by simp at h; omega)))⟩
        all_goals
          go_wp2_with fail
          go_meet
          refine ⟨_, _, _, _, rfl, Lib.hid (RGet.mk_ HW.out ?_ (stored4 HQ.out _ _ _ _) (by omega) ((HO5.out.1.keep (keepS4 _ _ _ _ _ _) (fun b _ h e => by simp at h; omega)).mono (fun b _ h => by simp at h; omega)))⟩
          exact HO5.out.2.trans' (keepS4 _ _ _ _ _ _) (by omega)
      case rest =>
        obtain ⟨q, A', n', c', rfl, hst⟩ := hcut
        have H1 := Lib.hid hst.out
        obtain ⟨x0, x1, x2, x3, xf⟩ := cells4 H1.out.2.1
        have PA1 := Lib.hid (PA.out wc _ _ H1.out.2.2.2.1)
        clear hst f1 f2 f3 f4 f5 f6 f7 B1 HLX xW
        go_wp2_with fail
        refine PA1.out.mono ?_
        rintro e w7 ⟨A7, n7, c7, rfl, hy7, hb7⟩
        have H7 := Lib.hid (And.intro hy7 (And.intro hb7 ((Keep.of_below' H1.out.2.2.2.2).trans (Keep.of_below' hb7) (fun _ _ h => h))))
        have SM7 := Lib.hid (SM.out w7 _ _ hy7 H7.out.2.2)
        clear hy7 hb7 x0 x1 x2 x3 xf
        go_wp2_with fail
        refine SM7.out.mono ?_
        rintro e w8 ⟨rfl, rfl⟩
        obtain ⟨x0, x1, x2, x3, xf⟩ := cells4 ((H7.out.2.1.block q (Array.getElem?_eq_some_iff.1 H1.out.2.1).1).trans H1.out.2.1)
        have hr7 := (H7.out.2.1.block w.heap.size (Array.getElem?_eq_some_iff.1 H1.out.1).1).trans H1.out.1
        obtain ⟨r0, r1, r2, r3, rf⟩ := cells4 hr7
        have HR := Lib.hid hr7
        clear hr7
        cases ok
        · go_wp2
          refine bodyPost_ret (results_seal rfl _ _ w.heap.size _ _ _ _ rfl (stored4 HR.out _ _ _ _) _ rfl) rfl ?_
          rw [GT.out, if_neg (by simp)]
          exact ⟨none, 0, 0, rfl, By.nil _ _, (((Keep.of_below H1.out.2.2.2.2).trans (Keep.of_below' H7.out.2.1) (fun _ _ h => h.elim)).trans (keepS4 _ _ _ _ _ _) (fun x _ e => by omega)).to_below (Nat.le_refl _)⟩
        · go_wp2
          refine bodyPost_ret (results_seal rfl _ _ w.heap.size _ _ _ _ rfl (stored4 HR.out _ _ _ _) _ rfl) rfl ?_
          rw [GT.out, if_pos trivial]
          refine ⟨A', n', c', ?_, ((H1.out.2.2.2.1.below H7.out.2.1).keep (keepS4 _ _ _ _ _ _) (fun b _ h e => by omega)).mono (fun b _ h => by omega), (((Keep.of_below H1.out.2.2.2.2).trans (Keep.of_below' H7.out.2.1) (fun _ _ h => h.elim)).trans (keepS4 _ _ _ _ _ _) (fun x _ e => by omega)).to_below (Nat.le_refl _)⟩
          rw [VV.out.1, VV.out.2.1, VV.out.2.2]
          rfl
  · have e1 : okS s = false := by rw [Bool.eq_false_iff]; intro h; exact hl (okS_iff.1 h).1
    have e2 : gotS s = zeroS := by unfold gotS; rw [e1]; rfl
    have hl' : ((s.length : Int) != 512) = true := by simp; omega
    rw [e1, e2]
    obtain ⟨A, c, rfl, -⟩ := hv
    clear hl e1 e2
    generalize s.length = n at *
    go_enter Try.func34, Try.ntmps34
    go_wp2
    exact bodyPost_ret (results_seal rfl _ _ w.heap.size _ _ _ _ rfl (heap_alloc_new w _) _ rfl) rfl ⟨none, 0, 0, rfl, By.nil _ _, by exact (by repeat first | exact Below.refl _ _ | refine Below.setCell ?_ (by first | omega | (simp; done) | (simp; omega)) _ | refine Below.alloc ?_ (by first | omega | (simp; done) | (simp; omega)) _ | refine Below.drew ?_ | refine below_drewN ?_ _ | assumption)⟩
end Go.Proofs.Ytakchlaoimnnhaa

/- Contract of vivariumref03.Put. -/
import Derived.Test.YtakchlaoimnnhaaSeal4
import Derived.Test.YtakchlaoimnnhaaOb
namespace Go.Proofs.Ytakchlaoimnnhaa
open Go.RowKit
set_option maxRecDepth 100000
set_option linter.unusedVariables false

theorem rnear48 (z : Int) (w : World) : Calls Try.prog 74 #[.int .i64 z, .int .i64 281474976710656] w fun e w' => e = .returned (.int .i64 (nearN z 281474976710656 : Nat)) ∧ w = w' := refNear_any z 281474976710656 (by decide) w
theorem rnear255 (z : Int) (w : World) : Calls Try.prog 74 #[.int .i64 z, .int .i64 255] w fun e w' => e = .returned (.int .i64 (nearN z 255 : Nat)) ∧ w = w' := refNear_any z 255 (by decide) w
theorem refCut472 (l : List UInt8) (v : Value) (F : Nat → Prop) (w : World) (hv : By w F v l) :
    Calls Try.prog 75 #[v, .int .i64 472] w (ObPost w (cutB l 472)) := by
  refine (refCut_any l v F 472 w hv).mono fun e w' ⟨u, he, ho, hb⟩ => ?_
  obtain ⟨A, c, rfl, _⟩ := ho.form
  exact ⟨A, _, c, he, ⟨_, ho⟩, hb⟩
/-- Two rows of bytes of the call's own: one done, in blocks below H, one that grows. -/
def FR (wc W : World) (H : Nat) (vf vr : Value) (lf lr : List UInt8) : Prop :=
  (Ob W wc.heap.size vf lf ∧ ∀ k, ownB vf = some k → k < H) ∧ Ob W H vr lr ∧ (wc.heap.size ≤ H ∧ H ≤ W.heap.size) ∧ Below wc.heap.size wc W
section
variable {wc W W' : World} {H : Nat} {vf vr vr' : Value} {lf lr lr' : List UInt8}
theorem FR.below (h : FR wc W H vf vr lf lr) (hb : Below W.heap.size W W') : FR wc W' H vf vr lf lr :=
  ⟨⟨h.1.1.same (Keep.of_below' hb), h.1.2⟩, h.2.1.same (Keep.of_below' hb), ⟨h.2.2.1.1, Nat.le_trans h.2.2.1.2 hb.size⟩, h.2.2.2.trans (hb.mono h.2.2.2.size)⟩
theorem FR.alloc (h : FR wc W H vf vr lf lr) (o : Obj) : FR wc (W.alloc o) H vf vr lf lr := h.below ((Below.refl _ W).alloc (Nat.le_refl _) o)
theorem FR.app (h : FR wc W H vf vr lf lr) (ho : Ob W' H vr' lr') (hk : Keep (fun k => ownB vr = some k) W W') : FR wc W' H vf vr' lf lr' :=
  ⟨⟨h.1.1.keep hk (fun k e _ _ e2 => by have := h.1.2 k e; have := (h.2.1.ownB_ k e2).1; omega), h.1.2⟩, ho, ⟨h.2.2.1.1, Nat.le_trans h.2.2.1.2 hk.size⟩, h.2.2.2.trans (((h.2.1.keeps hk).mono (T := fun k => wc.heap.size ≤ k) (fun k _ e => by have := h.2.2.1.1; omega)).to_below h.2.2.2.size)⟩
theorem FR.first (h1 : Ob W wc.heap.size vf lf) (hb : Below wc.heap.size wc W) (h2 : Ob W' W.heap.size vr lr) (hb2 : Below W.heap.size W W') : FR wc W' W.heap.size vf vr lf lr :=
  ⟨⟨h1.same (Keep.of_below' hb2), fun k e => (h1.ownB_ k e).2⟩, h2, ⟨hb.size, hb2.size⟩, hb.trans (hb2.mono hb.size)⟩
end
/-- A seal's box has been laid. -/
def BoxSt (w W : World) (x : SV) (u : Value) : Prop := W.heap[w.heap.size]? = some (.cells #[.int .i64 x.ep, .int .i64 x.no, .int .i64 x.kd, u] 50 (0, 0)) ∧ Below w.heap.size w W
set_option maxHeartbeats 4000000 in
theorem refPut_any (x : SV) (u : Value) (F : Nat → Prop) (w : World) (hb : By w F u x.bd) :
    Calls Try.prog 32 #[.agg #[.int .i64 x.ep, .int .i64 x.no, .int .i64 x.kd, u]] w (ByPost w (sealB x)) := by
  have N1 := Lib.hid (rnear48 x.ep)
  have N2 := Lib.hid (rnear48 x.no)
  have N3 := Lib.hid (rnear255 x.kd)
  have SB := Lib.hid (show sealB x = (frontB (nearN x.ep 281474976710656) (nearN x.no 281474976710656) ++ leB (crcOf (frontB (nearN x.ep 281474976710656) (nearN x.no 281474976710656) ++ restB (nearN x.ep 281474976710656) (nearN x.no 281474976710656) (nearN x.kd 255) (bodyOf x.bd))) 4) ++ restB (nearN x.ep 281474976710656) (nearN x.no 281474976710656) (nearN x.kd 255) (bodyOf x.bd) by
    unfold sealB seal0 sumB frontB restB; simp only [List.append_assoc])
  have he := nearN_le x.ep 281474976710656
  have hn := nearN_le x.no 281474976710656
  have hk := nearN_le x.kd 255
  have hl := bodyOf_len x.bd
  obtain ⟨A, c, rfl, hlc, hcm, hnil, -⟩ := id hb
  have B1 := Lib.hid (show x.bd.length ≤ 472 → By w F (.slice A x.bd.length c) (bodyOf x.bd) ∧ x.bd.length = (bodyOf x.bd).length from fun h => by
    have e : bodyOf x.bd = x.bd := List.take_of_length_le h
    rw [e]; exact ⟨hb, rfl⟩)
  have B2 := Lib.hid (show 472 < x.bd.length → By w F (.slice A 472 c) (bodyOf x.bd) ∧ 472 = (bodyOf x.bd).length from fun h => by
    refine ⟨?_, by unfold bodyOf; rw [List.length_take]; omega⟩
    have := hb.piece (A' := A) (lo := 0) (m := 472) (c' := c) (by omega) (fun _ a ha => by rw [ha]; simp [Addr.add]) (by omega) hcm hnil
    rwa [List.drop_zero] at this)
  clear hnil hb
  generalize nearN x.ep 281474976710656 = ee at *
  generalize nearN x.no 281474976710656 = nn at *
  generalize nearN x.kd 255 = kk at *
  generalize bodyOf x.bd = b at *
  generalize hL : x.bd.length = L at *
  clear hL
  go_enter Try.func32, Try.ntmps32
  go_wp2_with fail
  refine wp_world (S := fun W => BoxSt w W x (.slice A L c)) ⟨heap_alloc_new w _, by exact (by repeat first | exact Below.refl _ _ | refine Below.setCell ?_ (by first | omega | (simp; done) | (simp; omega)) _ | refine Below.alloc ?_ (by first | omega | (simp; done) | (simp; omega)) _ | refine Below.drew ?_ | refine below_drewN ?_ _ | assumption)⟩ ?_
  intro W1 h1
  obtain ⟨x0, x1, x2, x3, xf⟩ := cells4 h1.1
  have H1 := Lib.hid h1
  clear h1
  generalize hp : w.heap.size = p at *
  go_quiet (first
    | (go_at_call 74; (with_reducible exact quiet_same (N1.out _)))
    | (go_at_call 74; (with_reducible exact quiet_same (N2.out _))))
  go_upto_if 19 with fail
  go_cut [5] (fun s5 wx => ∃ A' n' c', s5 = .slice A' n' c' ∧ Hid (By wx F (.slice A' n' c') b ∧ n' = b.length) ∧ Hid (BoxSt w wx x (.slice A L c)))
  case first =>
    have KK := Lib.hid (fun A n (h : By w F (.slice A n c) b) => (h.below H1.out.2).drewN nq)
    by_cases hbig : L ≤ 472
    · go_wp2_with fail
      go_meet
      exact ⟨A, L, c, rfl, Lib.hid ⟨KK.out _ _ (B1.out hbig).1, (B1.out hbig).2⟩, Lib.hid ⟨H1.out.1, below_drewN H1.out.2 nq⟩⟩
    · go_wp2_with fail
      go_meet
      exact ⟨A, 472, c, rfl, Lib.hid ⟨KK.out _ _ (B2.out (by omega)).1, (B2.out (by omega)).2⟩, Lib.hid ⟨H1.out.1, below_drewN H1.out.2 nq⟩⟩
  case rest =>
    obtain ⟨A', n', c', rfl, hby, h1⟩ := hcut
    obtain ⟨hby, rfl⟩ := hby.out
    have BY := Lib.hid hby
    have H1 := Lib.hid h1.out
    subst hp
    clear hby x0 x1 x2 x3 xf B1 B2 N1 N2 hlc h1
    go_wp2_with fail
    refine (refNumO 8 _ 8 ee rfl rfl (by omega) (by omega) _).mono ?_
    rintro e w1 ⟨a1, n1, c1, rfl, ho1, hb1⟩
    have G1 := Lib.hid (And.intro ho1 hb1)
    clear ho1 hb1
    go_wp2_with fail
    refine (refNumO 8 _ 8 nn rfl rfl (by omega) (by omega) _).mono ?_
    rintro e w2 ⟨a2, n2, c2, rfl, ho2, hb2⟩
    have G2 := Lib.hid (And.intro (G1.out.1.same (Keep.of_below' hb2)) (And.intro ho2.by_ (G1.out.2.trans (hb2.mono G1.out.2.size))))
    clear ho2 hb2 G1
    go_wp2_with (first | (refine wpList_app rfl _ _ rfl wc.heap.size _ _ rfl G2.out.1 _ _ _ rfl G2.out.2.1 (by rw [leB_len, leB_len]; decide) G2.out.2.2.size ?_) | fail)
    intro a3 n3 c3 w3 ho3 hk3
    have G3 := Lib.hid (show Ob w3 wc.heap.size (.slice a3 n3 c3) (frontB ee nn) ∧ Below wc.heap.size wc w3 from ⟨ho3, G2.out.2.2.trans ((G2.out.1.keeps hk3).to_below G2.out.2.2.size)⟩)
    clear ho3 hk3 G2
    obtain ⟨x0, x1, x2, x3, -⟩ := cells4 ((G3.out.2.block _ (Array.getElem?_eq_some_iff.1 H1.out.1).1).trans H1.out.1)
    go_wp2_with fail
    refine (N3.out _).mono ?_
    rintro e w4 ⟨rfl, rfl⟩
    go_wp2_with fail
    refine (refNumO 1 _ 1 kk rfl rfl (by omega) (by omega) _).mono ?_
    rintro e w4 ⟨a4, n4, c4, rfl, ho4, hb4⟩
    have G4 := Lib.hid (FR.first G3.out.1 G3.out.2 ho4 hb4)
    clear ho4 hb4 G3 x0 x1 x2 x3
    generalize w3.heap.size = H at *
    go_wp2_with (first | (refine wpList_app rfl _ _ rfl H _ _ rfl (G4.out.alloc _).2.1 _ _ _ rfl (By.byte _ 0 0 rfl) (by rw [leB_len]; decide) ((G4.out.alloc _).2.2.1.2) ?_) | fail)
    intro a5 n5 c5 w5 ho5 hk5
    have G5 := Lib.hid ((G4.out.alloc _).app ho5 hk5)
    clear ho5 hk5 G4
    go_wp2_with fail
    refine (refNumO 2 _ 2 b.length rfl rfl (by omega) (by omega) _).mono ?_
    rintro e w6 ⟨a6, n6, c6, rfl, ho, hb⟩
    have Y := Lib.hid ho.by_
    have G6 := Lib.hid (G5.out.below hb)
    clear ho hb G5
    go_wp2_with (first | (refine wpList_app rfl _ _ rfl H _ _ rfl G6.out.2.1 _ _ _ rfl Y.out (by simp only [List.length_append, leB_len, List.length_cons, List.length_nil]; omega) G6.out.2.2.1.2 ?_) | fail)
    intro a7 n7 c7 w7 ho hk
    have G7 := Lib.hid (G6.out.app ho hk)
    clear ho hk Y G6
    have BY7 := Lib.hid (BY.out.below (G7.out.2.2.2.mono (Nat.le_refl _)))
    go_wp2_with fail
    refine (refCut472 b _ F _ BY7.out).mono ?_
    rintro e w8 ⟨a8, n8, c8, rfl, ho, hb⟩
    have Y := Lib.hid ho.by_
    have G8 := Lib.hid (G7.out.below hb)
    clear ho hb G7 BY7
    go_wp2_with (first | (refine wpList_app rfl _ _ rfl H _ _ rfl G8.out.2.1 _ _ _ rfl Y.out (by simp only [List.length_append, leB_len, cutB_len, List.length_cons]; omega) G8.out.2.2.1.2 ?_) | fail)
    intro a9 n9 c9 w9 ho hk
    have G9 := Lib.hid (G8.out.app ho hk)
    clear ho hk Y G8
    go_wp2_with fail
    refine (refNumO 8 _ 8 nn rfl rfl (by omega) (by omega) _).mono ?_
    rintro e w10 ⟨a10, n10, c10, rfl, ho, hb⟩
    have Y := Lib.hid ho.by_
    have G10 := Lib.hid (G9.out.below hb)
    clear ho hb G9
    go_wp2_with (first | (refine wpList_app rfl _ _ rfl H _ _ rfl G10.out.2.1 _ _ _ rfl Y.out (by simp only [List.length_append, leB_len, cutB_len, List.length_cons]; omega) G10.out.2.2.1.2 ?_) | fail)
    intro a11 n11 c11 w11 ho hk
    have G11 := Lib.hid (G10.out.app ho hk)
    clear ho hk Y G10
    go_wp2_with fail
    refine (refNumO 8 _ 8 ee rfl rfl (by omega) (by omega) _).mono ?_
    rintro e w12 ⟨a12, n12, c12, rfl, ho, hb⟩
    have Y := Lib.hid ho.by_
    have G12 := Lib.hid (G11.out.below hb)
    clear ho hb G11
    go_wp2_with (first | (refine wpList_app rfl _ _ rfl H _ _ rfl G12.out.2.1 _ _ _ rfl Y.out (by simp only [List.length_append, leB_len, cutB_len, List.length_cons]; omega) G12.out.2.2.1.2 ?_) | fail)
    intro a13 n13 c13 w13 ho hk
    have G13 := Lib.hid (G12.out.app ho hk)
    clear ho hk Y G12
    have G14 := Lib.hid (show FR wc w13 H (.slice a3 n3 c3) (.slice a13 n13 c13) (frontB ee nn) (restB ee nn kk b) from G13.out)
    have LF := Lib.hid (show (frontB ee nn).length = 16 by unfold frontB; rw [List.length_append, leB_len, leB_len])
    have LR := Lib.hid (show (restB ee nn kk b).length = 492 by unfold restB; simp [leB_len, cutB_len])
    clear G13
    generalize frontB ee nn = fr at *
    generalize restB ee nn kk b = re at *
    go_wp2_with (first | (refine wpList_app rfl _ _ rfl w13.heap.size _ [] rfl (Ob.nil _ _ _) _ _ _ rfl (G14.out.alloc _).1.1.by_ (by rw [LF.out]; decide) (by simp) ?_) | fail)
    intro a14 n14 c14 w14 ho hk
    have G15 := Lib.hid (show Ob w14 w13.heap.size (.slice a14 n14 c14) fr ∧ Below w13.heap.size w13 w14 from ⟨ho, ((Below.refl _ w13).alloc (Nat.le_refl _) _).trans ((hk.mono (T := fun k => w13.heap.size ≤ k) (fun k _ e => by simp [ownB] at e)).to_below (by simp))⟩)
    clear ho hk
    go_wp2_with (first | (refine wpList_app rfl _ _ rfl w13.heap.size _ _ rfl G15.out.1 _ _ _ rfl (G14.out.below G15.out.2).2.1.by_ (by rw [LF.out, LR.out]; decide) G15.out.2.size ?_) | fail)
    intro a15 n15 c15 w15 ho hk
    have G16 := Lib.hid (show Ob w15 w13.heap.size (.slice a15 n15 c15) (fr ++ re) ∧ Below w13.heap.size w13 w15 from ⟨ho, G15.out.2.trans ((G15.out.1.keeps hk).to_below G15.out.2.size)⟩)
    clear ho hk G15
    have hcl := crcOf_lt (fr ++ re)
    have CR := Lib.hid (rcrc (fr ++ re) _ _ w15 G16.out.1.by_)
    have G17 := Lib.hid (G14.out.below G16.out.2)
    clear G16 G14
    generalize hcs : crcOf (fr ++ re) = cs at *
    have HCS := Lib.hid hcs
    clear hcs
    go_wp2_with fail
    refine CR.out.mono ?_
    rintro e w16 ⟨rfl, rfl⟩
    go_wp2_with fail
    refine (refNumO 4 _ 4 cs rfl rfl (by omega) (by omega) _).mono ?_
    rintro e w16 ⟨a16, n16, c16, rfl, ho, hb⟩
    have Y := Lib.hid ho.by_
    have G18 := Lib.hid (G17.out.below hb)
    clear ho hb G17
    go_wp2_with (first | (refine wpList_app rfl _ _ rfl wc.heap.size _ _ rfl G18.out.1.1 _ _ _ rfl Y.out (by rw [LF.out, leB_len]; decide) G18.out.2.2.2.size ?_) | fail)
    intro a17 n17 c17 w17 ho hk
    have G19 := Lib.hid (show Ob w17 wc.heap.size (.slice a17 n17 c17) (fr ++ leB cs 4) ∧ Ob w17 H (.slice a13 n13 c13) re ∧ Below wc.heap.size wc w17 from
      ⟨ho, G18.out.2.1.keep hk (fun k _ h1 _ e => by have := G18.out.1.2 k e; omega), G18.out.2.2.2.trans ((G18.out.1.1.keeps hk).to_below G18.out.2.2.2.size)⟩)
    clear ho hk G18 Y
    go_wp2_with (first | (refine wpList_app rfl _ _ rfl wc.heap.size _ _ rfl G19.out.1 _ _ _ rfl G19.out.2.1.by_ (by rw [List.length_append, LF.out, leB_len, LR.out]; decide) G19.out.2.2.size ?_) | fail)
    intro a18 n18 c18 w18 ho hk
    have G20 := Lib.hid (show Ob w18 wc.heap.size (.slice a18 n18 c18) (fr ++ (leB cs 4 ++ re)) ∧ Below wc.heap.size wc w18 from ⟨ho, G19.out.2.2.trans ((G19.out.1.keeps hk).to_below G19.out.2.2.size)⟩)
    clear ho hk G19
    go_wp2
    go_ret
    refine ⟨a18, n18, c18, rfl, ?_, H1.out.2.trans (G20.out.2.mono H1.out.2.size)⟩
    rw [SB.out, List.append_assoc]
    exact G20.out.1.by_.mono (fun b _ h => by have := H1.out.2.size; omega)
end Go.Proofs.Ytakchlaoimnnhaa

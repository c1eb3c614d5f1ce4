/- Contract of vivariumref07.Bytes. Printed by gencompb.py. -/
import Derived.Test.YtakchlaoimnnhaaComp7
import Derived.Test.YtakchlaoimnnhaaOb
import Derived.Deep.RegionHeld3
import Derived.OwnWalk
namespace Go.Proofs.Ytakchlaoimnnhaa
open Go.RowKit
set_option maxRecDepth 100000
set_option linter.unusedVariables false
set_option linter.unusedSimpArgs false

theorem refTextO (s : ByteArray) (w : World) (hs : s.size ≤ 9223372036854775807) : Calls Try.prog 84 #[.string s] w (ObPost w (textB (sb s))) := by
  refine (refText_any s w hs).mono fun e w' ⟨u, he, ho, hb⟩ => ?_
  obtain ⟨A, c, rfl, _⟩ := ho.form
  exact ⟨A, _, c, he, ⟨_, ho⟩, hb⟩
/-- The layout's box and the bytes built so far. -/
def RCF (w : World) (F : Nat → Prop) (c : Cf) (u vb : Value) (l : List UInt8) (W : World) : Prop := BF w F c u W ∧ Ob W (w.heap.size + 1) vb l ∧ w.heap.size + 1 ≤ W.heap.size
section
variable {w W W' : World} {F : Nat → Prop} {c : Cf} {u vb vb' : Value} {l l' : List UInt8}
theorem BF.keep (h : BF w F c u W) (hF : ∀ b, F b → b < w.heap.size) {S : Nat → Prop} (hk : Keep S W W') (hs : ∀ x, S x → w.heap.size < x) : BF w F c u W' :=
  ⟨(hk.block _ (Array.getElem?_eq_some_iff.1 h.1).1 (fun hx => by have := hs _ hx; omega)).trans h.1, h.2.1.keep hk (fun b _ hb hS => by have := hs _ hS; have := hF b hb; omega), h.2.2.trans ((hk.mono (T := fun x => w.heap.size ≤ x) (fun x _ hS => by have := hs _ hS; omega)).to_below h.2.2.size)⟩
theorem RCF.below (h : RCF w F c u vb l W) (hF : ∀ b, F b → b < w.heap.size) (hb : Below W.heap.size W W') : RCF w F c u vb l W' :=
  ⟨h.1.keep hF (S := fun _ => False) (Keep.of_below' hb) (fun _ h => h.elim), h.2.1.same (Keep.of_below' hb), Nat.le_trans h.2.2 hb.size⟩
theorem RCF.app (h : RCF w F c u vb l W) (hF : ∀ b, F b → b < w.heap.size) (ho : Ob W' (w.heap.size + 1) vb' l') (hk : Keep (fun k => ownB vb = some k) W W') : RCF w F c u vb' l' W' :=
  ⟨h.1.keep hF hk (fun x e => by have := (h.2.1.ownB_ _ e).1; omega), ho, Nat.le_trans h.2.2 hk.size⟩
end
set_option maxHeartbeats 8000000 in
theorem rbytesF_any (c : Cf) (u : Value) (F : Nat → Prop) (w : World) (hu : CL w F u c.l) (h40 : c.l.length ≤ 1000) (hs : ∀ x ∈ c.l, x.nm.size ≤ 9223372036854775807) :
    Calls Try.prog 49 #[confV c u] w (BytesPost w (confB c)) := by
  have hu1 : CL w (fun b => F b ∧ b < w.heap.size) u c.l := by
    obtain ⟨A, cc, h1, h2, h3, h4, h5⟩ := hu
    exact ⟨A, cc, h1, h2, h3, h4.mono (fun b hb hF => ⟨hF, hb⟩), h5⟩
  have hFF := Lib.hid (show ∀ b, (fun b => F b ∧ b < w.heap.size) b → b < w.heap.size from fun b h => h.2)
  generalize (fun b => F b ∧ b < w.heap.size) = F at *
  have hu0 := hu1
  obtain ⟨A, cap, rfl, hnc, hcm, -⟩ := hu1
  clear hu
  obtain ⟨n, hn⟩ : ∃ n, n = c.l.length := ⟨_, rfl⟩
  have HN := Lib.hid hn
  have B0 := Lib.hid (BF.first hu0)
  have HS := Lib.hid (show ∀ k, k < n → (nmAt c.l k).size ≤ 9223372036854775807 from fun k hk => by
    have hx := List.getElem?_eq_getElem (l := c.l) (i := k) (by omega)
    rw [nmAt_of hx]
    exact hs _ (List.getElem_mem _))
  have CB := Lib.hid (show confB c = (((((leB (word c.log) 4 ++ leB (word c.pages) 4) ++ leB (word c.ents) 4) ++ leB (word c.gens) 4) ++ leB (word (n : Nat)) 1)) ++ compsB c.l n from by
    rw [hn]
    unfold confB
    show (numsB c 4 ++ _) ++ _ = _
    have e : numsB c 4 = ((leB (word c.log) 4 ++ leB (word c.pages) 4) ++ leB (word c.ents) 4) ++ leB (word c.gens) 4 := by
      show leB (word c.log) 4 ++ (leB (word c.pages) 4 ++ (leB (word c.ents) 4 ++ (leB (word c.gens) 4 ++ []))) = _
      simp only [List.append_assoc, List.append_nil]
    rw [e])
  unfold confV
  rw [← hn] at hnc hu0 B0 h40 ⊢
  rw [CB.out]
  clear hn hs CB
  obtain ⟨log, pages, ents, gens, l⟩ := c
  simp only at hnc hu0 B0 HN HS h40 ⊢
  go_enter Try.func49, Try.ntmps49
  go_upto_region 1 with fail
  refine wp_world (S := BF w F ⟨log, pages, ents, gens, l⟩ (.slice A n cap)) B0.out ?_
  intro X hX
  have HX := Lib.hid hX
  clear hX hu0 B0
  obtain ⟨x0, x1, x2, x3, x4, xf⟩ := cells5 HX.out.1
  have HXS := Lib.hid (show w.heap.size + 1 ≤ X.heap.size from (Array.getElem?_eq_some_iff.1 HX.out.1).1)
  have CE := Lib.hid (show ∀ W', Keep (fun _ => False) X W' → (W'.cell? ⟨w.heap.size, 0, none⟩ = some (.int .i64 log) ∧ W'.cell? ⟨w.heap.size, 1, none⟩ = some (.int .i64 pages) ∧ Keep (fun _ => False) X W') from fun W' hk => ⟨hk.cell (fun h => h) x0, hk.cell (fun h => h) x1, hk⟩)
  go_region_held3 (fun W' => W'.cell? ⟨w.heap.size, 0, none⟩ = some (.int .i64 log) ∧ W'.cell? ⟨w.heap.size, 1, none⟩ = some (.int .i64 pages) ∧ Keep (fun _ => False) X W') (exact CE.out _ (by exact (by repeat first | assumption | exact Keep.refl _ _ | refine Keep.alloc ?_ _ | refine Keep.drew ?_ | refine Keep.drewN ?_ _ | refine Keep.setCell ?_ (.inl (by first | omega | (simp; done) | (simp; omega))) _)))
    (first
      | (go_at_call 62; (with_reducible refine (refNumZ 4 log 4 rfl (by omega) _).mono ?_); rintro e w1 ⟨A1, n1, c1, rfl, ho1, hb1⟩; have hk1 : Keep (fun _ => False) X w1 := Keep.trans (T := fun _ => False) (by exact (by repeat first | assumption | exact Keep.refl _ _ | refine Keep.alloc ?_ _ | refine Keep.drew ?_ | refine Keep.drewN ?_ _ | refine Keep.setCell ?_ (.inl (by first | omega | (simp; done) | (simp; omega))) _)) (Keep.of_below' hb1) (fun _ _ h => h); have O1 := Lib.hid (show ∀ W', Keep (fun _ => False) w1 W' → Ob W' X.heap.size (.slice A1 n1 c1) (leB (word log) 4) from fun W' hk => Ob.same ho1 hk); clear ho1 hb1)
      | (go_at_call 62; (with_reducible refine (refNumZ 4 pages 4 rfl (by omega) _).mono ?_); rintro e w2 ⟨A2, n2, c2, rfl, ho2, hb2⟩; have hk12 : Keep (fun _ => False) w1 w2 := Keep.trans (T := fun _ => False) (by exact (by repeat first | assumption | exact Keep.refl _ _ | refine Keep.alloc ?_ _ | refine Keep.drew ?_ | refine Keep.drewN ?_ _ | refine Keep.setCell ?_ (.inl (by first | omega | (simp; done) | (simp; omega))) _)) (Keep.of_below' hb2) (fun _ _ h => h); have hk2 : Keep (fun _ => False) X w2 := hk1.trans hk12 (fun _ _ h => h); have Y2 := Lib.hid (show ∀ W', Keep (fun _ => False) w2 W' → By W' _ (.slice A2 n2 c2) (leB (word pages) 4) from fun W' hk => ho2.by_.keep hk (fun _ _ _ h => h)); clear ho2 hb2)
      | ((refine step_app (by rfl) _ _ rfl X.heap.size _ (leB (word log) 4) (by rfl) (by exact O1.out _ (by repeat first | assumption | exact Keep.refl _ _ | refine Keep.alloc ?_ _ | refine Keep.drew ?_ | refine Keep.drewN ?_ _ | refine Keep.setCell ?_ (.inl (by first | omega | (simp; done) | (simp; omega))) _)) _ _ (leB (word pages) 4) (by rfl) (by exact Y2.out _ (by repeat first | assumption | exact Keep.refl _ _ | refine Keep.alloc ?_ _ | refine Keep.drew ?_ | refine Keep.drewN ?_ _ | refine Keep.setCell ?_ (.inl (by first | omega | (simp; done) | (simp; omega))) _)) (by rw [leB_len, leB_len]; decide) (by exact Keep.size (by exact (by repeat first | assumption | exact Keep.refl _ _ | refine Keep.alloc ?_ _ | refine Keep.drew ?_ | refine Keep.drewN ?_ _ | refine Keep.setCell ?_ (.inl (by first | omega | (simp; done) | (simp; omega))) _) : Keep (fun _ => False) X _)) ?_); intro A3 n3 c3 w3 ho3 hk3; have hk3' : Keep (fun _ => False) X w3 := Keep.trans (show Keep (fun _ => False) X _ from (by repeat first | assumption | exact Keep.refl _ _ | refine Keep.alloc ?_ _ | refine Keep.drew ?_ | refine Keep.drewN ?_ _ | refine Keep.setCell ?_ (.inl (by first | omega | (simp; done) | (simp; omega))) _)) hk3 (fun k hk e => by have h1 := ((O1.out w1 (Keep.refl _ _)).ownB_ k e).1; omega); have H3 := Lib.hid (And.intro ho3 hk3'); clear ho3 hk3)
      | fail)
  have G1 := Lib.hid (show RCF w F ⟨log, pages, ents, gens, l⟩ (.slice A n cap) (.slice A3 n3 c3) (leB (word log) 4 ++ leB (word pages) 4) w3 from ⟨HX.out.keep hFF.out (S := fun _ => False) H3.out.2 (fun _ h => h.elim), H3.out.1.mono HXS.out, Nat.le_trans HXS.out H3.out.2.size⟩)
  clear hk3' H3 hk2 hk12 hk1 O1 Y2 CE HX x0 x1 x2 x3 x4 xf
  obtain ⟨x0, x1, x2, x3, x4, xf⟩ := cells5 G1.out.1.1
  go_wp2_with fail
  with_reducible refine (refNumZ 4 _ 4 rfl (by omega) _).mono ?_
  rintro e w20 ⟨a20, m20, d20, rfl, ho, hb⟩
  have G20 := Lib.hid (G1.out.below hFF.out hb)
  have Y := Lib.hid ho.by_
  clear ho hb x0 x1 x2 x3 x4 xf G1
  obtain ⟨x0, x1, x2, x3, x4, xf⟩ := cells5 G20.out.1.1
  go_wp2_with (first | (refine wpList_app rfl _ _ rfl (w.heap.size + 1) _ _ rfl G20.out.2.1 _ _ _ rfl Y.out (by simp only [List.length_append, leB_len]; omega) G20.out.2.2 ?_) | fail)
  intro a21 m21 d21 w21 ho hk
  have G21 := Lib.hid (G20.out.app hFF.out ho hk)
  clear ho hk Y x0 x1 x2 x3 x4 xf G20
  obtain ⟨x0, x1, x2, x3, x4, xf⟩ := cells5 G21.out.1.1
  go_wp2_with fail
  with_reducible refine (refNumZ 4 _ 4 rfl (by omega) _).mono ?_
  rintro e w30 ⟨a30, m30, d30, rfl, ho, hb⟩
  have G30 := Lib.hid (G21.out.below hFF.out hb)
  have Y := Lib.hid ho.by_
  clear ho hb x0 x1 x2 x3 x4 xf G21
  obtain ⟨x0, x1, x2, x3, x4, xf⟩ := cells5 G30.out.1.1
  go_wp2_with (first | (refine wpList_app rfl _ _ rfl (w.heap.size + 1) _ _ rfl G30.out.2.1 _ _ _ rfl Y.out (by simp only [List.length_append, leB_len]; omega) G30.out.2.2 ?_) | fail)
  intro a31 m31 d31 w31 ho hk
  have G31 := Lib.hid (G30.out.app hFF.out ho hk)
  clear ho hk Y x0 x1 x2 x3 x4 xf G30
  obtain ⟨x0, x1, x2, x3, x4, xf⟩ := cells5 G31.out.1.1
  go_wp2_with fail
  with_reducible refine (refNumZ 1 _ 1 rfl (by omega) _).mono ?_
  rintro e w40 ⟨a40, m40, d40, rfl, ho, hb⟩
  have G40 := Lib.hid (G31.out.below hFF.out hb)
  have Y := Lib.hid ho.by_
  clear ho hb x0 x1 x2 x3 x4 xf G31
  obtain ⟨x0, x1, x2, x3, x4, xf⟩ := cells5 G40.out.1.1
  go_wp2_with (first | (refine wpList_app rfl _ _ rfl (w.heap.size + 1) _ _ rfl G40.out.2.1 _ _ _ rfl Y.out (by simp only [List.length_append, leB_len]; omega) G40.out.2.2 ?_) | fail)
  intro a41 m41 d41 w41 ho hk
  have G41 := Lib.hid (G40.out.app hFF.out ho hk)
  clear ho hk Y x0 x1 x2 x3 x4 xf G40
  obtain ⟨x0, x1, x2, x3, x4, xf⟩ := cells5 G41.out.1.1
  obtain ⟨L0, hL0⟩ : ∃ L0, L0 = ((((leB (word log) 4 ++ leB (word pages) 4) ++ leB (word ents) 4) ++ leB (word gens) 4) ++ leB (word (n : Nat)) 1) := ⟨_, rfl⟩
  have LL := Lib.hid (show L0.length ≤ 24 by rw [hL0]; simp only [List.length_append, leB_len]; omega)
  have G := Lib.hid (show RCF w F ⟨log, pages, ents, gens, l⟩ (.slice A n cap) (.slice a41 m41 d41) L0 w41 from by rw [hL0]; exact G41.out)
  have HL0 := Lib.hid hL0
  clear hL0 x0 x1 x2 x3 x4 xf
  go_wp2
  go_loopw [3, 4] (fun t i wr => ∃ k : Nat, k ≤ n ∧ i = .int .i64 k ∧ (∃ A0 n0 c0, t = .slice A0 n0 c0 ∧ Hid (RCF w F ⟨log, pages, ents, gens, l⟩ (.slice A n cap) (.slice A0 n0 c0) (L0 ++ compsB l k) wr))) (fun _ i _ => n - (intOf i).toNat)
  case atStart => exact ⟨0, by omega, rfl, a41, m41, d41, rfl, Lib.hid (by rw [show L0 ++ compsB l 0 = L0 from List.append_nil _]; exact G.out)⟩
  case round =>
    obtain ⟨k, hk, rfl, A0, n0, c0, rfl, HG⟩ := hrel
    obtain ⟨x0, x1, x2, x3, x4, xf⟩ := cells5 HG.out.1.1
    by_cases hlt : k < n
    · have hi : (k : Int) < (n : Int) := by omega
      have h0 : (0 : Int) ≤ (k : Int) := by omega
      have CN := Lib.hid (compsB_next (l := l) (k := k) (by have := HN.out; omega))
      have CL1 := Lib.hid (show (L0 ++ compsB l k).length ≤ 65538024 by have := LL.out; have := compsB_len l k; rw [List.length_append]; omega)
      have HSK := HS.out k hlt
      obtain ⟨b, off, hAe, -, e1, e2⟩ := CL.at_ HG.out.1.2.1 hlt
      have CA := Lib.hid (show ∀ W', BF w F ⟨log, pages, ents, gens, l⟩ (.slice A n cap) W' → (W'.cell? ⟨b, off + k * 2, none⟩ = some (.string (nmAt l k)) ∧ W'.cell? ⟨b, off + k * 2 + 1, none⟩ = some (.int .i64 (szAt l k))) from fun W' h => by
        obtain ⟨b', off', e, -, f1, f2⟩ := CL.at_ h.2.1 hlt
        rw [hAe] at e
        injection e with e
        injection e with e3 e4 _
        subst e3 e4
        exact ⟨f1, f2⟩)
      generalize nmAt l k = nm at *
      generalize szAt l k = sz at *
      subst hAe
      have TL := Lib.hid (textB_len (sb nm))
      go_wp2_with fail
      with_reducible refine (refTextO nm _ HSK).mono ?_
      rintro e w50 ⟨a50, m50, d50, rfl, ho, hb⟩
      have G50 := Lib.hid (HG.out.below hFF.out hb)
      have Y := Lib.hid ho.by_
      clear ho hb x0 x1 x2 x3 x4 xf e1 e2 HG
      obtain ⟨x0, x1, x2, x3, x4, xf⟩ := cells5 G50.out.1.1
      obtain ⟨e1, e2⟩ := CA.out _ G50.out.1
      go_wp2_with (first | (refine wpList_app rfl _ _ rfl (w.heap.size + 1) _ _ rfl G50.out.2.1 _ _ _ rfl Y.out (by have := CL1.out; have := TL.out; omega) G50.out.2.2 ?_) | fail)
      intro a51 m51 d51 w51 ho hk51
      have G51 := Lib.hid (G50.out.app hFF.out ho hk51)
      clear ho hk51 Y x0 x1 x2 x3 x4 xf e1 e2 G50
      obtain ⟨x0, x1, x2, x3, x4, xf⟩ := cells5 G51.out.1.1
      obtain ⟨e1, e2⟩ := CA.out _ G51.out.1
      go_wp2_with fail
      with_reducible refine (refNumZ 1 _ 1 rfl (by omega) _).mono ?_
      rintro e w52 ⟨a52, m52, d52, rfl, ho, hb⟩
      have G52 := Lib.hid (G51.out.below hFF.out hb)
      have Y := Lib.hid ho.by_
      clear ho hb x0 x1 x2 x3 x4 xf e1 e2 G51
      obtain ⟨x0, x1, x2, x3, x4, xf⟩ := cells5 G52.out.1.1
      go_wp2_with (first | (refine wpList_app rfl _ _ rfl (w.heap.size + 1) _ _ rfl G52.out.2.1 _ _ _ rfl Y.out (by have := CL1.out; have := TL.out; simp only [List.length_append, leB_len] at *; omega) G52.out.2.2 ?_) | fail)
      intro a53 m53 d53 w53 ho hk53
      have G53 := Lib.hid (show RCF w F ⟨log, pages, ents, gens, l⟩ (.slice (some ⟨b, off, none⟩) n cap) (.slice a53 m53 d53) (L0 ++ compsB l (k + 1)) w53 from by
        have h := G52.out.app hFF.out ho hk53
        rw [CN.out]
        simp only [List.append_assoc] at h ⊢
        exact h)
      clear ho hk53 Y x0 x1 x2 x3 x4 xf G52
      go_wp2
      go_roundw
      case rel => exact ⟨k + 1, by omega, by go_num, a53, m53, d53, rfl, G53⟩
      case measure => simp [intOf]; omega
    · have hi : ¬ (k : Int) < (n : Int) := by omega
      obtain rfl : k = n := by omega
      go_wp2
      go_ret
      refine ⟨A0, n0, c0, rfl, ?_, HG.out.1.2.2⟩
      have hf := HG.out.2.1.by_.mono (G := fun b => w.heap.size ≤ b) (fun b _ h => by omega)
      rw [HL0.out] at hf
      simp only [List.append_assoc] at hf ⊢
      exact hf
end Go.Proofs.Ytakchlaoimnnhaa

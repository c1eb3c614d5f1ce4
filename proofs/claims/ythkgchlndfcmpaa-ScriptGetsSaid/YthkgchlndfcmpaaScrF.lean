/- Contract of script.Get. Printed by genscrf.py. -/
import Derived.Test.YthkgchlndfcmpaaScrE
import Derived.ScopeJumps
import Derived.OwnWalk
namespace Go.Proofs.Ythkgchlndfcmpaa
open Go.RowKit
set_option maxRecDepth 1000000
set_option linter.unusedVariables false
set_option linter.unusedSimpArgs false

theorem wp_skip_seq {P : Program} {a : Act} {w : World} {Q : Exit → Act → World → Prop} {X : Code} (h : X.wp P Q a w) : (Code.seq .skip X).wp P Q a w := by
  apply wp_seq_k
  intro K hK
  apply wp_skip
  exact hK _ _ h
theorem scope_jumps {P : Program} {a : Act} {w : World} {Q : Exit → Act → World → Prop} {c X : Code} (l : Nat) (J : Act → World → Prop) (μ : Act → World → Nat) (hf : findLabel c l = some (.seq .skip X))
    (pass : ∀ a w, J a w → X.wp P (Exit.jump l (fun a' w' => J a' w' ∧ μ a' w' < μ a w) Q) a w)
    (first : (∀ a w, J a w → X.wp P (Exit.jump l J Q) a w) → c.wp P (Exit.jump l J Q) a w) : (Code.scope c).wp P Q a w :=
  wp_scope_jumps l J μ hf (first fun a w h => wp_mono (pass a w h) fun e a' w' q => by
    cases e with
    | goto l' => exact ⟨q.1, q.2.1⟩
    | normal => exact q
    | exit id => exact q
    | ret => exact q
    | panic ch => exact q
    | outgrown => exact q) (fun a w h => wp_skip_seq (pass a w h))
/-- Acts and an error that a call hands back. -/
def GsPost (w : World) (r : List Ac × Int) (e : Ending) (w' : World) : Prop := ∃ A c, e = .returned (.tuple #[.slice A r.1.length c, .int .i64 r.2]) ∧ AS w' (fun _ => True) (.slice A r.1.length c) r.1 ∧ Below w.heap.size w w'
set_option maxHeartbeats 8000000 in
theorem sgets_any (b : List UInt8) (v : Value) (F : Nat → Prop) (w : World) (hv : By w F v b) (hn : b.length ≤ 1000000000) :
    Calls Try.prog 65 #[v] w (GsPost w (getsP b (b.length + 1) 0 [])) := by
  obtain ⟨i0, hi0, hz0, hz1, hz2⟩ := info_parts info_act
  have ON := Lib.hid (fun W (hk : Keep (fun _ => False) w W) (a : Nat) (ha : a < b.length) => sone_any b v F a W (hv.keep hk (fun _ _ _ h => h)) hn ha)
  have NX := Lib.hid (fun (a : Nat) (ha : a < b.length) (h : (oneP b a).2.2 = 0) => oneP_next ha h)
  have GE := Lib.hid (show ∀ (f a : Nat) acc, a = b.length → getsP b (f + 1) (a : Nat) acc = (acc, 0) from fun f a acc h => by
    rw [getsP, if_pos (by omega)])
  have GB := Lib.hid (show ∀ (f a : Nat) acc, a < b.length → (oneP b a).2.2 ≠ 0 → getsP b (f + 1) (a : Nat) acc = ([], (oneP b a).2.2) from fun f a acc h h2 => by
    rw [getsP, if_neg (by omega), Int.toNat_natCast, if_pos h2])
  have GN := Lib.hid (show ∀ (f a : Nat) acc, a < b.length → (oneP b a).2.2 = 0 → getsP b (f + 1) (a : Nat) acc = getsP b f (oneP b a).2.1 (acc ++ [(oneP b a).1]) from fun f a acc h h2 => by
    rw [getsP, if_neg (by omega), Int.toNat_natCast, if_neg (by simp [h2])])
  obtain ⟨r, hr⟩ : ∃ r, r = getsP b (b.length + 1) 0 [] := ⟨_, rfl⟩
  rw [← hr]
  have RR := Lib.hid hr
  obtain ⟨A, c, rfl, -, hcm, -⟩ := hv
  clear hr
  generalize b.length = n at *
  go_enter Try.func65, Try.ntmps65
  go_wp2
  refine scope_jumps 0 (fun a' w' => ∃ (a q f : Nat) (acc : List Ac) (Al : Option Addr) (cl : Nat) (u6 u7 u8 u9 u10 u11 u12 u13 u14 u15 u16 u17 u18 u19 u20 u21 u22 u23 u24 u25 u26 u27 u28 : Value), a' = { tmps := #[.slice A n c, undef, .slice none 0 0, .int .i64 0, .slice Al q cl, .int .i64 (a : Nat), u6, u7, u8, u9, u10, u11, u12, u13, u14, u15, u16, u17, u18, u19, u20, u21, u22, u23, u24, u25, u26, u27, u28], defers := [] } ∧ a ≤ n ∧ q ≤ a ∧ Hid (ActSt w.heap.size w' (.slice Al q cl) acc ∧ q = acc.length ∧ (n - a < f ∧ getsP b f (a : Nat) acc = r) ∧ Keep (fun _ => False) w w')) (fun a' _ => n - (intOf (a'.tmps.getD 5 undef)).toNat) rfl ?_ ?_
  · rintro a' w' ⟨a, q, f, acc, Al, cl, u6, u7, u8, u9, u10, u11, u12, u13, u14, u15, u16, u17, u18, u19, u20, u21, u22, u23, u24, u25, u26, u27, u28, rfl, han, hqa, ht⟩
    have hq9 : q ≤ 1000000000 := by omega
    obtain ⟨f, rfl⟩ : ∃ f', f = f' + 1 := ⟨f - 1, by have := ht.out.2.2.1.1; omega⟩
    by_cases hae : a = n
    · have e1 : ((a : Int) == (n : Int)) = true := by rw [beq_iff_eq]; omega
      have RE := Lib.hid (show r = (acc, 0) by rw [← ht.out.2.2.1.2]; exact GE.out f a acc hae)
      have NQ := Lib.hid ht.out.2.1
      clear hae
      go_wp2
      simp only [Exit.jump]
      go_ret2
      rw [RE.out]
      exact ⟨Al, cl, by rw [← NQ.out]; rfl, by rw [← NQ.out]; exact ht.out.1.as_, ht.out.2.2.2.to_below'⟩
    · have e1 : ((a : Int) == (n : Int)) = false := by rw [beq_eq_false_iff_ne]; omega
      have ha : a < n := by omega
      have K1 := ON.out _ ht.out.2.2.2 a ha
      have GB1 := Lib.hid (GB.out f a acc ha)
      have GN1 := Lib.hid (GN.out f a acc ha)
      have NX1 := Lib.hid (NX.out a ha)
      generalize oneP b a = one at *
      obtain ⟨x, nx, er⟩ := one
      unfold OPost actV at K1
      go_wp2_with fail
      with_reducible refine K1.mono ?_
      rintro e w1 ⟨A1, c1, A2, c2, A3, c3, rfl, hm, hb⟩
      have hs1 := hb.size
      have HM := Lib.hid (hm.mono (G := fun b => ownB (.slice Al q cl) ≠ some b) (fun b _ h e => by have := (ht.out.1.own_lt e).2; omega))
      have HA := Lib.hid (ht.out.1.same (Keep.of_below' hb))
      have KW := Lib.hid (ht.out.2.2.2.trans (Keep.of_below' hb) (fun _ _ h => h))
      have NQ := Lib.hid ht.out.2.1
      have RG := Lib.hid ht.out.2.2.1
      clear K1 hm hb hs1 ht
      go_upto_region 6 with fail
      refine wp_world (S := fun Z => Ax Z w1.heap.size x (.slice A1 x.c.l.length c1) (.slice A2 x.fa.length c2) (.slice A3 x.fu.length c3) ∧ Keep (fun _ => False) w1 Z) ⟨heap_alloc_new w1 _, (Keep.refl _ w1).alloc _⟩ ?_
      intro Z hZ
      have HZ := Lib.hid hZ
      clear hZ
      generalize w1.heap.size = P at *
      obtain ⟨x0, x1, x2, x3, x4, x5, x6, x7, x8, x9, x10, x11, xf⟩ := cells12 HZ.out.1
      by_cases he : er = 0
      · have e2 : (er != 0) = false := by simp [he]
        have NX2 := NX1.out he
        obtain ⟨k, hk⟩ : ∃ k : Nat, nx = k := ⟨nx.toNat, by omega⟩
        subst hk
        have hak : a < k := by have := NX2.1; omega
        have hkn : k ≤ n := by have := NX2.2; omega
        have GN2 := Lib.hid (GN1.out he)
        obtain ⟨us, h1, h2, h3⟩ := HA.out.same HZ.out.2
        rw [← NQ.out] at h2
        have OW := Lib.hid h2
        have H3 := Lib.hid (And.intro h1 h3)
        have HXM := Lib.hid (HM.out.same HZ.out.2)
        clear h1 h2 h3 NX2 NX1 GB1 GN1 HM HA he
        have hzz := (KW.out.trans HZ.out.2 (fun _ _ h => h)).size
        go_wp2_with (at_builtin; refine wpList_append_gen _ rfl _ _ _ _ rfl w.heap.size 45 i0 _ 12 144 Try.underlying47 hi0 hz0 hz1 hz2 rfl _ q _ rfl (OW.out.alloc _) _ 1 (acL (x, (.slice A1 x.c.l.length c1), (.slice A2 x.fa.length c2), (.slice A3 x.fu.length c3))) rfl (lit_src Try.underlying47 _ 12 rfl (by decide) (by intro u hu; simp [acL] at hu; rcases hu with rfl | rfl | rfl | rfl | rfl | rfl | rfl | rfl | rfl | rfl | rfl | rfl <;> rfl)) ?c1 ?c2 ?c3 ?_)
        case c1 => unfold maxLen; omega
        case c2 => omega
        case c3 => simp; omega
        intro v' w5 ho hk5 hn5
        obtain rfl := NQ.out
        have AP := Lib.hid (ActSt.push (W := Z.alloc (.cells (acL (x, (.slice A1 x.c.l.length c1), (.slice A2 x.fa.length c2), (.slice A3 x.fu.length c3))).toArray 45)) (v := ((.slice A1 x.c.l.length c1), (.slice A2 x.fa.length c2), (.slice A3 x.fu.length c3))) H3.out.1 OW.out H3.out.2 ((Keep.refl _ Z).alloc _) (HXM.out.same ((Keep.refl _ Z).alloc _)) ho hk5 (fun k e => (hn5 k e).imp id (fun h => by simp; omega)))
        have K5 := Lib.hid (show Keep (fun _ => False) w w5 from ((KW.out.trans HZ.out.2 (fun _ _ h => h)).alloc _).trans hk5 (fun b hb e => by have := (OW.out.ownB b e).1; omega))
        obtain ⟨A5, c5, hv'⟩ := AP.out.form
        subst hv'
        have LN : (acc ++ [x]).length = acc.length + 1 := by rw [List.length_append]; rfl
        rw [LN] at AP
        clear ho hk5 hn5
        go_wp2
        go_step3
        refine ⟨rfl, ⟨⟨k, _, f, acc ++ [x], A5, c5, _, _, _, _, _, _, _, _, _, _, _, _, _, _, _, _, _, _, _, _, _, _, _, rfl, hkn, ?g1, Lib.hid ⟨AP.out, LN.symm, ⟨?g2, ?g3⟩, K5.out⟩⟩, ?g4⟩⟩
        case g1 => omega
        case g2 => have := RG.out.1; omega
        case g3 => rw [← RG.out.2]; exact GN2.out.symm
        case g4 => simp [intOf]; omega
      · have e2 : (er != 0) = true := by simp [he]
        have RE := Lib.hid (show r = ([], er) by rw [← RG.out.2]; exact GB1.out he)
        clear he
        go_wp2
        simp only [Exit.jump]
        go_ret2
        rw [RE.out]
        exact ⟨none, 0, rfl, AS.nil _ _, (KW.out.trans HZ.out.2 (fun _ _ h => h)).to_below'⟩
  · intro pass
    go_wp2
    go_step3
    go_step
    go_step
    exact pass _ _ ⟨0, 0, n + 1, [], none, 0, undef, undef, undef, undef, undef, undef, undef, undef, undef, undef, undef, undef, undef, undef, undef, undef, undef, undef, undef, undef, undef, undef, undef, rfl, Nat.zero_le _, Nat.le_refl _, Lib.hid ⟨ActSt.nil _ _, rfl, ⟨by omega, RR.out.symm⟩, Keep.refl _ _⟩⟩
end Go.Proofs.Ythkgchlndfcmpaa

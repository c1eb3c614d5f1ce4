/- Contract of vivariumref11.Remove. -/
import Derived.Test.YtglliendhbkkhaaGreatDoorRf1
namespace Go.Proofs.YtglliendhbkkhaaGreatDoor
open Go.RowKit
set_option maxRecDepth 100000
set_option linter.unusedVariables false
set_option linter.unusedSimpArgs false

set_option maxHeartbeats 8000000 in
theorem r11_remove (c : Cf) (uc : Value) (G : Nat → Prop) (s : SZ) (x : IdZ) (k : Int) (hk : -9223372036854775808 ≤ k ∧ k ≤ 9223372036854775807) (u : Value) (F : Nat → Prop) (w : World) (hc : CL w G uc c.l) (hu : StM w F u s) (h24 : s.ents.length ≤ 1024) (hpl : ∀ e ∈ s.ents, e.parts.length ≤ 64) :
    Calls Tryz.prog 61 #[confV c uc, u, .agg #[.int .i64 x.ix, .int .i64 x.gen], .int .i64 k] w fun e w' => ∃ u', e = .returned (.tuple #[u', .int .i64 (removeR c.l s x k).2]) ∧ StM w' (SF F w) u' (removeR c.l s x k).1 ∧ Keep (fun _ => False) w w' := by
  have PL := Lib.hid (fun X (hk : Keep (fun _ => False) w X) => r11_placeI s x u F X (hu.same hk))
  have SI := Lib.hid (fun X (hk' : Keep (fun _ => False) w X) => r11_size c uc G k X (hc.same hk') hk)
  have WI := Lib.hid (fun X (hk : Keep (fun _ => False) w X) y pv p (hp : p < s.ents.length) (hy : NS parN X (SN F w (w.heap.size + 1 + 1 + 1)) pv y.parts) => r11_with s y pv p hp u (SN F w (w.heap.size + 1 + 1 + 1)) X ((hu.low.mono (fun b hb h => h.sn (by omega))).same hk) hy h24)
  obtain ⟨Au, cu, rfl, -⟩ := hc
  obtain ⟨A1, c1, A2, c2, A3, c3, rfl, h1, h2, h3, h4, h5, h6, g1, g2, g3⟩ := hu.form
  have HU := Lib.hid hu
  have HE := Lib.hid (show NS entN w (FL F w) (.slice A3 s.ents.length c3) s.ents from g3.mono (fun b hb h => ⟨h, hb⟩))
  unfold maxLen at *
  unfold confV at *
  obtain ⟨R, hR⟩ : ∃ R, removeR c.l s x k = R := ⟨_, rfl⟩
  rw [hR]
  have G0 := Lib.hid (show placeR s x = none → R = (s, 5) from fun h => by rw [← hR]; unfold removeR; rw [h])
  have G1 := Lib.hid (show ∀ p, placeR s x = some p → sizeR c.l k = none → R = (s, 6) from fun p h h' => by rw [← hR]; unfold removeR; rw [h, h'])
  have G2 := Lib.hid (show ∀ p z P, placeR s x = some p → sizeR c.l k = some z → (s.ents.getD p default).parts = P → partR P k = none → R = (s, 8) from fun p z P h h' h1 h2 => by rw [← hR]; unfold removeR; rw [h, h']; dsimp only; rw [h1, h2])
  have G3 := Lib.hid (show ∀ p z P q, placeR s x = some p → sizeR c.l k = some z → (s.ents.getD p default).parts = P → partR P k = some q → R = (⟨s.gens, s.free, s.ents.set p ⟨x, P.eraseIdx q⟩⟩, 0) from fun p z P q h h' h1 h2 => by rw [← hR]; unfold removeR; rw [h, h']; dsimp only; rw [h1, h2])
  have PL64 := Lib.hid (show ∀ (p : Nat) P, s.ents[p]? = some ⟨x, P⟩ → P.length ≤ 64 from fun p P h => hpl _ (List.mem_of_getElem? h))
  obtain ⟨pi, hpi⟩ : ∃ pi, placeI s x = pi := ⟨_, rfl⟩
  have P0 := Lib.hid (show placeR s x = none → pi = -1 from fun h => hpi.symm.trans (placeI_none h))
  have P1 := Lib.hid (show ∀ p, placeR s x = some p → pi = (p : Int) ∧ p < s.ents.length ∧ ∃ P, s.ents[p]? = some ⟨x, P⟩ ∧ (s.ents.getD p default).parts = P from fun p h => by
    have := placeI_some h
    rw [hpi] at this; exact this)
  obtain ⟨zi, hzi⟩ : ∃ zi, (sizeR c.l k).getD 0 = zi := ⟨_, rfl⟩
  obtain ⟨zb, hzb⟩ : ∃ zb, (sizeR c.l k).isSome = zb := ⟨_, rfl⟩
  rw [hpi] at PL
  rw [hzi, hzb] at SI
  generalize c.l.length = nl at *
  obtain ⟨n, hn⟩ : ∃ n, s.ents.length = n := ⟨_, rfl⟩
  have HN := Lib.hid hn
  rw [hn] at HE P1 PL h5 HU WI h24 ⊢
  clear hn hR hpi hu g1 g2 g3 h1 h2 h3 h4 hk hpl
  generalize s.gens.length = n1 at *
  generalize s.free.length = n2 at *
  go_enter Tryz.func61, Tryz.ntmps61
  go_upto_region 1 with fail
  refine wp_world (S := fun X => X.heap[w.heap.size]? = some (.cells #[.int .i64 c.log, .int .i64 c.pages, .int .i64 c.ents, .int .i64 c.gens, .slice Au nl cu] 24 (0, 0)) ∧ X.heap[w.heap.size + 1]? = some (.cells #[.slice A1 n1 c1, .slice A2 n2 c2, .slice A3 n c3] 28 (0, 0)) ∧ X.heap[w.heap.size + 1 + 1]? = some (.cells #[.int .i64 x.ix, .int .i64 x.gen] 40 (0, 0)) ∧ X.heap[w.heap.size + 1 + 1 + 1]? = some (.cells #[.slice none 0 0, .slice none 0 0, .slice none 0 0] 28 (0, 0)) ∧ Keep (fun _ => False) w X) ⟨(by (try simp only [heap_drew']); (try simp only [World.heap_drewN]); repeat (first | exact heap_alloc_at _ _ _ (by first | rfl | simp) | rw [Below.heap_alloc _ _ _ (by first | (simp; done) | (simp; omega))])), (by (try simp only [heap_drew']); (try simp only [World.heap_drewN]); repeat (first | exact heap_alloc_at _ _ _ (by first | rfl | simp) | rw [Below.heap_alloc _ _ _ (by first | (simp; done) | (simp; omega))])), (by (try simp only [heap_drew']); (try simp only [World.heap_drewN]); repeat (first | exact heap_alloc_at _ _ _ (by first | rfl | simp) | rw [Below.heap_alloc _ _ _ (by first | (simp; done) | (simp; omega))])), (by (try simp only [heap_drew']); (try simp only [World.heap_drewN]); repeat (first | exact heap_alloc_at _ _ _ (by first | rfl | simp) | rw [Below.heap_alloc _ _ _ (by first | (simp; done) | (simp; omega))])), by exact (by repeat first | (with_reducible assumption) | (with_reducible exact Keep.refl _ _) | (with_reducible refine Keep.alloc ?_ _) | (with_reducible refine Keep.drew ?_) | (with_reducible refine Keep.drewN ?_ _) | (with_reducible refine Keep.setCell ?_ (.inl (by first | omega | (simp; done) | (simp; omega) | fail)) _))⟩ ?_
  rintro X ⟨b1, b2, b3, b4, hkX⟩
  have HX := Lib.hid (And.intro b1 (And.intro b2 (And.intro b3 (And.intro b4 hkX))))
  have zX : w.heap.size + 1 + 1 + 1 < X.heap.size := (Array.getElem?_eq_some_iff.1 b4).1
  have AT := Lib.hid (show ∀ Y, Keep (fun _ => False) X Y → Y.heap[w.heap.size]? = some (.cells #[.int .i64 c.log, .int .i64 c.pages, .int .i64 c.ents, .int .i64 c.gens, .slice Au nl cu] 24 (0, 0)) ∧ Y.heap[w.heap.size + 1]? = some (.cells #[.slice A1 n1 c1, .slice A2 n2 c2, .slice A3 n c3] 28 (0, 0)) ∧ Y.heap[w.heap.size + 1 + 1]? = some (.cells #[.int .i64 x.ix, .int .i64 x.gen] 40 (0, 0)) ∧ Y.heap[w.heap.size + 1 + 1 + 1]? = some (.cells #[.slice none 0 0, .slice none 0 0, .slice none 0 0] 28 (0, 0)) ∧ Keep (fun _ => False) w Y from fun Y hk => ⟨(hk.block _ (by omega) (fun h => h)).trans b1, (hk.block _ (by omega) (fun h => h)).trans b2, (hk.block _ (by omega) (fun h => h)).trans b3, (hk.block _ (by omega) (fun h => h)).trans b4, hkX.trans hk (fun _ _ h => h)⟩)
  obtain ⟨x0, x1, x2, xf⟩ := cells3 b2
  obtain ⟨y0, y1, yf⟩ := cells2 b3
  clear b1 b2 b3 b4
  go_wp2_with fail
  with_reducible refine (PL.out X hkX).mono ?_
  rintro e w1 ⟨rfl, k1⟩
  have B1 := Lib.hid (AT.out w1 k1)
  have HK1 := Lib.hid k1
  clear k1 x0 x1 x2 xf y0 y1 yf hkX
  cases hpl : placeR s x with
  | none =>
    obtain rfl := P0.out hpl
    have RS := Lib.hid (G0.out hpl)
    have hlt : (-1 : Int) < 0 := by omega
    clear hpl
    obtain ⟨x0, x1, x2, xf⟩ := cells3 B1.out.2.1
    obtain ⟨z0, z1, z2, zf⟩ := cells3 B1.out.2.2.2.1
    go_wp2
    refine bodyPost_ret (results_st2 Tryz.results61 _ _ (w.heap.size + 1 + 1 + 1) (.slice A1 n1 c1) (.slice A2 n2 c2) (.slice A3 n c3) ?_ ?_ (.int .i64 5) ?_) ?_ ⟨.agg #[.slice A1 n1 c1, .slice A2 n2 c2, .slice A3 n c3], ?_, ?_, ?_⟩
    · rfl
    · exact heap_3J B1.out.2.2.2.1 _ _ _
    · rfl
    · rfl
    · rw [RS.out]
    · rw [RS.out]; exact (HU.out.err B1.out.2.2.2.2 (by omega)).1
    · exact (HU.out.err B1.out.2.2.2.2 (by omega)).2
  | some p =>
    obtain ⟨rfl, hp2, P, hp3, hp4⟩ := P1.out p hpl
    have hlt : ¬ ((p : Int) < 0) := by omega
    obtain ⟨x0, x1, x2, x3, x4, xf⟩ := cells5 B1.out.1
    go_wp2_with fail
    with_reducible refine (SI.out w1 B1.out.2.2.2.2).mono ?_
    rintro e w2 ⟨rfl, k2⟩
    have HK2 := Lib.hid (HK1.out.trans k2 (fun _ _ h => h))
    have B2 := Lib.hid (AT.out w2 HK2.out)
    clear k2 x0 x1 x2 x3 x4 xf
    cases hsz : sizeR c.l k with
    | none =>
      rw [hsz] at hzi hzb
      subst hzi hzb
      have RS := Lib.hid (G1.out p hpl hsz)
      clear hpl hsz hp3 hp4
      simp only [Option.isSome]
      obtain ⟨x0, x1, x2, xf⟩ := cells3 B2.out.2.1
      obtain ⟨z0, z1, z2, zf⟩ := cells3 B2.out.2.2.2.1
      go_wp2
      refine bodyPost_ret (results_st2 Tryz.results61 _ _ (w.heap.size + 1 + 1 + 1) (.slice A1 n1 c1) (.slice A2 n2 c2) (.slice A3 n c3) ?_ ?_ (.int .i64 6) ?_) ?_ ⟨.agg #[.slice A1 n1 c1, .slice A2 n2 c2, .slice A3 n c3], ?_, ?_, ?_⟩
      · rfl
      · exact heap_3J B2.out.2.2.2.1 _ _ _
      · rfl
      · rfl
      · rw [RS.out]
      · rw [RS.out]; exact (HU.out.err B2.out.2.2.2.2 (by omega)).1
      · exact (HU.out.err B2.out.2.2.2.2 (by omega)).2
    | some z =>
      rw [hsz] at hzi hzb
      subst hzi hzb
      simp only [Option.getD_some, Option.isSome_some]
      have hi : (p : Int) < (n : Int) := by omega
      have h0 : (0 : Int) ≤ (p : Int) := by omega
      obtain ⟨b, off, e0, q, rfl, -, hx, hin, hc⟩ := NS.at_ (HE.out.same B2.out.2.2.2.2) hp2
      obtain rfl : e0 = ⟨x, P⟩ := Option.some.inj (hx.symm.trans hp3)
      have f2 := hc 2 _ rfl
      simp only [show entN.m = 3 from rfl] at f2
      replace hin : NS parN w2 (FL F w) q P := hin
      have PT := Lib.hid (fun X (hk : Keep (fun _ => False) w2 X) => r11_partI P k _ (FL F w) X (NS.same hin hk))
      have HIN := Lib.hid hin
      obtain ⟨A4, c4, rfl, hcm, hpn⟩ := NS.form hin
      obtain ⟨x0, x1, x2, xf⟩ := cells3 B2.out.2.1
      have Q0 := Lib.hid (show partR P k = none → partI P k = -1 from fun h => partI_none h)
      have Q1 := Lib.hid (show ∀ j, partR P k = some j → partI P k = (j : Int) ∧ j < P.length from fun j h => partI_some h)
      generalize partI P k = qi at *
      have hp64 := PL64.out p P hp3
      obtain ⟨np, hnp⟩ : ∃ np, P.length = np := ⟨_, rfl⟩
      have HNP := Lib.hid hnp
      rw [hnp] at PT HIN Q1 hpn f2 hp64
      clear hx hin hc hnp
      go_wp2_with fail
      with_reducible refine (PT.out w2 (Keep.refl _ _)).mono ?_
      rintro e w3 ⟨rfl, k3⟩
      have HK3 := Lib.hid (HK2.out.trans k3 (fun _ _ h => h))
      have HK23 := Lib.hid k3
      have B3 := Lib.hid (AT.out w3 HK3.out)
      clear x0 x1 x2 xf f2 k3
      obtain ⟨x0, x1, x2, xf⟩ := cells3 B3.out.2.1
      obtain ⟨z0, z1, z2, zf⟩ := cells3 B3.out.2.2.2.1
      cases hq : partR P k with
      | none =>
        obtain rfl := Q0.out hq
        have RS := Lib.hid (G2.out p z P hpl hsz hp4 hq)
        have hlt2 : (-1 : Int) < 0 := by omega
        clear hpl hsz hp3 hp4 hq
        go_wp2
        refine bodyPost_ret (results_st2 Tryz.results61 _ _ (w.heap.size + 1 + 1 + 1) (.slice A1 n1 c1) (.slice A2 n2 c2) (.slice (some ⟨b, off, none⟩) n c3) ?_ ?_ (.int .i64 8) ?_) ?_ ⟨.agg #[.slice A1 n1 c1, .slice A2 n2 c2, .slice (some ⟨b, off, none⟩) n c3], ?_, ?_, ?_⟩
        · rfl
        · exact heap_3J B3.out.2.2.2.1 _ _ _
        · rfl
        · rfl
        · rw [RS.out]
        · rw [RS.out]; exact (HU.out.err B3.out.2.2.2.2 (by omega)).1
        · exact (HU.out.err B3.out.2.2.2.2 (by omega)).2
      | some j =>
        obtain ⟨rfl, hj⟩ := Q1.out j hq
        have RS := Lib.hid (G3.out p z P j hpl hsz hp4 hq)
        have hlt2 : ¬ ((j : Int) < 0) := by omega
        have hi2 : (j : Int) < (np : Int) := by omega
        have hi3 : (j : Int) ≤ (np : Int) := by omega
        have h02 : (0 : Int) ≤ (j : Int) := by omega
        clear hpl hsz hp3 hp4 hq
        have zw := HK3.out.size
        have HP3 := Lib.hid (show NS parN w3 (FL F w) (.slice A4 np c4) P from HIN.out.same HK23.out)
        obtain ⟨ip, hip, ip0, ip1, ip2⟩ := info_parts info_part
        have LT := Lib.hid (show (P.take j).length = j by rw [List.length_take, HNP.out]; omega)
        go_wp2_with (first
          | (at_builtin; refine wpList_joins (by rfl) _ _ _ (by rfl) parN (FL F w) (FL F w) w3.heap.size 91 ip _ 32 Tryz.underlying87 hip ip0 ip1 ip2 rfl _ [] (P.take j) 0 j rfl LT.out (by rfl) ⟨[], rfl, own_zeroA _ _ _ _ _, fun i x v h => by simp at h⟩ A4 c4 (by rfl) ?_ (fun b _ h => ⟨h, fun e => by cases e⟩) (by unfold maxLen; omega) (by omega) (by simp) ?_)
          | fail)
        · exact (HP3.out.front (by rw [HNP.out]; omega)).same ((Keep.refl _ w3).alloc _)
        intro A6 c6 w6 hn6 hk6 ho6
        have k6 : Keep (fun _ => False) w3 w6 := ((Keep.refl (fun _ => False) w3).alloc (.cells #[] 91 (0, 0))).trans hk6 (fun b hb e => by cases e)
        have HK6 := Lib.hid (HK3.out.trans k6 (fun _ _ h => h))
        have HK36 := Lib.hid k6
        have B6 := Lib.hid (AT.out w6 HK6.out)
        have HN6 := Lib.hid hn6
        clear hn6 hk6 ho6 k6 x0 x1 x2 xf z0 z1 z2 zf
        obtain ⟨x0, x1, x2, xf⟩ := cells3 B6.out.2.1
        obtain ⟨y0, y1, yf⟩ := cells2 B6.out.2.2.1
        obtain ⟨z0, z1, z2, zf⟩ := cells3 B6.out.2.2.2.1
        have HP6 := Lib.hid (HP3.out.same HK36.out)
        obtain ⟨m, hm⟩ : ∃ m : Nat, (j : Int) + 1 = (m : Int) := ⟨j + 1, by omega⟩
        have hmw : IntKind.i64.wrap (m : Int) = (m : Int) := IntWalk.i64_in _ (by omega)
        have m1 : (m : Int) ≤ (np : Int) := by omega
        have m2 : (0 : Int) ≤ (m : Int) := by omega
        have m3 : m ≤ np := by omega
        have m4 : m ≤ c4 := by omega
        go_upto_region 12 with fail
        rcases Nat.lt_or_ge m c4 with hcm | hcm
        · have hne : ¬ c4 = m := by omega
          have ER := Lib.hid (show P.take j ++ P.drop m = P.eraseIdx j by rw [List.eraseIdx_eq_take_drop_succ, show j + 1 = m by omega])
          go_cut [9] (fun t wx => t = .int .i64 0 ∧ Hid (StEnd w F (w.heap.size + 1 + 1 + 1) ⟨s.gens, s.free, s.ents.set p ⟨⟨x.ix, x.gen⟩, P.eraseIdx j⟩⟩ wx))
          case first =>
            go_region_law (first
              | (refine step_joins (by rfl) _ _ _ (by rfl) parN (FL F w) (FL F w) w3.heap.size 91 ip _ 32 Tryz.underlying87 hip ip0 ip1 ip2 rfl _ (P.take j) (P.drop m) j (np - m) LT.out (by rw [List.length_drop, HNP.out]) (by rfl) (HN6.out.keep (S := fun _ => False) (by exact (by repeat first | (with_reducible assumption) | (with_reducible exact Keep.refl _ _) | (with_reducible refine Keep.alloc ?_ _) | (with_reducible refine Keep.drew ?_) | (with_reducible refine Keep.drewN ?_ _) | (with_reducible refine Keep.setCell ?_ (.inl (by first | omega | (simp; done) | (simp; omega) | fail)) _))) (fun _ _ h => h) (fun _ _ _ _ h => h)) (Option.map (fun x => x.add (m * 2)) A4) (c4 - m) (by rfl) (by have h9 := (HP6.out.same (by exact (by repeat first | (with_reducible assumption) | (with_reducible exact Keep.refl _ _) | (with_reducible refine Keep.alloc ?_ _) | (with_reducible refine Keep.drew ?_) | (with_reducible refine Keep.drewN ?_ _) | (with_reducible refine Keep.setCell ?_ (.inl (by first | omega | (simp; done) | (simp; omega) | fail)) _)))).rest (m := m) (by rw [HNP.out]; omega); rw [if_neg hne] at h9; exact h9) (fun b _ h => ⟨h, fun e => by have := (HN6.out.own_lt e).1; have := h.2; omega⟩) (by unfold maxLen; omega) (by omega) (by have := HK36.out.size; simp; omega) ?_; intro A7 c7 w7 hn7 hk7 ho7; have HK7 := Lib.hid (HK36.out.trans (Keep.trans (T := fun k => ownB (Value.slice A6 j c6) = some k) (by exact (by repeat first | (with_reducible assumption) | (with_reducible exact Keep.refl _ _) | (with_reducible refine Keep.alloc ?_ _) | (with_reducible refine Keep.drew ?_) | (with_reducible refine Keep.drewN ?_ _) | (with_reducible refine Keep.setCell ?_ (.inl (by first | omega | (simp; done) | (simp; omega) | fail)) _))) hk7 (fun _ _ h => h)) (fun b hb e => by have := (HN6.out.own_lt e).1; omega)); have B7 := Lib.hid (AT.out w7 (HK3.out.trans HK7.out (fun _ _ h => h))); have HP7 := Lib.hid (show NS parN w7 (SN F w (w.heap.size + 1 + 1 + 1)) (.slice A7 (j + (np - m)) c7) (P.eraseIdx j) from by rw [← ER.out]; exact hn7.ns.mono (fun b _ h => h.elim (fun h => h.sn (by omega)) (fun h => ⟨.inr (by omega), by omega⟩))); clear hn7 hk7 ho7 x0 x1 x2 xf y0 y1 yf z0 z1 z2 zf; obtain ⟨x0, x1, x2, xf⟩ := cells3 B7.out.2.1; obtain ⟨y0, y1, yf⟩ := cells2 B7.out.2.2.1)
              | (go_simp; go_at_call 112; (with_reducible refine (WI.out _ (by exact (HK3.out.trans HK7.out (fun _ _ h => h) |> fun h => HX.out.2.2.2.2.trans h (fun _ _ h => h)).trans (T := fun _ => False) (by exact (by repeat first | (with_reducible assumption) | (with_reducible exact Keep.refl _ _) | (with_reducible refine Keep.alloc ?_ _) | (with_reducible refine Keep.drew ?_) | (with_reducible refine Keep.drewN ?_ _) | (with_reducible refine Keep.setCell ?_ (.inl (by first | omega | (simp; done) | (simp; omega) | fail)) _))) (fun _ _ h => h)) ⟨⟨x.ix, x.gen⟩, P.eraseIdx j⟩ _ p hp2 (by exact HP7.out.same (by exact (by repeat first | (with_reducible assumption) | (with_reducible exact Keep.refl _ _) | (with_reducible refine Keep.alloc ?_ _) | (with_reducible refine Keep.drew ?_) | (with_reducible refine Keep.drewN ?_ _) | (with_reducible refine Keep.setCell ?_ (.inl (by first | omega | (simp; done) | (simp; omega) | fail)) _))))).mono ?_); rintro e w8 ⟨u8, rfl, hst8, hb8⟩; have HK8 := Lib.hid (HK7.out.trans (T := fun _ => False) (Keep.trans (T := fun _ => False) (by exact (by repeat first | (with_reducible assumption) | (with_reducible exact Keep.refl _ _) | (with_reducible refine Keep.alloc ?_ _) | (with_reducible refine Keep.drew ?_) | (with_reducible refine Keep.drewN ?_ _) | (with_reducible refine Keep.setCell ?_ (.inl (by first | omega | (simp; done) | (simp; omega) | fail)) _))) (Keep.of_below' hb8) (fun _ _ h => h)) (fun _ _ h => h)); have HZ8 := HK7.out.size; have H8 := Lib.hid (show StM w8 (SN F w (w.heap.size + 1 + 1 + 1)) u8 ⟨s.gens, s.free, s.ents.set p ⟨⟨x.ix, x.gen⟩, P.eraseIdx j⟩⟩ from hst8.mono (fun b _ h => h.elim (fun h => h.1) (fun h => ⟨.inr (by (try simp at h); omega), by (try simp at h); omega⟩))); have B8 := Lib.hid (AT.out w8 (HK3.out.trans HK8.out (fun _ _ h => h))); obtain ⟨E1, q1, d1, E2, q2, d2, E3, q3, d3, rfl⟩ := H8.out.shape; clear hst8 hb8; obtain ⟨z0, z1, z2, zf⟩ := cells3 B8.out.2.2.2.1)
              | fail)
            all_goals
              go_wp2_with fail
              go_meet
              refine ⟨by rfl, ?_⟩
              first
                | with_reducible exact Lib.hid (StEnd.mk H8.out B8.out.2.2.2.1 B8.out.2.2.2.2 (by omega))
                | with_reducible exact Lib.hid (StEnd.mk H8.out B8.out.2.2.2.1 B8.out.2.2.2.2 (by omega)).drew
          case rest =>
            obtain ⟨rfl, hend⟩ := hcut
            obtain ⟨E1, q1, d1, E2, q2, d2, E3, q3, d3, hb, hst, hkw⟩ := hend.out
            go_wp2
            refine bodyPost_ret (results_st2 Tryz.results61 _ _ (w.heap.size + 1 + 1 + 1) (.slice E1 q1 d1) (.slice E2 q2 d2) (.slice E3 q3 d3) ?_ ?_ (.int .i64 0) ?_) ?_ ⟨.agg #[.slice E1 q1 d1, .slice E2 q2 d2, .slice E3 q3 d3], ?_, ?_, ?_⟩
            · rfl
            · exact hb
            · rfl
            · rfl
            · rw [RS.out]
            · rw [RS.out]; exact hst
            · exact hkw
        · obtain rfl : m = c4 := by omega
          have ER := Lib.hid (show P.take j ++ P.drop m = P.eraseIdx j by rw [List.eraseIdx_eq_take_drop_succ, show j + 1 = m by omega])
          go_cut [9] (fun t wx => t = .int .i64 0 ∧ Hid (StEnd w F (w.heap.size + 1 + 1 + 1) ⟨s.gens, s.free, s.ents.set p ⟨⟨x.ix, x.gen⟩, P.eraseIdx j⟩⟩ wx))
          case first =>
            go_region_law (first
              | (refine step_joins (by rfl) _ _ _ (by rfl) parN (FL F w) (FL F w) w3.heap.size 91 ip _ 32 Tryz.underlying87 hip ip0 ip1 ip2 rfl _ (P.take j) (P.drop m) j 0 LT.out (by rw [List.length_drop, HNP.out]; omega) (by rfl) (HN6.out.keep (S := fun _ => False) (by exact (by repeat first | (with_reducible assumption) | (with_reducible exact Keep.refl _ _) | (with_reducible refine Keep.alloc ?_ _) | (with_reducible refine Keep.drew ?_) | (with_reducible refine Keep.drewN ?_ _) | (with_reducible refine Keep.setCell ?_ (.inl (by first | omega | (simp; done) | (simp; omega) | fail)) _))) (fun _ _ h => h) (fun _ _ _ _ h => h)) A4 0 (by rfl) (by have h9 := (HP6.out.same (by exact (by repeat first | (with_reducible assumption) | (with_reducible exact Keep.refl _ _) | (with_reducible refine Keep.alloc ?_ _) | (with_reducible refine Keep.drew ?_) | (with_reducible refine Keep.drewN ?_ _) | (with_reducible refine Keep.setCell ?_ (.inl (by first | omega | (simp; done) | (simp; omega) | fail)) _)))).rest (m := m) (by rw [HNP.out]; omega); rw [if_pos rfl, Nat.sub_self, show np - m = 0 by omega] at h9; exact h9) (fun b _ h => ⟨h, fun e => by have := (HN6.out.own_lt e).1; have := h.2; omega⟩) (by unfold maxLen; omega) (by omega) (by have := HK36.out.size; simp; omega) ?_; intro A7 c7 w7 hn7 hk7 ho7; have HK7 := Lib.hid (HK36.out.trans (Keep.trans (T := fun k => ownB (Value.slice A6 j c6) = some k) (by exact (by repeat first | (with_reducible assumption) | (with_reducible exact Keep.refl _ _) | (with_reducible refine Keep.alloc ?_ _) | (with_reducible refine Keep.drew ?_) | (with_reducible refine Keep.drewN ?_ _) | (with_reducible refine Keep.setCell ?_ (.inl (by first | omega | (simp; done) | (simp; omega) | fail)) _))) hk7 (fun _ _ h => h)) (fun b hb e => by have := (HN6.out.own_lt e).1; omega)); have B7 := Lib.hid (AT.out w7 (HK3.out.trans HK7.out (fun _ _ h => h))); have HP7 := Lib.hid (show NS parN w7 (SN F w (w.heap.size + 1 + 1 + 1)) (.slice A7 j c7) (P.eraseIdx j) from by rw [← ER.out]; exact hn7.ns.mono (fun b _ h => h.elim (fun h => h.sn (by omega)) (fun h => ⟨.inr (by omega), by omega⟩))); clear hn7 hk7 ho7 x0 x1 x2 xf y0 y1 yf z0 z1 z2 zf; obtain ⟨x0, x1, x2, xf⟩ := cells3 B7.out.2.1; obtain ⟨y0, y1, yf⟩ := cells2 B7.out.2.2.1)
              | (go_simp; go_at_call 112; (with_reducible refine (WI.out _ (by exact (HK3.out.trans HK7.out (fun _ _ h => h) |> fun h => HX.out.2.2.2.2.trans h (fun _ _ h => h)).trans (T := fun _ => False) (by exact (by repeat first | (with_reducible assumption) | (with_reducible exact Keep.refl _ _) | (with_reducible refine Keep.alloc ?_ _) | (with_reducible refine Keep.drew ?_) | (with_reducible refine Keep.drewN ?_ _) | (with_reducible refine Keep.setCell ?_ (.inl (by first | omega | (simp; done) | (simp; omega) | fail)) _))) (fun _ _ h => h)) ⟨⟨x.ix, x.gen⟩, P.eraseIdx j⟩ _ p hp2 (by exact HP7.out.same (by exact (by repeat first | (with_reducible assumption) | (with_reducible exact Keep.refl _ _) | (with_reducible refine Keep.alloc ?_ _) | (with_reducible refine Keep.drew ?_) | (with_reducible refine Keep.drewN ?_ _) | (with_reducible refine Keep.setCell ?_ (.inl (by first | omega | (simp; done) | (simp; omega) | fail)) _))))).mono ?_); rintro e w8 ⟨u8, rfl, hst8, hb8⟩; have HK8 := Lib.hid (HK7.out.trans (T := fun _ => False) (Keep.trans (T := fun _ => False) (by exact (by repeat first | (with_reducible assumption) | (with_reducible exact Keep.refl _ _) | (with_reducible refine Keep.alloc ?_ _) | (with_reducible refine Keep.drew ?_) | (with_reducible refine Keep.drewN ?_ _) | (with_reducible refine Keep.setCell ?_ (.inl (by first | omega | (simp; done) | (simp; omega) | fail)) _))) (Keep.of_below' hb8) (fun _ _ h => h)) (fun _ _ h => h)); have HZ8 := HK7.out.size; have H8 := Lib.hid (show StM w8 (SN F w (w.heap.size + 1 + 1 + 1)) u8 ⟨s.gens, s.free, s.ents.set p ⟨⟨x.ix, x.gen⟩, P.eraseIdx j⟩⟩ from hst8.mono (fun b _ h => h.elim (fun h => h.1) (fun h => ⟨.inr (by (try simp at h); omega), by (try simp at h); omega⟩))); have B8 := Lib.hid (AT.out w8 (HK3.out.trans HK8.out (fun _ _ h => h))); obtain ⟨E1, q1, d1, E2, q2, d2, E3, q3, d3, rfl⟩ := H8.out.shape; clear hst8 hb8; obtain ⟨z0, z1, z2, zf⟩ := cells3 B8.out.2.2.2.1)
              | fail)
            all_goals
              go_wp2_with fail
              go_meet
              refine ⟨by rfl, ?_⟩
              first
                | with_reducible exact Lib.hid (StEnd.mk H8.out B8.out.2.2.2.1 B8.out.2.2.2.2 (by omega))
                | with_reducible exact Lib.hid (StEnd.mk H8.out B8.out.2.2.2.1 B8.out.2.2.2.2 (by omega)).drew
          case rest =>
            obtain ⟨rfl, hend⟩ := hcut
            obtain ⟨E1, q1, d1, E2, q2, d2, E3, q3, d3, hb, hst, hkw⟩ := hend.out
            go_wp2
            refine bodyPost_ret (results_st2 Tryz.results61 _ _ (w.heap.size + 1 + 1 + 1) (.slice E1 q1 d1) (.slice E2 q2 d2) (.slice E3 q3 d3) ?_ ?_ (.int .i64 0) ?_) ?_ ⟨.agg #[.slice E1 q1 d1, .slice E2 q2 d2, .slice E3 q3 d3], ?_, ?_, ?_⟩
            · rfl
            · exact hb
            · rfl
            · rfl
            · rw [RS.out]
            · rw [RS.out]; exact hst
            · exact hkw
end Go.Proofs.YtglliendhbkkhaaGreatDoor

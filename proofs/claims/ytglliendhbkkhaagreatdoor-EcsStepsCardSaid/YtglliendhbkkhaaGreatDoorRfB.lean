/- Contract of vivariumref11.Set. -/
import Derived.Test.YtglliendhbkkhaaGreatDoorRf1
namespace Go.Proofs.YtglliendhbkkhaaGreatDoor
open Go.RowKit
set_option maxRecDepth 100000
set_option linter.unusedVariables false
set_option linter.unusedSimpArgs false

/-- A list that a call builds, behind world Y. -/
def BL {α β : Type} (N : Nst α β) (X : Nat → Prop) (e : TypeId) (Y W : World) (u : Value) (R : List α) : Prop := NBX N X Y.heap.size e W u R ∧ Keep (fun b => Y.heap.size ≤ b) Y W
theorem BL.push {α β : Type} {N : Nst α β} {X : Nat → Prop} {e : TypeId} {Y W W' w6 : World} {u u' : Value} {R : List α} {y : α} (h : BL N X e Y W u R) (hk : Keep (fun _ => False) W W') (h6 : NBX N X Y.heap.size e w6 u' (R ++ [y])) (hk6 : Keep (fun k => ownB u = some k) W' w6) : BL N X e Y w6 u' (R ++ [y]) :=
  ⟨h6, (h.2.trans hk (fun _ _ h => h.elim)).trans hk6 (fun b _ e => (h.1.own_lt e).1)⟩
theorem BL.same {α β : Type} {N : Nst α β} {X : Nat → Prop} {e : TypeId} {Y W W' : World} {u : Value} {R : List α} (h : BL N X e Y W u R) (hk : Keep (fun _ => False) W W') : BL N X e Y W' u R :=
  ⟨h.1.keep hk (fun _ _ h => h) (fun _ _ _ _ h => h), h.2.trans hk (fun _ _ h => h.elim)⟩
set_option maxHeartbeats 4000000 in
theorem r11_set (c : Cf) (uc : Value) (G : Nat → Prop) (s : SZ) (x : IdZ) (k : Int) (hk : -9223372036854775808 ≤ k ∧ k ≤ 9223372036854775807) (d : List UInt8) (AD : Option Addr) (cD : Nat) (u : Value) (F : Nat → Prop) (w : World) (hc : CL w G uc c.l) (hu : StM w F u s) (hd : By w F (.slice AD d.length cD) d) (h24 : s.ents.length ≤ 1024) (hpl : ∀ e ∈ s.ents, e.parts.length ≤ 64) :
    Calls Tryz.prog 60 #[confV c uc, u, .agg #[.int .i64 x.ix, .int .i64 x.gen], .int .i64 k, .slice AD d.length cD] w fun e w' => ∃ u', e = .returned (.tuple #[u', .int .i64 (setR c.l s x k d).2]) ∧ StM w' (SF F w) u' (setR c.l s x k d).1 ∧ Keep (fun _ => False) w w' := by
  have PL := Lib.hid (fun X (hk : Keep (fun _ => False) w X) => r11_placeI s x u F X (hu.same hk))
  have SI := Lib.hid (fun X (hk' : Keep (fun _ => False) w X) => r11_size c uc G k X (hc.same hk') hk)
  have WI := Lib.hid (fun X (hk : Keep (fun _ => False) w X) y pv p (hp : p < s.ents.length) (hy : NS parN X (SN F w (w.heap.size + 1 + 1 + 1)) pv y.parts) => r11_with s y pv p hp u (SN F w (w.heap.size + 1 + 1 + 1)) X ((hu.low.mono (fun b hb h => h.sn (by omega))).same hk) hy h24)
  obtain ⟨Au, cu, rfl, -⟩ := hc
  obtain ⟨A1, c1, A2, c2, A3, c3, rfl, h1, h2, h3, h4, h5, h6, g1, g2, g3⟩ := hu.form
  have HU := Lib.hid hu
  have HE := Lib.hid (show NS entN w (FL F w) (.slice A3 s.ents.length c3) s.ents from g3.mono (fun b hb h => ⟨h, hb⟩))
  unfold maxLen at *
  unfold confV at *
  obtain ⟨R, hR⟩ : ∃ R, setR c.l s x k d = R := ⟨_, rfl⟩
  rw [hR]
  have G0 := Lib.hid (show placeR s x = none → R = (s, 5) from fun h => by rw [← hR]; unfold setR; rw [h])
  have G1 := Lib.hid (show ∀ p, placeR s x = some p → sizeR c.l k = none → R = (s, 6) from fun p h h' => by rw [← hR]; unfold setR; rw [h, h'])
  have G2 := Lib.hid (show ∀ p z, placeR s x = some p → sizeR c.l k = some z → (d.length : Int) ≠ z → R = (s, 7) from fun p z h h' h1 => by rw [← hR]; unfold setR; rw [h, h']; dsimp only; rw [if_pos h1])
  have G3 := Lib.hid (show ∀ p z P, placeR s x = some p → sizeR c.l k = some z → (s.ents.getD p default).parts = P → ¬ (d.length : Int) ≠ z → R = (⟨s.gens, s.free, s.ents.set p ⟨x, setP k d P⟩⟩, 0) from fun p z P h h' h1 h2 => by rw [← hR]; unfold setR; rw [h, h']; dsimp only; rw [h1, if_neg h2])
  have PL64 := Lib.hid (show ∀ (p : Nat) P, s.ents[p]? = some ⟨x, P⟩ → P.length ≤ 64 from fun p P h => hpl _ (List.mem_of_getElem? h))
  obtain ⟨pi, hpi⟩ : ∃ pi, placeI s x = pi := ⟨_, rfl⟩
  have P0 := Lib.hid (show placeR s x = none → pi = -1 from fun h => hpi.symm.trans (placeI_none h))
  have P1 := Lib.hid (show ∀ p, placeR s x = some p → pi = (p : Int) ∧ p < s.ents.length ∧ ∃ P, s.ents[p]? = some ⟨x, P⟩ ∧ (s.ents.getD p default).parts = P from fun p h => by
    have := placeI_some h
    rw [hpi] at this; exact this)
  obtain ⟨zi, hzi⟩ : ∃ zi, (sizeR c.l k).getD 0 = zi := ⟨_, rfl⟩
  obtain ⟨zb, hzb⟩ : ∃ zb, (sizeR c.l k).isSome = zb := ⟨_, rfl⟩
  rw [hpi] at PL
  rw [hzi, hzb] at SI
  generalize c.l.length = nl at *
  have HD0 := Lib.hid (show By w (FL F w) (.slice AD d.length cD) d from hd.mono (fun b hb h => ⟨h, hb⟩))
  have hdc : d.length ≤ cD ∧ cD ≤ 2 ^ 63 - 1 := by
    obtain ⟨A, c', e, h1, h2, -⟩ := hd
    injection e with _ _ e3
    subst e3
    exact ⟨h1, h2⟩
  obtain ⟨nd, hnd⟩ : ∃ nd, d.length = nd := ⟨_, rfl⟩
  rw [hnd] at HD0 G2 G3 hdc ⊢
  clear hd hnd
  obtain ⟨n, hn⟩ : ∃ n, s.ents.length = n := ⟨_, rfl⟩
  have HN := Lib.hid hn
  rw [hn] at HE P1 PL h5 HU WI h24 ⊢
  clear hn hR hpi hu g1 g2 g3 h1 h2 h3 h4 hk hpl
  generalize s.gens.length = n1 at *
  generalize s.free.length = n2 at *
  go_enter Tryz.func60, Tryz.ntmps60
  go_upto_region 1 with fail
  refine wp_world (S := fun X => X.heap[w.heap.size]? = some (.cells #[.int .i64 c.log, .int .i64 c.pages, .int .i64 c.ents, .int .i64 c.gens, .slice Au nl cu] 24 (0, 0)) ∧ X.heap[w.heap.size + 1]? = some (.cells #[.slice A1 n1 c1, .slice A2 n2 c2, .slice A3 n c3] 28 (0, 0)) ∧ X.heap[w.heap.size + 1 + 1]? = some (.cells #[.int .i64 x.ix, .int .i64 x.gen] 40 (0, 0)) ∧ X.heap[w.heap.size + 1 + 1 + 1]? = some (.cells #[.slice none 0 0, .slice none 0 0, .slice none 0 0] 28 (0, 0)) ∧ Keep (fun _ => False) w X) ⟨(by (try simp only [heap_drew']); (try simp only [World.heap_drewN]); repeat (first | exact heap_alloc_at _ _ _ (by first | rfl | simp) | rw [Below.heap_alloc _ _ _ (by first | (simp; done) | (simp; omega))])), (by (try simp only [heap_drew']); (try simp only [World.heap_drewN]); repeat (first | exact heap_alloc_at _ _ _ (by first | rfl | simp) | rw [Below.heap_alloc _ _ _ (by first | (simp; done) | (simp; omega))])), (by (try simp only [heap_drew']); (try simp only [World.heap_drewN]); repeat (first | exact heap_alloc_at _ _ _ (by first | rfl | simp) | rw [Below.heap_alloc _ _ _ (by first | (simp; done) | (simp; omega))])), (by (try simp only [heap_drew']); (try simp only [World.heap_drewN]); repeat (first | exact heap_alloc_at _ _ _ (by first | rfl | simp) | rw [Below.heap_alloc _ _ _ (by first | (simp; done) | (simp; omega))])), by exact (by repeat first | (with_reducible assumption) | (with_reducible exact Keep.refl _ _) | (with_reducible refine Keep.alloc ?_ _) | (with_reducible refine Keep.drew ?_) | (with_reducible refine Keep.drewN ?_ _) | (with_reducible refine Keep.setCell ?_ (.inl (by first | omega | (simp; done) | (simp; omega) | fail)) _))⟩ ?_
  rintro X ⟨b1, b2, b3, b4, hkX⟩
  have HX := Lib.hid (And.intro b1 (And.intro b2 (And.intro b3 (And.intro b4 hkX))))
  have zX : w.heap.size + 1 + 1 + 1 < X.heap.size := (Array.getElem?_eq_some_iff.1 b4).1
  have AT := Lib.hid (show ∀ Y, Keep (fun _ => False) X Y → Y.heap[w.heap.size]? = some (.cells #[.int .i64 c.log, .int .i64 c.pages, .int .i64 c.ents, .int .i64 c.gens, .slice Au nl cu] 24 (0, 0)) ∧ Y.heap[w.heap.size + 1]? = some (.cells #[.slice A1 n1 c1, .slice A2 n2 c2, .slice A3 n c3] 28 (0, 0)) ∧ Y.heap[w.heap.size + 1 + 1]? = some (.cells #[.int .i64 x.ix, .int .i64 x.gen] 40 (0, 0)) ∧ Y.heap[w.heap.size + 1 + 1 + 1]? = some (.cells #[.slice none 0 0, .slice none 0 0, .slice none 0 0] 28 (0, 0)) ∧ Keep (fun _ => False) w Y from fun Y hk => ⟨(hk.block _ (by omega) (fun h => h)).trans b1, (hk.block _ (by omega) (fun h => h)).trans b2, (hk.block _ (by omega) (fun h => h)).trans b3, (hk.block _ (by omega) (fun h => h)).trans b4, hkX.trans hk (fun _ _ h => h)⟩)
  obtain ⟨x0, x1, x2, xf⟩ := cells3 b2
  obtain ⟨y0, y1, yf⟩ := cells2 b3
  clear b1 b2 b3 b4
  go_wp2_with fail
  with_reducible refine (PL.out X hkX).mono ?_
  rintro e w1 ⟨rfl, k1⟩
  have B1 := Lib.hid (AT.out w1 k1)
  have HK1 := Lib.hid k1
  clear k1 x0 x1 x2 xf y0 y1 yf hkX
  cases hpl : placeR s x with
  | none =>
    obtain rfl := P0.out hpl
    have RS := Lib.hid (G0.out hpl)
    have hlt : (-1 : Int) < 0 := by omega
    clear hpl
    obtain ⟨x0, x1, x2, xf⟩ := cells3 B1.out.2.1
    obtain ⟨z0, z1, z2, zf⟩ := cells3 B1.out.2.2.2.1
    go_wp2
    refine bodyPost_ret (results_st2 Tryz.results60 _ _ (w.heap.size + 1 + 1 + 1) (.slice A1 n1 c1) (.slice A2 n2 c2) (.slice A3 n c3) ?_ ?_ (.int .i64 5) ?_) ?_ ⟨.agg #[.slice A1 n1 c1, .slice A2 n2 c2, .slice A3 n c3], ?_, ?_, ?_⟩
    · rfl
    · exact heap_3J B1.out.2.2.2.1 _ _ _
    · rfl
    · rfl
    · rw [RS.out]
    · rw [RS.out]; exact (HU.out.err B1.out.2.2.2.2 (by omega)).1
    · exact (HU.out.err B1.out.2.2.2.2 (by omega)).2
  | some p =>
    obtain ⟨rfl, hp2, P, hp3, hp4⟩ := P1.out p hpl
    have hlt : ¬ ((p : Int) < 0) := by omega
    obtain ⟨x0, x1, x2, x3, x4, xf⟩ := cells5 B1.out.1
    go_wp2_with fail
    with_reducible refine (SI.out w1 B1.out.2.2.2.2).mono ?_
    rintro e w2 ⟨rfl, k2⟩
    have HK2 := Lib.hid (HK1.out.trans k2 (fun _ _ h => h))
    have B2 := Lib.hid (AT.out w2 HK2.out)
    clear k2 x0 x1 x2 x3 x4 xf
    cases hsz : sizeR c.l k with
    | none =>
      rw [hsz] at hzi hzb
      subst hzi hzb
      have RS := Lib.hid (G1.out p hpl hsz)
      clear hpl hsz hp3 hp4
      simp only [Option.isSome]
      obtain ⟨x0, x1, x2, xf⟩ := cells3 B2.out.2.1
      obtain ⟨z0, z1, z2, zf⟩ := cells3 B2.out.2.2.2.1
      go_wp2
      refine bodyPost_ret (results_st2 Tryz.results60 _ _ (w.heap.size + 1 + 1 + 1) (.slice A1 n1 c1) (.slice A2 n2 c2) (.slice A3 n c3) ?_ ?_ (.int .i64 6) ?_) ?_ ⟨.agg #[.slice A1 n1 c1, .slice A2 n2 c2, .slice A3 n c3], ?_, ?_, ?_⟩
      · rfl
      · exact heap_3J B2.out.2.2.2.1 _ _ _
      · rfl
      · rfl
      · rw [RS.out]
      · rw [RS.out]; exact (HU.out.err B2.out.2.2.2.2 (by omega)).1
      · exact (HU.out.err B2.out.2.2.2.2 (by omega)).2
    | some z =>
      rw [hsz] at hzi hzb
      subst hzi hzb
      simp only [Option.getD_some, Option.isSome_some]
      by_cases hdz : (nd : Int) ≠ z
      · have RS := Lib.hid (G2.out p z hpl hsz hdz)
        have ez : ((nd : Int) != z) = true := by simpa using hdz
        clear hpl hsz hp3 hp4
        obtain ⟨x0, x1, x2, xf⟩ := cells3 B2.out.2.1
        obtain ⟨z0, z1, z2, zf⟩ := cells3 B2.out.2.2.2.1
        go_wp2
        refine bodyPost_ret (results_st2 Tryz.results60 _ _ (w.heap.size + 1 + 1 + 1) (.slice A1 n1 c1) (.slice A2 n2 c2) (.slice A3 n c3) ?_ ?_ (.int .i64 7) ?_) ?_ ⟨.agg #[.slice A1 n1 c1, .slice A2 n2 c2, .slice A3 n c3], ?_, ?_, ?_⟩
        · rfl
        · exact heap_3J B2.out.2.2.2.1 _ _ _
        · rfl
        · rfl
        · rw [RS.out]
        · rw [RS.out]; exact (HU.out.err B2.out.2.2.2.2 (by omega)).1
        · exact (HU.out.err B2.out.2.2.2.2 (by omega)).2
      · have RS := Lib.hid (G3.out p z P hpl hsz hp4 hdz)
        have ez : ((nd : Int) != z) = false := by simpa using hdz
        have hi0 : (p : Int) < (n : Int) := by omega
        have h00 : (0 : Int) ≤ (p : Int) := by omega
        obtain ⟨b, off, e0, q, rfl, -, hx, hin, hc⟩ := NS.at_ (HE.out.same B2.out.2.2.2.2) hp2
        obtain rfl : e0 = ⟨x, P⟩ := Option.some.inj (hx.symm.trans hp3)
        have f2 := hc 2 _ rfl
        simp only [show entN.m = 3 from rfl] at f2
        replace hin : NS parN w2 (FL F w) q P := hin
        have HIN := Lib.hid hin
        obtain ⟨A4, c4, rfl, hcm, hpn⟩ := NS.form hin
        obtain ⟨x0, x1, x2, xf⟩ := cells3 B2.out.2.1
        have hp64 := PL64.out p P hp3
        obtain ⟨np, hnp⟩ : ∃ np, P.length = np := ⟨_, rfl⟩
        have HNP := Lib.hid hnp
        rw [hnp] at HIN hpn f2 hp64
        have hww := B2.out.2.2.2.2.size
        have zw2 : w.heap.size + 1 + 1 + 1 < w2.heap.size := by have := HK2.out.size; omega
        obtain ⟨ip, hip, ip0, ip1, ip2⟩ := info_parts info_part
        clear hx hin hc hnp hpl hsz hp3 hp4 hdz
        go_upto_region 13 with fail
        clear x0 x1 x2 xf f2
        go_loopw [15, 16, 18] (fun y b i wr => ∃ (j m : Nat) (A5 : Option Addr) (c5 : Nat) (L : List PtZ) (q : Bool), j ≤ np ∧ m ≤ 2 * j ∧ y = .slice A5 m c5 ∧ b = .bool q ∧ i = .int .i64 (j : Int) ∧ Hid (L.length = m) ∧ Hid ((L, q) = setB k d (P.take j)) ∧ Hid (BL parN (FL F w) 91 w2 wr (.slice A5 m c5) L)) (fun _ _ i _ => np - (intOf i).toNat)
        case atStart => exact ⟨0, 0, none, 0, [], false, by omega, by omega, rfl, rfl, rfl, Lib.hid rfl, Lib.hid (by simp [setB]), Lib.hid ⟨⟨[], rfl, Own.none_ _ _ _ _ _, fun i x v h => by simp at h⟩, Keep.refl _ _⟩⟩
        case round =>
          obtain ⟨j, m, A5, c5, L, q, hj, hmj, rfl, rfl, rfl, HL5, hlq, HB5⟩ := hrel
          by_cases hlt : j < np
          · have hi : (j : Int) < (np : Int) := by omega
            have h0 : (0 : Int) ≤ (j : Int) := by omega
            obtain ⟨b9, off9, y9, dv9, eA4, hF9, hy9, hin9, hc9⟩ := NS.at_ HIN.out hlt
            subst eA4
            have g0 := hc9 0 _ rfl
            have g1 := hc9 1 _ rfl
            simp only [show parN.m = 2 from rfl, Nat.add_zero] at g0 g1
            have hb9 : ¬ (w2.heap.size ≤ b9) := by have := hF9.2; omega
            have T9 := setB_next k d hy9
            rw [← hlq.out] at T9
            obtain ⟨cc, dat⟩ := y9
            have HY := Lib.hid (show ∀ W', Keep (fun b => w2.heap.size ≤ b) w2 W' → By W' (FL F w) dv9 dat from fun W' hk => By.keep (show By w2 (FL F w) dv9 dat from hin9) hk (fun b _ h e => by have := h.2; have : w2.heap.size ≤ b := e; omega))
            obtain ⟨A9, c9, rfl, -⟩ := (show By w2 (FL F w) dv9 dat from hin9)
            simp only at g0 g1
            unfold setF at T9
            dsimp only at T9
            generalize dat.length = n9 at *
            clear hc9 hy9 hin9 hF9
            have f0 := HB5.out.2.cell hb9 g0
            have f1 := HB5.out.2.cell hb9 g1
            cases q with
            | false =>
              by_cases hge : k ≤ cc
              · have NXE := Lib.hid (show cc = k → (L ++ [(⟨k, d⟩ : PtZ)], true) = setB k d (P.take (j + 1)) from fun h => by rw [T9, decide_eq_true hge, if_pos (by rfl), if_pos h])
                have NXN := Lib.hid (show ¬ cc = k → (L ++ [⟨k, d⟩] ++ [⟨cc, dat⟩], true) = setB k d (P.take (j + 1)) from fun h => by rw [T9, decide_eq_true hge, if_pos (by rfl), if_neg h])
                clear T9
                have SZ5 := HB5.out.2.size
                have KW5 := Lib.hid (show Keep (fun _ => False) w wr from B2.out.2.2.2.2.trans HB5.out.2 (fun b hb h => by have : w2.heap.size ≤ b := h; omega))
                have HD5 := Lib.hid (show ∀ W', Keep (fun _ => False) wr W' → By W' (fun b => FL F w b ∧ ownB (.slice A5 m c5) ≠ some b) (.slice AD nd cD) d from fun W' hk => ((HD0.out.keep KW5.out (fun _ _ _ h => h)).keep hk (fun _ _ _ h => h)).mono (fun b _ h => ⟨h, fun e => by have := (HB5.out.1.own_lt e).1; have := h.2; omega⟩))
                go_wp2_with (first
                  | (at_builtin; refine wpList_pushY (by rfl) _ _ _ (by rfl) parN (FL F w) w2.heap.size 91 ip _ 32 Tryz.underlying87 hip ip0 ip1 ip2 rfl _ L m HL5.out (by rfl) (HB5.out.1.keep (S := fun _ => False) (by exact (by repeat first | (with_reducible assumption) | (with_reducible exact Keep.refl _ _) | (with_reducible refine Keep.alloc ?_ _) | (with_reducible refine Keep.drew ?_) | (with_reducible refine Keep.drewN ?_ _) | (with_reducible refine Keep.setCell ?_ (.inl (by first | omega | (simp; done) | (simp; omega) | fail)) _))) (fun _ _ h => h) (fun _ _ _ _ h => h)) _ _ (⟨k, d⟩ : PtZ) (.slice AD nd cD) (by rfl) (by first | exact litP _ _ _ _ _ | exact litPd _ _ _ _ _ | exact litPe _ _ _ _ _) (HD5.out _ (by exact (by repeat first | (with_reducible assumption) | (with_reducible exact Keep.refl _ _) | (with_reducible refine Keep.alloc ?_ _) | (with_reducible refine Keep.drew ?_) | (with_reducible refine Keep.drewN ?_ _) | (with_reducible refine Keep.setCell ?_ (.inl (by first | omega | (simp; done) | (simp; omega) | fail)) _)))) (by unfold maxLen; omega) (by omega) (by (try simp); omega) ?_)
                  | fail)
                intro A6 c6 w6 hn6 hk6 ho6
                have HB6 := Lib.hid (BL.push HB5.out (by exact (by repeat first | (with_reducible assumption) | (with_reducible exact Keep.refl _ _) | (with_reducible refine Keep.alloc ?_ _) | (with_reducible refine Keep.drew ?_) | (with_reducible refine Keep.drewN ?_ _) | (with_reducible refine Keep.setCell ?_ (.inl (by first | omega | (simp; done) | (simp; omega) | fail)) _))) hn6 hk6)
                have HL6 := Lib.hid (show (L ++ [(⟨k, d⟩ : PtZ)]).length = m + 1 by rw [List.length_append, HL5.out]; rfl)
                clear hn6 hk6 ho6
                clear f0 f1
                have f0 := HB6.out.2.cell hb9 g0
                have f1 := HB6.out.2.cell hb9 g1
                obtain ⟨L6, eL6⟩ : ∃ L6, L ++ [(⟨k, d⟩ : PtZ)] = L6 := ⟨_, rfl⟩
                rw [eL6] at HB6 HL6 NXE NXN
                clear eL6
                by_cases he : cc = k
                · have ex : (cc != k) = false := by simpa using he
                  have NX := NXE.out he
                  go_wp2
                  go_roundw
                  case rel => exact ⟨j + 1, (m + 1), A6, c6, L6, true, by omega, by omega, rfl, by first | rfl | trivial, by go_num, HL6, Lib.hid NX, by (first | exact HB6 | exact Lib.hid (HB6.out.same (by exact (by repeat first | (with_reducible assumption) | (with_reducible exact Keep.refl _ _) | (with_reducible refine Keep.alloc ?_ _) | (with_reducible refine Keep.drew ?_) | (with_reducible refine Keep.drewN ?_ _) | (with_reducible refine Keep.setCell ?_ (.inl (by first | omega | (simp; done) | (simp; omega) | fail)) _)))))⟩
                  case measure => simp [intOf]; omega
                · have ex : (cc != k) = true := by simpa using he
                  have NX := NXN.out he
                  have SZ6 := HB6.out.2.size
                  have KW6 := Lib.hid (show Keep (fun _ => False) w w6 from B2.out.2.2.2.2.trans HB6.out.2 (fun b hb h => by have : w2.heap.size ≤ b := h; omega))
                  have HD6 := Lib.hid (show ∀ W', Keep (fun _ => False) w6 W' → By W' (fun b => FL F w b ∧ ownB (.slice A6 (m + 1) c6) ≠ some b) (.slice A9 n9 c9) dat from fun W' hk => ((HY.out w6 HB6.out.2).keep hk (fun _ _ _ h => h)).mono (fun b _ h => ⟨h, fun e => by have := (HB6.out.1.own_lt e).1; have := h.2; omega⟩))
                  go_wp2_with (first
                    | (at_builtin; refine wpList_pushY (by rfl) _ _ _ (by rfl) parN (FL F w) w2.heap.size 91 ip _ 32 Tryz.underlying87 hip ip0 ip1 ip2 rfl _ L6 (m + 1) HL6.out (by rfl) (HB6.out.1.keep (S := fun _ => False) (by exact (by repeat first | (with_reducible assumption) | (with_reducible exact Keep.refl _ _) | (with_reducible refine Keep.alloc ?_ _) | (with_reducible refine Keep.drew ?_) | (with_reducible refine Keep.drewN ?_ _) | (with_reducible refine Keep.setCell ?_ (.inl (by first | omega | (simp; done) | (simp; omega) | fail)) _))) (fun _ _ h => h) (fun _ _ _ _ h => h)) _ _ (⟨cc, dat⟩ : PtZ) (.slice A9 n9 c9) (by rfl) (by first | exact litP _ _ _ _ _ | exact litPd _ _ _ _ _ | exact litPe _ _ _ _ _) (HD6.out _ (by exact (by repeat first | (with_reducible assumption) | (with_reducible exact Keep.refl _ _) | (with_reducible refine Keep.alloc ?_ _) | (with_reducible refine Keep.drew ?_) | (with_reducible refine Keep.drewN ?_ _) | (with_reducible refine Keep.setCell ?_ (.inl (by first | omega | (simp; done) | (simp; omega) | fail)) _)))) (by unfold maxLen; omega) (by omega) (by (try simp); omega) ?_)
                    | fail)
                  intro A7 c7 w7 hn7 hk7 ho7
                  have HB7 := Lib.hid (BL.push HB6.out (by exact (by repeat first | (with_reducible assumption) | (with_reducible exact Keep.refl _ _) | (with_reducible refine Keep.alloc ?_ _) | (with_reducible refine Keep.drew ?_) | (with_reducible refine Keep.drewN ?_ _) | (with_reducible refine Keep.setCell ?_ (.inl (by first | omega | (simp; done) | (simp; omega) | fail)) _))) hn7 hk7)
                  have HL7 := Lib.hid (show (L6 ++ [(⟨cc, dat⟩ : PtZ)]).length = (m + 1) + 1 by rw [List.length_append, HL6.out]; rfl)
                  clear hn7 hk7 ho7
                  go_wp2
                  go_roundw
                  case rel => exact ⟨j + 1, ((m + 1) + 1), A7, c7, (L6 ++ [⟨cc, dat⟩]), true, by omega, by omega, rfl, by first | rfl | trivial, by go_num, HL7, Lib.hid NX, by (first | exact HB7 | exact Lib.hid (HB7.out.same (by exact (by repeat first | (with_reducible assumption) | (with_reducible exact Keep.refl _ _) | (with_reducible refine Keep.alloc ?_ _) | (with_reducible refine Keep.drew ?_) | (with_reducible refine Keep.drewN ?_ _) | (with_reducible refine Keep.setCell ?_ (.inl (by first | omega | (simp; done) | (simp; omega) | fail)) _)))))⟩
                  case measure => simp [intOf]; omega
              · have NXE := Lib.hid (show cc = k → (L, false) = setB k d (P.take (j + 1)) from fun h => by omega)
                have NXN := Lib.hid (show ¬ cc = k → (L ++ [⟨cc, dat⟩], false) = setB k d (P.take (j + 1)) from fun h => by rw [T9, decide_eq_false hge, if_neg (by decide), if_neg h])
                clear T9
                by_cases he : cc = k
                · exact absurd he (by omega)
                · have ex : (cc != k) = true := by simpa using he
                  have NX := NXN.out he
                  have SZ5 := HB5.out.2.size
                  have KW5 := Lib.hid (show Keep (fun _ => False) w wr from B2.out.2.2.2.2.trans HB5.out.2 (fun b hb h => by have : w2.heap.size ≤ b := h; omega))
                  have HD5 := Lib.hid (show ∀ W', Keep (fun _ => False) wr W' → By W' (fun b => FL F w b ∧ ownB (.slice A5 m c5) ≠ some b) (.slice A9 n9 c9) dat from fun W' hk => ((HY.out wr HB5.out.2).keep hk (fun _ _ _ h => h)).mono (fun b _ h => ⟨h, fun e => by have := (HB5.out.1.own_lt e).1; have := h.2; omega⟩))
                  go_wp2_with (first
                    | (at_builtin; refine wpList_pushY (by rfl) _ _ _ (by rfl) parN (FL F w) w2.heap.size 91 ip _ 32 Tryz.underlying87 hip ip0 ip1 ip2 rfl _ L m HL5.out (by rfl) (HB5.out.1.keep (S := fun _ => False) (by exact (by repeat first | (with_reducible assumption) | (with_reducible exact Keep.refl _ _) | (with_reducible refine Keep.alloc ?_ _) | (with_reducible refine Keep.drew ?_) | (with_reducible refine Keep.drewN ?_ _) | (with_reducible refine Keep.setCell ?_ (.inl (by first | omega | (simp; done) | (simp; omega) | fail)) _))) (fun _ _ h => h) (fun _ _ _ _ h => h)) _ _ (⟨cc, dat⟩ : PtZ) (.slice A9 n9 c9) (by rfl) (by first | exact litP _ _ _ _ _ | exact litPd _ _ _ _ _ | exact litPe _ _ _ _ _) (HD5.out _ (by exact (by repeat first | (with_reducible assumption) | (with_reducible exact Keep.refl _ _) | (with_reducible refine Keep.alloc ?_ _) | (with_reducible refine Keep.drew ?_) | (with_reducible refine Keep.drewN ?_ _) | (with_reducible refine Keep.setCell ?_ (.inl (by first | omega | (simp; done) | (simp; omega) | fail)) _)))) (by unfold maxLen; omega) (by omega) (by (try simp); omega) ?_)
                    | fail)
                  intro A6 c6 w6 hn6 hk6 ho6
                  have HB6 := Lib.hid (BL.push HB5.out (by exact (by repeat first | (with_reducible assumption) | (with_reducible exact Keep.refl _ _) | (with_reducible refine Keep.alloc ?_ _) | (with_reducible refine Keep.drew ?_) | (with_reducible refine Keep.drewN ?_ _) | (with_reducible refine Keep.setCell ?_ (.inl (by first | omega | (simp; done) | (simp; omega) | fail)) _))) hn6 hk6)
                  have HL6 := Lib.hid (show (L ++ [(⟨cc, dat⟩ : PtZ)]).length = m + 1 by rw [List.length_append, HL5.out]; rfl)
                  clear hn6 hk6 ho6
                  go_wp2
                  go_roundw
                  case rel => exact ⟨j + 1, (m + 1), A6, c6, (L ++ [⟨cc, dat⟩]), false, by omega, by omega, rfl, by first | rfl | trivial, by go_num, HL6, Lib.hid NX, by (first | exact HB6 | exact Lib.hid (HB6.out.same (by exact (by repeat first | (with_reducible assumption) | (with_reducible exact Keep.refl _ _) | (with_reducible refine Keep.alloc ?_ _) | (with_reducible refine Keep.drew ?_) | (with_reducible refine Keep.drewN ?_ _) | (with_reducible refine Keep.setCell ?_ (.inl (by first | omega | (simp; done) | (simp; omega) | fail)) _)))))⟩
                  case measure => simp [intOf]; omega
            | true =>
              have NXE := Lib.hid (show cc = k → (L, true) = setB k d (P.take (j + 1)) from fun h => by rw [T9, if_neg (by simp), if_pos h])
              have NXN := Lib.hid (show ¬ cc = k → (L ++ [⟨cc, dat⟩], true) = setB k d (P.take (j + 1)) from fun h => by rw [T9, if_neg (by simp), if_neg h])
              clear T9
              by_cases he : cc = k
              · have ex : (cc != k) = false := by simpa using he
                have NX := NXE.out he
                go_wp2
                go_roundw
                case rel => exact ⟨j + 1, m, A5, c5, L, true, by omega, by omega, rfl, by first | rfl | trivial, by go_num, HL5, Lib.hid NX, by (first | exact HB5 | exact Lib.hid (HB5.out.same (by exact (by repeat first | (with_reducible assumption) | (with_reducible exact Keep.refl _ _) | (with_reducible refine Keep.alloc ?_ _) | (with_reducible refine Keep.drew ?_) | (with_reducible refine Keep.drewN ?_ _) | (with_reducible refine Keep.setCell ?_ (.inl (by first | omega | (simp; done) | (simp; omega) | fail)) _)))))⟩
                case measure => simp [intOf]; omega
              · have ex : (cc != k) = true := by simpa using he
                have NX := NXN.out he
                have SZ5 := HB5.out.2.size
                have KW5 := Lib.hid (show Keep (fun _ => False) w wr from B2.out.2.2.2.2.trans HB5.out.2 (fun b hb h => by have : w2.heap.size ≤ b := h; omega))
                have HD5 := Lib.hid (show ∀ W', Keep (fun _ => False) wr W' → By W' (fun b => FL F w b ∧ ownB (.slice A5 m c5) ≠ some b) (.slice A9 n9 c9) dat from fun W' hk => ((HY.out wr HB5.out.2).keep hk (fun _ _ _ h => h)).mono (fun b _ h => ⟨h, fun e => by have := (HB5.out.1.own_lt e).1; have := h.2; omega⟩))
                go_wp2_with (first
                  | (at_builtin; refine wpList_pushY (by rfl) _ _ _ (by rfl) parN (FL F w) w2.heap.size 91 ip _ 32 Tryz.underlying87 hip ip0 ip1 ip2 rfl _ L m HL5.out (by rfl) (HB5.out.1.keep (S := fun _ => False) (by exact (by repeat first | (with_reducible assumption) | (with_reducible exact Keep.refl _ _) | (with_reducible refine Keep.alloc ?_ _) | (with_reducible refine Keep.drew ?_) | (with_reducible refine Keep.drewN ?_ _) | (with_reducible refine Keep.setCell ?_ (.inl (by first | omega | (simp; done) | (simp; omega) | fail)) _))) (fun _ _ h => h) (fun _ _ _ _ h => h)) _ _ (⟨cc, dat⟩ : PtZ) (.slice A9 n9 c9) (by rfl) (by first | exact litP _ _ _ _ _ | exact litPd _ _ _ _ _ | exact litPe _ _ _ _ _) (HD5.out _ (by exact (by repeat first | (with_reducible assumption) | (with_reducible exact Keep.refl _ _) | (with_reducible refine Keep.alloc ?_ _) | (with_reducible refine Keep.drew ?_) | (with_reducible refine Keep.drewN ?_ _) | (with_reducible refine Keep.setCell ?_ (.inl (by first | omega | (simp; done) | (simp; omega) | fail)) _)))) (by unfold maxLen; omega) (by omega) (by (try simp); omega) ?_)
                  | fail)
                intro A6 c6 w6 hn6 hk6 ho6
                have HB6 := Lib.hid (BL.push HB5.out (by exact (by repeat first | (with_reducible assumption) | (with_reducible exact Keep.refl _ _) | (with_reducible refine Keep.alloc ?_ _) | (with_reducible refine Keep.drew ?_) | (with_reducible refine Keep.drewN ?_ _) | (with_reducible refine Keep.setCell ?_ (.inl (by first | omega | (simp; done) | (simp; omega) | fail)) _))) hn6 hk6)
                have HL6 := Lib.hid (show (L ++ [(⟨cc, dat⟩ : PtZ)]).length = m + 1 by rw [List.length_append, HL5.out]; rfl)
                clear hn6 hk6 ho6
                go_wp2
                go_roundw
                case rel => exact ⟨j + 1, (m + 1), A6, c6, (L ++ [⟨cc, dat⟩]), true, by omega, by omega, rfl, by first | rfl | trivial, by go_num, HL6, Lib.hid NX, by (first | exact HB6 | exact Lib.hid (HB6.out.same (by exact (by repeat first | (with_reducible assumption) | (with_reducible exact Keep.refl _ _) | (with_reducible refine Keep.alloc ?_ _) | (with_reducible refine Keep.drew ?_) | (with_reducible refine Keep.drewN ?_ _) | (with_reducible refine Keep.setCell ?_ (.inl (by first | omega | (simp; done) | (simp; omega) | fail)) _)))))⟩
                case measure => simp [intOf]; omega
          · have hi : ¬ (j : Int) < (np : Int) := by omega
            obtain rfl : j = np := by omega
            have TT := Lib.hid (show (L, q) = setB k d P from by
              have := hlq.out
              rw [List.take_of_length_le (by rw [HNP.out]; exact Nat.le_refl _)] at this
              exact this)
            cases q with
            | true =>
              have FINL := Lib.hid (show L = setP k d P from by unfold setP; rw [← TT.out]; rfl)
              have SY := HB5.out.2.size
              have KY := Lib.hid (show Keep (fun b => X.heap.size ≤ b) X wr from (HK2.out.mono (fun _ _ h => h.elim)).trans HB5.out.2 (fun b _ h => by have := HK2.out.size; have : w2.heap.size ≤ b := h; omega))
              have BY := Lib.hid (AT.out wr (KY.out.trans (Keep.refl (fun _ => False) _) (fun _ _ h => h.elim) |> fun _ => HK2.out.trans HB5.out.2 (fun b hb h => by have := HK2.out.size; have : w2.heap.size ≤ b := h; omega)))
              have NP := Lib.hid (show NS parN wr (SN F w (w.heap.size + 1 + 1 + 1)) (.slice A5 m c5) (setP k d P) from by
                rw [← FINL.out]
                exact HB5.out.1.ns.mono (fun b _ h => h.elim (fun h => h.sn (by omega)) (fun h => ⟨.inr (by omega), by omega⟩)))
              obtain ⟨x0, x1, x2, xf⟩ := cells3 BY.out.2.1
              obtain ⟨y0, y1, yf⟩ := cells2 BY.out.2.2.1
              go_wp2_with fail
              with_reducible refine (WI.out _ BY.out.2.2.2.2 ⟨⟨x.ix, x.gen⟩, setP k d P⟩ _ p hp2 NP.out).mono ?_
              rintro e w8 ⟨u8, rfl, hst8, hb8⟩
              have H8 := Lib.hid (show StM w8 (SN F w (w.heap.size + 1 + 1 + 1)) u8 ⟨s.gens, s.free, s.ents.set p ⟨⟨x.ix, x.gen⟩, setP k d P⟩⟩ from hst8.mono (fun b _ h => h.elim (fun h => h.1) (fun h => ⟨.inr (by omega), by omega⟩)))
              obtain ⟨E1, q1, d1, E2, q2, d2, E3, q3, d3, rfl⟩ := H8.out.shape
              have hk8 := Keep.of_below' hb8
              have B8 := Lib.hid (show w8.heap[w.heap.size + 1 + 1 + 1]? = _ ∧ Keep (fun _ => False) w w8 from ⟨(hk8.block _ (Array.getElem?_eq_some_iff.1 BY.out.2.2.2.1).1 (fun h => h)).trans BY.out.2.2.2.1, BY.out.2.2.2.2.trans hk8 (fun _ _ h => h)⟩)
              clear hst8 hb8 hk8 x0 x1 x2 xf y0 y1 yf
              obtain ⟨z0, z1, z2, zf⟩ := cells3 B8.out.1
              go_wp2
              have hend := StEnd.mk H8.out B8.out.1 B8.out.2 (by omega)
              obtain ⟨E1', q1', d1', E2', q2', d2', E3', q3', d3', hb, hst, hkw⟩ := hend
              refine bodyPost_ret (results_st2 Tryz.results60 _ _ (w.heap.size + 1 + 1 + 1) (.slice E1' q1' d1') (.slice E2' q2' d2') (.slice E3' q3' d3') ?_ ?_ (.int .i64 0) ?_) ?_ ⟨.agg #[.slice E1' q1' d1', .slice E2' q2' d2', .slice E3' q3' d3'], ?_, ?_, ?_⟩
              · rfl
              · exact hb
              · rfl
              · rfl
              · rw [RS.out]
              · rw [RS.out]; exact hst
              · exact hkw
            | false =>
              have FINL := Lib.hid (show L ++ [(⟨k, d⟩ : PtZ)] = setP k d P from by unfold setP; rw [← TT.out]; rfl)
              have SZ5 := HB5.out.2.size
              have KW5 := Lib.hid (show Keep (fun _ => False) w wr from B2.out.2.2.2.2.trans HB5.out.2 (fun b hb h => by have : w2.heap.size ≤ b := h; omega))
              have HD5 := Lib.hid (show ∀ W', Keep (fun _ => False) wr W' → By W' (fun b => FL F w b ∧ ownB (.slice A5 m c5) ≠ some b) (.slice AD nd cD) d from fun W' hk => ((HD0.out.keep KW5.out (fun _ _ _ h => h)).keep hk (fun _ _ _ h => h)).mono (fun b _ h => ⟨h, fun e => by have := (HB5.out.1.own_lt e).1; have := h.2; omega⟩))
              go_wp2_with (first
                | (at_builtin; refine wpList_pushY (by rfl) _ _ _ (by rfl) parN (FL F w) w2.heap.size 91 ip _ 32 Tryz.underlying87 hip ip0 ip1 ip2 rfl _ L m HL5.out (by rfl) (HB5.out.1.keep (S := fun _ => False) (by exact (by repeat first | (with_reducible assumption) | (with_reducible exact Keep.refl _ _) | (with_reducible refine Keep.alloc ?_ _) | (with_reducible refine Keep.drew ?_) | (with_reducible refine Keep.drewN ?_ _) | (with_reducible refine Keep.setCell ?_ (.inl (by first | omega | (simp; done) | (simp; omega) | fail)) _))) (fun _ _ h => h) (fun _ _ _ _ h => h)) _ _ (⟨k, d⟩ : PtZ) (.slice AD nd cD) (by rfl) (by first | exact litP _ _ _ _ _ | exact litPd _ _ _ _ _ | exact litPe _ _ _ _ _) (HD5.out _ (by exact (by repeat first | (with_reducible assumption) | (with_reducible exact Keep.refl _ _) | (with_reducible refine Keep.alloc ?_ _) | (with_reducible refine Keep.drew ?_) | (with_reducible refine Keep.drewN ?_ _) | (with_reducible refine Keep.setCell ?_ (.inl (by first | omega | (simp; done) | (simp; omega) | fail)) _)))) (by unfold maxLen; omega) (by omega) (by (try simp); omega) ?_)
                | fail)
              intro A6 c6 w6 hn6 hk6 ho6
              have HB6 := Lib.hid (BL.push HB5.out (by exact (by repeat first | (with_reducible assumption) | (with_reducible exact Keep.refl _ _) | (with_reducible refine Keep.alloc ?_ _) | (with_reducible refine Keep.drew ?_) | (with_reducible refine Keep.drewN ?_ _) | (with_reducible refine Keep.setCell ?_ (.inl (by first | omega | (simp; done) | (simp; omega) | fail)) _))) hn6 hk6)
              have HL6 := Lib.hid (show (L ++ [(⟨k, d⟩ : PtZ)]).length = m + 1 by rw [List.length_append, HL5.out]; rfl)
              clear hn6 hk6 ho6
              have SY := HB6.out.2.size
              have KY := Lib.hid (show Keep (fun b => X.heap.size ≤ b) X w6 from (HK2.out.mono (fun _ _ h => h.elim)).trans HB6.out.2 (fun b _ h => by have := HK2.out.size; have : w2.heap.size ≤ b := h; omega))
              have BY := Lib.hid (AT.out w6 (KY.out.trans (Keep.refl (fun _ => False) _) (fun _ _ h => h.elim) |> fun _ => HK2.out.trans HB6.out.2 (fun b hb h => by have := HK2.out.size; have : w2.heap.size ≤ b := h; omega)))
              have NP := Lib.hid (show NS parN w6 (SN F w (w.heap.size + 1 + 1 + 1)) (.slice A6 (m + 1) c6) (setP k d P) from by
                rw [← FINL.out]
                exact HB6.out.1.ns.mono (fun b _ h => h.elim (fun h => h.sn (by omega)) (fun h => ⟨.inr (by omega), by omega⟩)))
              obtain ⟨x0, x1, x2, xf⟩ := cells3 BY.out.2.1
              obtain ⟨y0, y1, yf⟩ := cells2 BY.out.2.2.1
              go_wp2_with fail
              with_reducible refine (WI.out _ BY.out.2.2.2.2 ⟨⟨x.ix, x.gen⟩, setP k d P⟩ _ p hp2 NP.out).mono ?_
              rintro e w8 ⟨u8, rfl, hst8, hb8⟩
              have H8 := Lib.hid (show StM w8 (SN F w (w.heap.size + 1 + 1 + 1)) u8 ⟨s.gens, s.free, s.ents.set p ⟨⟨x.ix, x.gen⟩, setP k d P⟩⟩ from hst8.mono (fun b _ h => h.elim (fun h => h.1) (fun h => ⟨.inr (by omega), by omega⟩)))
              obtain ⟨E1, q1, d1, E2, q2, d2, E3, q3, d3, rfl⟩ := H8.out.shape
              have hk8 := Keep.of_below' hb8
              have B8 := Lib.hid (show w8.heap[w.heap.size + 1 + 1 + 1]? = _ ∧ Keep (fun _ => False) w w8 from ⟨(hk8.block _ (Array.getElem?_eq_some_iff.1 BY.out.2.2.2.1).1 (fun h => h)).trans BY.out.2.2.2.1, BY.out.2.2.2.2.trans hk8 (fun _ _ h => h)⟩)
              clear hst8 hb8 hk8 x0 x1 x2 xf y0 y1 yf
              obtain ⟨z0, z1, z2, zf⟩ := cells3 B8.out.1
              go_wp2
              have hend := StEnd.mk H8.out B8.out.1 B8.out.2 (by omega)
              obtain ⟨E1', q1', d1', E2', q2', d2', E3', q3', d3', hb, hst, hkw⟩ := hend
              refine bodyPost_ret (results_st2 Tryz.results60 _ _ (w.heap.size + 1 + 1 + 1) (.slice E1' q1' d1') (.slice E2' q2' d2') (.slice E3' q3' d3') ?_ ?_ (.int .i64 0) ?_) ?_ ⟨.agg #[.slice E1' q1' d1', .slice E2' q2' d2', .slice E3' q3' d3'], ?_, ?_, ?_⟩
              · rfl
              · exact hb
              · rfl
              · rfl
              · rw [RS.out]
              · rw [RS.out]; exact hst
              · exact hkw
end Go.Proofs.YtglliendhbkkhaaGreatDoor

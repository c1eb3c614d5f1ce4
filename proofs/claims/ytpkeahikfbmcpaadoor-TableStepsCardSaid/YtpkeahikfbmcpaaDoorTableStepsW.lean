/- The walk of vivariumlaw09.TableSteps: it returns true, old memory unchanged. -/
import Derived.Test.YtpkeahikfbmcpaaDoorTabY
import Derived.Deep.DeepCutAuto
namespace Go.Proofs.YtpkeahikfbmcpaaDoor
open Go.RowKit
set_option maxRecDepth 100000
set_option linter.unusedVariables false
set_option linter.unusedSimpArgs false

set_option maxHeartbeats 2000000 in
theorem tableSteps_walk (c : Cf) (u : Value) (sig : Nat) (hs : sig < 18446744073709551616) (l : List StZ) (v : Value) (k : Int) (hk : -9223372036854775808 ≤ k ∧ k ≤ 9223372036854775807) (W : World) (hu : CL W (fun _ => True) u c.l) (hv : NS stN W (fun _ => True) v l) (hR : ∀ x ∈ l, stR x) (hT : Tab W) :
    Calls Tryd.prog 3 #[confV c u, .int .u64 (sig : Int), v, .int .i64 k] W fun e w' => e = .returned (.bool true) ∧ Below W.heap.size W w' := by
  have MC := Lib.hid (fun X (hk : Keep (fun _ => False) W X) => rmuch_any c u _ X (hu.same hk))
  have ML := Lib.hid (fun X (hk : Keep (fun _ => False) W X) => much09 l v _ X (hv.same hk))
  have LV := Lib.hid (fun X (hk : Keep (fun b => W.heap.size ≤ b) W X) => live09 X (hT.keep hk (by have := hT.lt; omega)))
  have NW := Lib.hid (fun X (hk : Keep (fun _ => False) W X) (h4 : c.l.length ≤ 1000) => tnew_any c u _ sig hs X (hu.same hk) h4 (hT.same hk))
  have RN := Lib.hid (fun X (hk : Keep (fun _ => False) W X) (h4 : c.l.length ≤ 1000) => rnew_any c u _ sig hs X (hu.same hk) h4)
  have HV := Lib.hid (And.intro hv (And.intro hR hT))
  have MB := Lib.hid (show muchB c.l = false → c.l.length ≤ 1000 from fun h => by
    have := of_decide_eq_false (show decide _ = false from h)
    omega)
  obtain ⟨A, cap, rfl, hcm, hnc⟩ := hv.form
  unfold maxLen at hcm
  obtain ⟨A0, cap0, rfl, -⟩ := hu
  clear hv hR hT
  unfold confV at *
  obtain ⟨n, hn⟩ : ∃ n, l.length = n := ⟨_, rfl⟩
  have HN := Lib.hid hn
  generalize hlen0 : c.l.length = n0 at *
  generalize hmb : muchB c.l = b0 at *
  generalize hsg : sig &&& allOf c.l = sg at *
  generalize hsz : szOf c.l = sz at *
  clear hlen0 hmb hsg hsz
  rw [hn] at HV ML hnc ⊢
  clear hn
  go_enter Tryd.func3, Tryd.ntmps3
  go_wp2_with fail
  with_reducible refine (MC.out _ (by exact (by repeat first | (with_reducible assumption) | (with_reducible exact Keep.refl _ _) | (with_reducible refine Keep.alloc ?_ _) | (with_reducible refine Keep.drew ?_) | (with_reducible refine Keep.drewN ?_ _) | (with_reducible refine Keep.setCell ?_ (.inl (by first | omega | (simp; done) | (simp; omega) | fail)) _)))).mono ?_
  rintro e w1 ⟨rfl, hb1⟩
  have K1 := Lib.hid (show Keep (fun _ => False) W w1 ∧ w1.heap[W.heap.size]? = some (.cells #[.int .i64 c.log, .int .i64 c.pages, .int .i64 c.ents, .int .i64 c.gens, .slice A0 n0 cap0] 24 (0, 0)) from ⟨((Keep.refl (fun _ => False) W).alloc _).trans (Keep.of_below' hb1) (fun _ _ h => h), (hb1.block W.heap.size (by simp)).trans (heap_alloc_new W _)⟩)
  clear hb1
  have LVE := Lib.hid (fun X (hk : Keep (fun b => W.heap.size ≤ b) W X) => LV.out X hk)
  cases b0 with
  | true =>
    go_wp2_with fail
    with_reducible refine (LV.out _ (by exact (K1.out.1.mono (fun _ _ h => h.elim)).trans (T := fun _ => False) (by exact (by repeat first | (with_reducible assumption) | (with_reducible exact Keep.refl _ _) | (with_reducible refine Keep.alloc ?_ _) | (with_reducible refine Keep.drew ?_) | (with_reducible refine Keep.drewN ?_ _) | (with_reducible refine Keep.setCell ?_ (.inl (by first | omega | (simp; done) | (simp; omega) | fail)) _))) (fun _ _ h => h.elim))).mono ?_
    rintro e w2 ⟨rfl, hb2⟩
    have H2 := Lib.hid hb2
    clear hb2
    go_wp2
    go_ret
    exact ⟨rfl, ((K1.out.1.mono (T := fun b => W.heap.size ≤ b) (fun _ _ h => h.elim)).to_below (Nat.le_refl _)).trans (H2.out.mono (by have := K1.out.1.size; omega))⟩
  | false =>
    go_wp2_with fail
    with_reducible refine (ML.out _ K1.out.1).mono ?_
    rintro e w2 ⟨⟨b1, rfl, hb1⟩, rfl⟩
    have HB1 := Lib.hid hb1
    clear hb1
    cases b1 with
    | true =>
      go_wp2_with fail
      with_reducible refine (LV.out _ (K1.out.1.mono (fun _ _ h => h.elim))).mono ?_
      rintro e w3 ⟨rfl, hb2⟩
      have H2 := Lib.hid hb2
      clear hb2
      go_wp2
      go_ret
      exact ⟨rfl, ((K1.out.1.mono (T := fun b => W.heap.size ≤ b) (fun _ _ h => h.elim)).to_below (Nat.le_refl _)).trans (H2.out.mono (by have := K1.out.1.size; omega))⟩
    | false =>
      have h4 := MB.out (by simp)
      obtain ⟨x0, x1, x2, x3, x4, xf⟩ := cells5 K1.out.2
      have CE := Lib.hid (show ∀ W', Keep (fun _ => False) w1 W' → ((W'.cell? ⟨W.heap.size, 0, none⟩ = some (.int .i64 c.log) ∧ W'.cell? ⟨W.heap.size, 1, none⟩ = some (.int .i64 c.pages) ∧ W'.cell? ⟨W.heap.size, 2, none⟩ = some (.int .i64 c.ents) ∧ W'.cell? ⟨W.heap.size, 3, none⟩ = some (.int .i64 c.gens) ∧ W'.cell? ⟨W.heap.size, 4, none⟩ = some (.slice A0 n0 cap0)) ∧ Keep (fun _ => False) w1 W') from fun W' hk => ⟨⟨hk.cell (fun h => h) x0, hk.cell (fun h => h) x1, hk.cell (fun h => h) x2, hk.cell (fun h => h) x3, hk.cell (fun h => h) x4⟩, hk⟩)
      go_upto_region 3 with fail
      go_cut [9, 10] (fun t9 t10 wx => ∃ tp q, t9 = .pointer (some ⟨tp, 0, none⟩) ∧ t10 = .pointer (some ⟨q, 0, none⟩) ∧ Hid (TSt W tp q sg sz wx))
      case first =>
       go_region_held3 (fun W' => (W'.cell? ⟨W.heap.size, 0, none⟩ = some (.int .i64 c.log) ∧ W'.cell? ⟨W.heap.size, 1, none⟩ = some (.int .i64 c.pages) ∧ W'.cell? ⟨W.heap.size, 2, none⟩ = some (.int .i64 c.ents) ∧ W'.cell? ⟨W.heap.size, 3, none⟩ = some (.int .i64 c.gens) ∧ W'.cell? ⟨W.heap.size, 4, none⟩ = some (.slice A0 n0 cap0)) ∧ Keep (fun _ => False) w1 W') (exact CE.out _ (by exact (by repeat first | (with_reducible assumption) | (with_reducible exact Keep.refl _ _) | (with_reducible refine Keep.alloc ?_ _) | (with_reducible refine Keep.drew ?_) | (with_reducible refine Keep.drewN ?_ _) | (with_reducible refine Keep.setCell ?_ (.inl (by first | omega | (simp; done) | (simp; omega) | fail)) _)))) (first
        | (go_at_call 9; (with_reducible refine (NW.out _ (by exact K1.out.1.trans (T := fun _ => False) (by exact (by repeat first | (with_reducible assumption) | (with_reducible exact Keep.refl _ _) | (with_reducible refine Keep.alloc ?_ _) | (with_reducible refine Keep.drew ?_) | (with_reducible refine Keep.drewN ?_ _) | (with_reducible refine Keep.setCell ?_ (.inl (by first | omega | (simp; done) | (simp; omega) | fail)) _))) (fun _ _ h => h)) h4).mono ?_); rintro e w4 ⟨tp, rfl, hfr⟩; obtain ⟨mb, vs, cp, FC, htb, hb4, hlo⟩ := hfr.new; have k4 : Keep (fun _ => False) w1 w4 := Keep.trans (T := fun _ => False) (by exact (by repeat first | (with_reducible assumption) | (with_reducible exact Keep.refl _ _) | (with_reducible refine Keep.alloc ?_ _) | (with_reducible refine Keep.drew ?_) | (with_reducible refine Keep.drewN ?_ _) | (with_reducible refine Keep.setCell ?_ (.inl (by first | omega | (simp; done) | (simp; omega) | fail)) _))) (Keep.of_below' hb4) (fun _ _ h => h); have z4 := k4.size; have HF := Lib.hid (And.intro htb hlo); (first | (have aa := AlB.below (AlB.new _) hb4; obtain ⟨AL4, al4⟩ := aa) | (have aa := AlB.below (AlB.drew (AlB.new _)) hb4; obtain ⟨AL4, al4⟩ := aa) | skip); clear hfr htb hlo hb4)
        | (go_at_call 10; (with_reducible refine (RN.out _ (by exact K1.out.1.trans (T := fun _ => False) (by exact k4.trans (T := fun _ => False) (by exact (by repeat first | (with_reducible assumption) | (with_reducible exact Keep.refl _ _) | (with_reducible refine Keep.alloc ?_ _) | (with_reducible refine Keep.drew ?_) | (with_reducible refine Keep.drewN ?_ _) | (with_reducible refine Keep.setCell ?_ (.inl (by first | omega | (simp; done) | (simp; omega) | fail)) _))) (fun _ _ h => h)) (fun _ _ h => h)) h4).mono ?_); rintro e w5 ⟨u5, rfl, hrt, hb5⟩; have k45 : Keep (fun _ => False) w4 w5 := Keep.trans (T := fun _ => False) (by exact (by repeat first | (with_reducible assumption) | (with_reducible exact Keep.refl _ _) | (with_reducible refine Keep.alloc ?_ _) | (with_reducible refine Keep.drew ?_) | (with_reducible refine Keep.drewN ?_ _) | (with_reducible refine Keep.setCell ?_ (.inl (by first | omega | (simp; done) | (simp; omega) | fail)) _))) (Keep.of_below' hb5) (fun _ _ h => h); have k5 : Keep (fun _ => False) w1 w5 := k4.trans k45 (fun _ _ h => h); have z5 := k45.size; obtain ⟨Bc, dc, Bs, ds, Br, dr, rfl, -⟩ := hrt.form; have HR := Lib.hid hrt; (first | (have aa := AlB.below AL4 hb5; obtain ⟨AL5, al5⟩ := aa) | (have aa := AlB.below (AlB.drew AL4) hb5; obtain ⟨AL5, al5⟩ := aa) | (have aa := AlB.below (AlB.new _) hb5; obtain ⟨AL5, al5⟩ := aa) | (have aa := AlB.below (AlB.drew (AlB.new _)) hb5; obtain ⟨AL5, al5⟩ := aa) | skip); (first | (have cc := cells3 AL5; obtain ⟨q0, q1, q2, qf⟩ := cc) | skip); clear hrt hb5)
        | fail)
       all_goals
        go_wp2_with fail
        go_meet
        have z1 := K1.out.1.size
        have hlo : ∀ k, TF tp mb vs FC sg k → w1.heap.size ≤ k := fun k hk => by have := HF.out.2 k hk; (try simp at this); omega
        have hlt := HF.out.1.lt
        have hkW : Keep (fun _ => False) W w5 := K1.out.1.trans k5 (fun _ _ h => h)
        first
          | exact ⟨tp, _, rfl, rfl, Lib.hid (tst_first HF.out.1 (fun k hk => Nat.le_trans z1 (hlo k hk)) k45 HR.out (by first | omega | (simp; done) | (simp; omega)) ((Keep.refl _ w5).alloc _) (heap_alloc_new w5 _) (.inr (Nat.le_refl _)) (fun hF => by have := hlt _ hF; omega) (by omega) hkW)⟩
          | exact ⟨tp, _, rfl, rfl, Lib.hid (tst_first HF.out.1 (fun k hk => Nat.le_trans z1 (hlo k hk)) k45 HR.out (by first | omega | (simp; done) | (simp; omega)) (keep3 w5 _ _ _ _) (heap_three AL5 _ _ _) (.inl al5) (fun hF => by have h8 := hlt _ hF; have h9 := HF.out.2 _ hF; (try simp at h9); omega) (by omega) hkW)⟩
      case rest =>
        obtain ⟨tp, q, rfl, rfl, hst⟩ := hcut
        clear CE x0 x1 x2 x3 x4 xf
        go_wp2
        go_loopw [11] (fun i wr => ∃ j : Nat, j ≤ n ∧ i = .int .i64 j ∧ Hid (TSt W tp q sg sz wr)) (fun i _ => n - (intOf i).toNat)
        case atStart => exact ⟨0, by omega, rfl, hst⟩
        case round =>
          obtain ⟨j, hj, rfl, hst⟩ := hrel
          by_cases hlt : j < n
          · have f1 : (j : Int) < (n : Int) := by omega
            have f0 : (0 : Int) ≤ (j : Int) := by omega
            obtain ⟨b, off, x, pd, rfl, hbF, hx, hin, hc⟩ := NS.at_ (HV.out.1.mono (G := fun b => b < W.heap.size) (fun b hb _ => hb)) hlt
            have hbF : b < W.heap.size := hbF
            have hnb : ¬ W.heap.size ≤ b := by omega
            obtain ⟨p, d⟩ := pd
            have hxl := List.mem_of_getElem? hx
            have hxr := HV.out.2.1 x hxl
            have hin' : NS parN W (fun b => b < W.heap.size) p x.parts ∧ By W (fun b => b < W.heap.size) d x.data := hin
            obtain ⟨v0, v1, v2, hbox, DO⟩ := tst_do hst.out HV.out.2.2 x p d (hin'.1.mono (fun _ _ _ => trivial)) (By.mono hin'.2 (fun _ _ _ => trivial)) (by have := (HB1.out (by simp)).2 x hxl; omega) hxr.2
            have HDO := Lib.hid DO
            have hkw : Keep (fun b => W.heap.size ≤ b) W wr := by obtain ⟨_, _, _, _, _, _, _, _, _, _, _, _, _, _, _, _, h⟩ := hst.out; exact h
            obtain ⟨Ap, cp, rfl, -⟩ := hin'.1.form
            obtain ⟨Ad, cd, rfl, -⟩ := hin'.2
            have CC := Lib.hid (show ∀ X, Keep (fun b => W.heap.size ≤ b) W X → X.cell? ⟨b, off + j * 7, none⟩ = some (.int .i64 x.do_) ∧ X.cell? ⟨b, off + j * 7 + 1, none⟩ = some (.int .i64 x.id.ix) ∧ X.cell? ⟨b, off + j * 7 + 2, none⟩ = some (.int .i64 x.id.gen) ∧ X.cell? ⟨b, off + j * 7 + 3, none⟩ = some (.slice Ap x.parts.length cp) ∧ X.cell? ⟨b, off + j * 7 + 4, none⟩ = some (.int .i64 x.row) ∧ X.cell? ⟨b, off + j * 7 + 5, none⟩ = some (.int .i64 x.comp) ∧ X.cell? ⟨b, off + j * 7 + 6, none⟩ = some (.slice Ad x.data.length cd) from fun X hk => ⟨hk.cell hnb (hc 0 _ rfl), hk.cell hnb (hc 1 _ rfl), hk.cell hnb (hc 2 _ rfl), hk.cell hnb (hc 3 _ rfl), hk.cell hnb (hc 4 _ rfl), hk.cell hnb (hc 5 _ rfl), hk.cell hnb (hc 6 _ rfl)⟩)
            have TG := Lib.hid (fun (w1 : World) D (h : TMid W tp q sg sz x (.slice Ap x.parts.length cp) (.slice Ad x.data.length cd) v0 v1 v2 D w1) (X : World) (hk : Keep (fun _ => False) w1 X) (Y : World) (hkY : Keep (fun _ => False) X Y) => (h.same hk).go Y hkY)
            unfold stV at HDO TG
            clear hc hx hin hin' hxr hxl DO
            obtain ⟨do_, ⟨ix, gen⟩, parts, row, comp, data⟩ := x
            generalize hpl : parts.length = np at *
            generalize hdl : data.length = nd at *
            clear hpl hdl
            dsimp only at CC HDO TG
            obtain ⟨c0, c1, c2, c3, c4, c5, c6⟩ := CC.out wr hkw
            go_wp2_with fail
            with_reducible refine HDO.out.mono ?_
            rintro e w1 ⟨A1, n1, e1, A2, n2, e2, ix1, gen1, ok1, er1, rfl, hk1, HM⟩
            have K2 := Lib.hid (show Keep (fun b => W.heap.size ≤ b) W (w1.alloc (.cells #[.slice A1 n1 e1, .slice A2 n2 e2, .int .i64 ix1, .int .i64 gen1, .bool ok1, .int .i64 er1] 42 (0, 0))) from hk1.alloc _)
            have HM2 := Lib.hid (show TMid W tp q sg sz _ _ _ v0 v1 v2 _ (w1.alloc (.cells #[.slice A1 n1 e1, .slice A2 n2 e2, .int .i64 ix1, .int .i64 gen1, .bool ok1, .int .i64 er1] 42 (0, 0))) from HM.out.same ((Keep.refl _ _).alloc _))
            have HB2 := Lib.hid (heap_alloc_new w1 (.cells #[.slice A1 n1 e1, .slice A2 n2 e2, .int .i64 ix1, .int .i64 gen1, .bool ok1, .int .i64 er1] 42 (0, 0)))
            clear HM hk1 c0 c1 c2 c3 c4 c5 c6 HDO
            have hr12 : ∃ r12, r12 = w1.heap.size := ⟨_, rfl⟩
            obtain ⟨r12, hr12⟩ := hr12
            go_upto_region 10 with fail
            rw [← hr12] at HB2 ⊢
            clear hr12
            generalize w1.alloc (.cells #[.slice A1 n1 e1, .slice A2 n2 e2, .int .i64 ix1, .int .i64 gen1, .bool ok1, .int .i64 er1] 42 (0, 0)) = X at *
            obtain ⟨c0, c1, c2, c3, c4, c5, c6⟩ := CC.out X K2.out
            have hqX : X.heap[q]? = some (.cells #[v0, v1, v2] 35 (0, 0)) := by obtain ⟨_, _, _, _, _, _, _, _, _, _, _, _, _, _, h, _⟩ := HM2.out; exact h
            obtain ⟨x0, x1, x2, xf⟩ := cells3 hqX
            have GO := Lib.hid (fun Y (hk : Keep (fun _ => False) X Y) => TG.out X _ HM2.out X (Keep.refl _ _) Y hk)
            have S2 : ∀ W', Keep (fun _ => False) X W' → ((W'.cell? ⟨q, 0, none⟩ = some v0 ∧ W'.cell? ⟨q, 1, none⟩ = some v1 ∧ W'.cell? ⟨q, 2, none⟩ = some v2) ∧ (W'.cell? ⟨b, off + j * 7, none⟩ = some (.int .i64 do_) ∧ W'.cell? ⟨b, off + j * 7 + 1, none⟩ = some (.int .i64 ix) ∧ W'.cell? ⟨b, off + j * 7 + 2, none⟩ = some (.int .i64 gen) ∧ W'.cell? ⟨b, off + j * 7 + 3, none⟩ = some (.slice Ap np cp) ∧ W'.cell? ⟨b, off + j * 7 + 4, none⟩ = some (.int .i64 row) ∧ W'.cell? ⟨b, off + j * 7 + 5, none⟩ = some (.int .i64 comp) ∧ W'.cell? ⟨b, off + j * 7 + 6, none⟩ = some (.slice Ad nd cd)) ∧ Keep (fun _ => False) X W') := fun W' hk => ⟨⟨hk.cell (fun h => h) x0, hk.cell (fun h => h) x1, hk.cell (fun h => h) x2⟩, ⟨hk.cell (fun h => h) c0, hk.cell (fun h => h) c1, hk.cell (fun h => h) c2, hk.cell (fun h => h) c3, hk.cell (fun h => h) c4, hk.cell (fun h => h) c5, hk.cell (fun h => h) c6⟩, hk⟩
            have CE2 := Lib.hid S2
            clear S2 TG CC
            go_cut [13, 14] (fun t13 t14 wx => ∃ p13 p14 A n c A' n' c' A'' n'' c'' B1 m1 g1 B2 m2 g2 ix gen ok er, t13 = .pointer (some ⟨p13, 0, none⟩) ∧ t14 = .pointer (some ⟨p14, 0, none⟩) ∧ Hid (TCut W X tp q sg sz p13 p14 (.slice A n c) (.slice A' n' c') (.slice A'' n'' c'') (.agg #[.slice A1 n1 e1, .slice A2 n2 e2, .int .i64 ix1, .int .i64 gen1, .bool ok1, .int .i64 er1]) (.slice B1 m1 g1) (.slice B2 m2 g2) (.int .i64 ix) (.int .i64 gen) (.bool ok) (.int .i64 er) wx))
            case first =>
              go_region_held3 (fun W' => (W'.cell? ⟨q, 0, none⟩ = some v0 ∧ W'.cell? ⟨q, 1, none⟩ = some v1 ∧ W'.cell? ⟨q, 2, none⟩ = some v2) ∧ (W'.cell? ⟨b, off + j * 7, none⟩ = some (.int .i64 do_) ∧ W'.cell? ⟨b, off + j * 7 + 1, none⟩ = some (.int .i64 ix) ∧ W'.cell? ⟨b, off + j * 7 + 2, none⟩ = some (.int .i64 gen) ∧ W'.cell? ⟨b, off + j * 7 + 3, none⟩ = some (.slice Ap np cp) ∧ W'.cell? ⟨b, off + j * 7 + 4, none⟩ = some (.int .i64 row) ∧ W'.cell? ⟨b, off + j * 7 + 5, none⟩ = some (.int .i64 comp) ∧ W'.cell? ⟨b, off + j * 7 + 6, none⟩ = some (.slice Ad nd cd)) ∧ Keep (fun _ => False) X W') (exact CE2.out _ (by exact (by repeat first | (with_reducible assumption) | (with_reducible exact Keep.refl _ _) | (with_reducible refine Keep.alloc ?_ _) | (with_reducible refine Keep.drew ?_) | (with_reducible refine Keep.drewN ?_ _) | (with_reducible refine Keep.setCell ?_ (.inl (by first | omega | (simp; done) | (simp; omega) | fail)) _)))) (first
                | (go_at_call 12; (with_reducible refine (GO.out _ (by exact (by repeat first | (with_reducible assumption) | (with_reducible exact Keep.refl _ _) | (with_reducible refine Keep.alloc ?_ _) | (with_reducible refine Keep.drew ?_) | (with_reducible refine Keep.drewN ?_ _) | (with_reducible refine Keep.setCell ?_ (.inl (by first | omega | (simp; done) | (simp; omega) | fail)) _)))).mono ?_); rintro e w6 ⟨A, n, c, A', n', c', A'', n'', c'', B1, m1, g1, B2, m2, g2, ix, gen, ok, er, rfl, hb6, HG⟩; have k6 : Keep (fun _ => False) X w6 := Keep.trans (T := fun _ => False) (by exact (by repeat first | (with_reducible assumption) | (with_reducible exact Keep.refl _ _) | (with_reducible refine Keep.alloc ?_ _) | (with_reducible refine Keep.drew ?_) | (with_reducible refine Keep.drewN ?_ _) | (with_reducible refine Keep.setCell ?_ (.inl (by first | omega | (simp; done) | (simp; omega) | fail)) _))) (Keep.of_below' hb6) (fun _ _ h => h); have z6 := k6.size; (first | (have aa := AlB.below (AlB.new _) hb6; obtain ⟨AL, al⟩ := aa) | (have aa := AlB.below (AlB.drew (AlB.new _)) hb6; obtain ⟨AL, al⟩ := aa) | (have aa := AlB.below (AlB.alloc (AlB.new _) _) hb6; obtain ⟨AL, al⟩ := aa) | (have aa := AlB.below (AlB.drew (AlB.alloc (AlB.new _) _)) hb6; obtain ⟨AL, al⟩ := aa) | skip); (first | (have aa := AlG.below (AlG.new _) hb6; obtain ⟨AG, ag⟩ := aa) | (have aa := AlG.below (AlG.drew (AlG.new _)) hb6; obtain ⟨AG, ag⟩ := aa) | (have aa := AlG.below (AlG.alloc (AlG.new _) _) hb6; obtain ⟨AG, ag⟩ := aa) | (have aa := AlG.below (AlG.drew (AlG.alloc (AlG.new _) _)) hb6; obtain ⟨AG, ag⟩ := aa) | skip); (try simp only [World.size_alloc] at AL); (try simp only [World.size_alloc] at AG); (first | (have cc := cells3 AL; obtain ⟨q0, q1, q2, qf⟩ := cc; have pn1 := Nat.ne_of_gt (AlB.lt AL); have pn2 := Nat.ne_of_lt (AlB.lt AL); have qa0 := fun o => (cells3 (AlB.alloc AL o)).1; have qa1 := fun o => (cells3 (AlB.alloc AL o)).2.1; have qa2 := fun o => (cells3 (AlB.alloc AL o)).2.2.1; have qaf := fun o => (cells3 (AlB.alloc AL o)).2.2.2; have na0 := fun p x y z => (cells6 (set_new w6 p x y z (.cells #[.slice none 0 0, .slice none 0 0, .int .i64 0, .int .i64 0, .bool false, .int .i64 0] 42))).1; have na1 := fun p x y z => (cells6 (set_new w6 p x y z (.cells #[.slice none 0 0, .slice none 0 0, .int .i64 0, .int .i64 0, .bool false, .int .i64 0] 42))).2.1; have na2 := fun p x y z => (cells6 (set_new w6 p x y z (.cells #[.slice none 0 0, .slice none 0 0, .int .i64 0, .int .i64 0, .bool false, .int .i64 0] 42))).2.2.1; have na3 := fun p x y z => (cells6 (set_new w6 p x y z (.cells #[.slice none 0 0, .slice none 0 0, .int .i64 0, .int .i64 0, .bool false, .int .i64 0] 42))).2.2.2.1; have na4 := fun p x y z => (cells6 (set_new w6 p x y z (.cells #[.slice none 0 0, .slice none 0 0, .int .i64 0, .int .i64 0, .bool false, .int .i64 0] 42))).2.2.2.2.1; have na5 := fun p x y z => (cells6 (set_new w6 p x y z (.cells #[.slice none 0 0, .slice none 0 0, .int .i64 0, .int .i64 0, .bool false, .int .i64 0] 42))).2.2.2.2.2.1; have naf := fun p x y z => (cells6 (set_new w6 p x y z (.cells #[.slice none 0 0, .slice none 0 0, .int .i64 0, .int .i64 0, .bool false, .int .i64 0] 42))).2.2.2.2.2.2) | skip); (first | (have cc := cells6 AG; obtain ⟨t0, t1, t2, t3, t4, t5, tf⟩ := cc; have pg1 := Nat.ne_of_gt (AlG.lt AG); have pg2 := Nat.ne_of_lt (AlG.lt AG); have ta0 := fun o => (cells6 (AlG.alloc AG o)).1; have ta1 := fun o => (cells6 (AlG.alloc AG o)).2.1; have ta2 := fun o => (cells6 (AlG.alloc AG o)).2.2.1; have ta3 := fun o => (cells6 (AlG.alloc AG o)).2.2.2.1; have ta4 := fun o => (cells6 (AlG.alloc AG o)).2.2.2.2.1; have ta5 := fun o => (cells6 (AlG.alloc AG o)).2.2.2.2.2.1; have taf := fun o => (cells6 (AlG.alloc AG o)).2.2.2.2.2.2) | skip))
                | fail)
              all_goals
                go_wp2_with fail
                go_meet
                first
                  | with_reducible exact ⟨_, _, A, n, c, A', n', c', A'', n'', c'', B1, m1, g1, B2, m2, g2, ix, gen, ok, er, rfl, rfl, Lib.hid (tcut1 HG.out k6)⟩
                  | with_reducible exact ⟨_, _, A, n, c, A', n', c', A'', n'', c'', B1, m1, g1, B2, m2, g2, ix, gen, ok, er, rfl, rfl, Lib.hid (tcut2 HG.out k6)⟩
                  | with_reducible exact ⟨_, _, A, n, c, A', n', c', A'', n'', c'', B1, m1, g1, B2, m2, g2, ix, gen, ok, er, rfl, rfl, Lib.hid (tcut4 HG.out k6 AL AG (by omega) (by omega) (by first | exact al | (simp; done) | (simp; omega)) (by omega) (by first | exact ag | (simp; done) | (simp; omega)))⟩
                  | with_reducible exact ⟨_, _, A, n, c, A', n', c', A'', n'', c'', B1, m1, g1, B2, m2, g2, ix, gen, ok, er, rfl, rfl, Lib.hid (tcut5 HG.out k6 AG (by omega) ag)⟩
                  | with_reducible exact ⟨_, _, A, n, c, A', n', c', A'', n'', c'', B1, m1, g1, B2, m2, g2, ix, gen, ok, er, rfl, rfl, Lib.hid (tcut3c HG.out k6 AL (by omega) al)⟩
                  | with_reducible exact ⟨_, _, A, n, c, A', n', c', A'', n'', c'', B1, m1, g1, B2, m2, g2, ix, gen, ok, er, rfl, rfl, Lib.hid (tcut3 HG.out k6 AL (by omega) al)⟩
                  | with_reducible exact ⟨_, _, A, n, c, A', n', c', A'', n'', c'', B1, m1, g1, B2, m2, g2, ix, gen, ok, er, rfl, rfl, Lib.hid (tcut3b HG.out k6 AL (by omega) al)⟩
                  | fail "SEE"
            case rest =>
              clear CE2 c0 c1 c2 c3 c4 c5 c6 x0 x1 x2 xf
              obtain ⟨p13, p14, A, n5, c, A', n', c', A'', n'', c'', B1, m1, g1, B2, m2, g2, ix, gen, ok, er, rfl, rfl, hc⟩ := hcut
              have hqr : q ≠ r12 := fun e => by
                rw [e] at hqX
                have := hqX.symm.trans HB2.out
                simp at this
              have hql := (Array.getElem?_eq_some_iff.1 hqX).1
              have hrl := (Array.getElem?_eq_some_iff.1 HB2.out).1
              obtain ⟨g13, g14, l13, l14, gk, gt⟩ := hc.out
              have gq := (gk.block q hql (fun h => h)).trans hqX
              have gr := (gk.block r12 hrl (fun h => h)).trans HB2.out
              obtain ⟨x0, x1, x2, xf⟩ := cells3 gq
              obtain ⟨s0, s1, s2, sf⟩ := cells3 g13
              have hqp : ¬ q = p13 := by omega
              have k3 := keep3 wc q (.slice A n5 c) (.slice A' n' c') (.slice A'' n'' c'')
              have T3 := Lib.hid (And.intro (heap_three gq (.slice A n5 c) (.slice A' n' c') (.slice A'' n'' c'')) (And.intro ((k3.block r12 (Array.getElem?_eq_some_iff.1 gr).1 (fun e => hqr e.symm)).trans gr) (And.intro ((k3.block p14 (Array.getElem?_eq_some_iff.1 g14).1 (fun e => by omega)).trans g14) gt)))
              clear gq gr g13 g14 gk gt k3 hc l13 l14 hqX hql hrl hqr HB2 HM2 K2 GO
              go_upto_region 12 with fail
              refine wp_world (S := fun W3 => W3.heap[q]? = some (.cells #[.slice A n5 c, .slice A' n' c', .slice A'' n'' c''] 35 (0, 0)) ∧ W3.heap[r12]? = some (.cells #[.slice A1 n1 e1, .slice A2 n2 e2, .int .i64 ix1, .int .i64 gen1, .bool ok1, .int .i64 er1] 42 (0, 0)) ∧ W3.heap[p14]? = some (.cells #[.slice B1 m1 g1, .slice B2 m2 g2, .int .i64 ix, .int .i64 gen, .bool ok, .int .i64 er] 42 (0, 0)) ∧ ∃ t, TSt W tp q sg sz W3 ∧ TlSt W3 (fun _ => True) (.agg #[.slice A1 n1 e1, .slice A2 n2 e2, .int .i64 ix1, .int .i64 gen1, .bool ok1, .int .i64 er1]) t ∧ TlSt W3 (fun _ => True) (.agg #[.slice B1 m1 g1, .slice B2 m2 g2, .int .i64 ix, .int .i64 gen, .bool ok, .int .i64 er]) t) T3.out ?_
              rintro W3 ⟨w3q, w3r, w3p, t, w3s, w3d, w3e⟩
              clear T3 x0 x1 x2 xf s0 s1 s2 sf
              have SM := Lib.hid (fun Y (hY : Keep (fun _ => False) W3 Y) => same_told t _ _ _ _ Y (w3d.same hY) (w3e.same hY))
              have SA := Lib.hid (fun Y (hY : Keep (fun _ => False) W3 Y) => w3s.same_ w3q k hk Y hY)
              have H3 := Lib.hid (And.intro w3q w3s)
              obtain ⟨y0, y1, y2, y3, y4, y5, yf⟩ := cells6 w3r
              obtain ⟨z0, z1, z2, z3, z4, z5, zf⟩ := cells6 w3p
              clear w3q w3r w3p w3s w3d w3e
              go_wp2_with fail
              with_reducible refine (SM.out _ (by exact (by repeat first | (with_reducible assumption) | (with_reducible exact Keep.refl _ _) | (with_reducible refine Keep.alloc ?_ _) | (with_reducible refine Keep.drew ?_) | (with_reducible refine Keep.drewN ?_ _) | (with_reducible refine Keep.setCell ?_ (.inl (by first | omega | (simp; done) | (simp; omega) | fail)) _)))).mono ?_
              rintro e w4 ⟨rfl, hk4⟩
              have K4 := Lib.hid (show Keep (fun _ => False) W3 w4 from Keep.trans (T := fun _ => False) (by exact (by repeat first | (with_reducible assumption) | (with_reducible exact Keep.refl _ _) | (with_reducible refine Keep.alloc ?_ _) | (with_reducible refine Keep.drew ?_) | (with_reducible refine Keep.drewN ?_ _) | (with_reducible refine Keep.setCell ?_ (.inl (by first | omega | (simp; done) | (simp; omega) | fail)) _))) hk4 (fun _ _ h => h))
              clear hk4 y0 y1 y2 y3 y4 y5 yf z0 z1 z2 z3 z4 z5 zf
              obtain ⟨x0, x1, x2, xf⟩ := cells3 ((K4.out.block q (Array.getElem?_eq_some_iff.1 H3.out.1).1 (fun h => h)).trans H3.out.1)
              go_wp2_with fail
              with_reducible refine (SA.out _ (by exact K4.out.trans (T := fun _ => False) (by exact (by repeat first | (with_reducible assumption) | (with_reducible exact Keep.refl _ _) | (with_reducible refine Keep.alloc ?_ _) | (with_reducible refine Keep.drew ?_) | (with_reducible refine Keep.drewN ?_ _) | (with_reducible refine Keep.setCell ?_ (.inl (by first | omega | (simp; done) | (simp; omega) | fail)) _))) (fun _ _ h => h))).mono ?_
              rintro e w5 ⟨rfl, hb5⟩
              have H5 := Lib.hid (H3.out.2.same (K4.out.trans (Keep.of_below' hb5) (fun _ _ h => h)))
              clear hb5 x0 x1 x2 xf
              go_wp2
              go_roundw
              case rel => exact ⟨j + 1, by omega, by go_num, H5⟩
              case measure => simp [intOf]; omega
          · obtain rfl : j = n := by omega
            have f1 : ¬ (j : Int) < (j : Int) := by omega
            have hst0 := hst.out
            obtain ⟨mb, vs, cp, FC, ids, col, v0, v1, v2, h1, h2, h3, h4', h5, h6, h7, h8⟩ := hst0
            have SA := Lib.hid (fun Y (hY : Keep (fun _ => False) wr Y) => hst.out.same_ h6 k hk Y hY)
            have H8 := Lib.hid h8
            obtain ⟨x0, x1, x2, xf⟩ := cells3 h6
            clear h1 h2 h3 h4' h5 h6 h7 h8
            go_wp2_with fail
            with_reducible refine (SA.out _ (by exact (by repeat first | (with_reducible assumption) | (with_reducible exact Keep.refl _ _) | (with_reducible refine Keep.alloc ?_ _) | (with_reducible refine Keep.drew ?_) | (with_reducible refine Keep.drewN ?_ _) | (with_reducible refine Keep.setCell ?_ (.inl (by first | omega | (simp; done) | (simp; omega) | fail)) _)))).mono ?_
            rintro e w5 ⟨rfl, hb5⟩
            have K5 := Lib.hid (show Keep (fun b => W.heap.size ≤ b) W w5 from H8.out.trans (Keep.of_below' hb5) (fun _ _ h => h.elim))
            clear hb5 x0 x1 x2 xf
            go_wp2_with fail
            with_reducible refine (LV.out _ (by exact K5.out)).mono ?_
            rintro e w6 ⟨rfl, hb6⟩
            have H6 := Lib.hid hb6
            clear hb6
            go_wp2
            go_ret
            exact ⟨rfl, (K5.out.to_below (Nat.le_refl _)).trans (H6.out.mono (by have := K5.out.size; omega))⟩
end Go.Proofs.YtpkeahikfbmcpaaDoor

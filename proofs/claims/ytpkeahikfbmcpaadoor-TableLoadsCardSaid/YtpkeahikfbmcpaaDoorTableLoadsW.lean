/- The walk of vivariumlaw09.TableLoads: it returns true, old memory unchanged. Printed by gentableloads.py. -/
import Derived.Test.YtpkeahikfbmcpaaDoorTabY
import Derived.Test.YtpkeahikfbmcpaaDoorTabV
import Derived.Deep.DeepCutAuto
namespace Go.Proofs.YtpkeahikfbmcpaaDoor
open Go.RowKit
set_option maxRecDepth 100000
set_option linter.unusedVariables false
set_option linter.unusedSimpArgs false

theorem colL_len {sig : Nat} {sz : Nat → Nat} {n : Nat} {cols : List (List UInt8)} (c : Nat) (hc : c ∈ bl sig 64) : (colL (bl sig 64) sz n cols (bl sig 64) c).length = n := by
  unfold colL
  rw [if_pos hc, rowsOf_len]
theorem tst_load {W w4 w5 : World} {tp mb : Nat} {vs : Value} {cp : Nat → Nat} {FC : Nat → Nat → Prop} {sg : Nat} {sz : Nat → Nat} {ids : List IdZ} {col : Nat → List (List UInt8)} {a b c : Value} {B : Nat} (htb : Tb w4 tp mb vs cp FC sg sz ids col) (hlen : ∀ c, c ∈ bl sg 64 → (col c).length = ids.length) (hlo : ∀ k, TF tp mb vs FC sg k → W.heap.size ≤ k) (k45 : Keep (fun _ => False) w4 w5)
    (hrt : RT w5 (fun b => b < W.heap.size ∨ B ≤ b) (.agg #[a, b, c]) (bl sg 64) sz (rowsT sg ids col)) (hB : w4.heap.size ≤ B) (hkW : Keep (fun _ => False) W w5) : TSt W tp w5.heap.size sg sz (w5.alloc (.cells #[a, b, c] 35 (0, 0))) := by
  have hs := hkW.size
  have h45 := k45.size
  have kx := (Keep.refl (fun _ => False) w5).alloc (.cells #[a, b, c] 35 (0, 0))
  exact ⟨mb, vs, cp, FC, ids, col, a, b, c, (htb.same k45).same kx, hlen, hlo, fun hF => by have := htb.lt _ hF; omega, hs, heap_alloc_new w5 _,
    ((hrt.mono (G := fun b => (b < W.heap.size ∨ B ≤ b) ∧ b < w5.heap.size) (fun b hb h => ⟨h, hb⟩)).keep kx (fun _ _ _ h => h)).mono (fun b _ h => ⟨fun hF => by
      have h1 := htb.lt b hF
      have h2 := hlo b hF
      rcases h.1 with h | h <;> omega, fun e => by have := h.2; omega⟩), (hkW.mono (T := fun b => W.heap.size ≤ b) (fun _ _ h => h.elim)).trans kx (fun _ _ h => h.elim)⟩
set_option maxHeartbeats 2000000 in
theorem tableLoads_walk (c : Cf) (u : Value) (sig : Nat) (hs : sig < 18446744073709551616) (ids : List IdZ) (vI : Value) (cols : List (List UInt8)) (vC : Value) (l : List StZ) (v : Value) (k : Int) (hk : -9223372036854775808 ≤ k ∧ k ≤ 9223372036854775807) (W : World) (hu : CL W (fun _ => True) u c.l) (hI : Sl W (fun _ => True) 2 vI ids.length (ids.flatMap idC)) (hC : Bys W (fun _ => True) vC cols) (hv : NS stN W (fun _ => True) v l) (hR : ∀ x ∈ l, stR x) (hT : Tab W) :
    Calls Tryd.prog 4 #[confV c u, .int .u64 (sig : Int), vI, vC, v, .int .i64 k] W fun e w' => e = .returned (.bool true) ∧ Below W.heap.size W w' := by
  have MC := Lib.hid (fun X (hk : Keep (fun _ => False) W X) => rmuch_any c u _ X (hu.same hk))
  have ML := Lib.hid (fun X (hk : Keep (fun _ => False) W X) => much09 l v _ X (hv.same hk))
  have LV := Lib.hid (fun X (hk : Keep (fun b => W.heap.size ≤ b) W X) => live09 X (hT.keep hk (by have := hT.lt; omega)))
  have LD := Lib.hid (fun X (hk : Keep (fun _ => False) W X) (h4 : c.l.length ≤ 1000) (hw : ∀ x ∈ cols, x.length ≤ 1099511627776) => tload_any c u _ sig hs ids vI _ cols vC _ X (hu.same hk) h4 (hI.keep hk (fun _ _ _ h => h)) (hC.keep hk (fun _ _ _ h => h)) hw (hT.same hk))
  have RL := Lib.hid (fun X (hk : Keep (fun _ => False) W X) (h4 : c.l.length ≤ 1000) (hw : ∀ x ∈ cols, x.length ≤ 1099511627776) => rload_any c u _ sig hs ids vI _ cols vC (fun b => b < W.heap.size) X (hu.same hk) h4 (hI.keep hk (fun _ _ _ h => h)) ((hC.mono (G := fun b => b < W.heap.size) (fun b hb _ => hb)).keep hk (fun _ _ _ h => h)) hw)
  have HV := Lib.hid (And.intro hv (And.intro hR hT))
  have HCC := Lib.hid (fun X (hk : Keep (fun _ => False) W X) => hC.keep hk (fun _ _ _ h => h))
  have CLN := Lib.hid (show ∀ d, d ∈ bl sig 64 → (colL (bl sig 64) (szOf c.l) ids.length cols (bl sig 64) d).length = ids.length from fun d hd => colL_len d hd)
  have MB := Lib.hid (show muchB c.l = false → c.l.length ≤ 1000 from fun h => by
    have := of_decide_eq_false (show decide _ = false from h)
    omega)
  obtain ⟨A, cap, rfl, hcm, hnc⟩ := hv.form
  obtain ⟨AI, cI, rfl, hI1, hI2, -⟩ := hI
  obtain ⟨AC, cC, rfl, hC1, hC2, -⟩ := hC.form
  unfold maxLen at hcm hI2 hC2
  obtain ⟨A0, cap0, rfl, -⟩ := hu
  clear hv hR hT hC
  unfold confV at *
  unfold LoadR at RL
  obtain ⟨n, hn⟩ : ∃ n, l.length = n := ⟨_, rfl⟩
  have HN := Lib.hid hn
  generalize hlk : loadOk c.l sig ids.length cols = LOK at *
  generalize hlen0 : c.l.length = n0 at *
  generalize hmb : muchB c.l = b0 at *
  generalize hsz : szOf c.l = sz at *
  clear hlen0 hmb hsz hlk
  generalize hcol : colL (bl sig 64) sz ids.length cols (bl sig 64) = col at *
  clear hcol
  obtain ⟨nI, hnI⟩ : ∃ nI, ids.length = nI := ⟨_, rfl⟩
  have HNI := Lib.hid hnI
  obtain ⟨nC, hnC⟩ : ∃ nC, cols.length = nC := ⟨_, rfl⟩
  have HNC := Lib.hid hnC
  rw [hn] at HV ML hnc ⊢
  rw [hnI] at LD RL hI1 ⊢
  rw [hnC] at LD RL HCC hC1 ⊢
  clear hn hnI hnC
  go_enter Tryd.func4, Tryd.ntmps4
  go_upto_region 1 with fail
  refine wp_world (S := fun X => X.heap[W.heap.size]? = some (.cells #[.int .i64 c.log, .int .i64 c.pages, .int .i64 c.ents, .int .i64 c.gens, .slice A0 n0 cap0] 24 (0, 0)) ∧ Keep (fun _ => False) W X) ⟨heap_alloc_new W _, (Keep.refl _ _).alloc _⟩ ?_
  intro X hX
  have HX := Lib.hid hX
  clear hX
  obtain ⟨x0, x1, x2, x3, x4, xf⟩ := cells5 HX.out.1
  go_cut [48] (fun t wx => ∃ g : Bool, t = .bool g ∧ Hid (g = false → n0 ≤ 1000 ∧ (n ≤ 60 ∧ ∀ x ∈ l, x.parts.length ≤ 40)) ∧ Hid (Keep (fun _ => False) W wx) ∧ Hid (wx.heap[W.heap.size]? = some (.cells #[.int .i64 c.log, .int .i64 c.pages, .int .i64 c.ents, .int .i64 c.gens, .slice A0 n0 cap0] 24 (0, 0))))
  case first =>
    go_wp2_with fail
    with_reducible refine (MC.out _ HX.out.2).mono ?_
    rintro e w1 ⟨rfl, hb1⟩
    have K1 := Lib.hid (show Keep (fun _ => False) W w1 ∧ w1.heap[W.heap.size]? = some (.cells #[.int .i64 c.log, .int .i64 c.pages, .int .i64 c.ents, .int .i64 c.gens, .slice A0 n0 cap0] 24 (0, 0)) from ⟨HX.out.2.trans (Keep.of_below' hb1) (fun _ _ h => h), (hb1.block W.heap.size (Array.getElem?_eq_some_iff.1 HX.out.1).1).trans HX.out.1⟩)
    clear hb1
    cases b0 with
    | true =>
      go_wp2_with fail
      go_meet
      exact ⟨true, rfl, Lib.hid (fun h => by cases h), Lib.hid K1.out.1, Lib.hid K1.out.2⟩
    | false =>
      have h4 := MB.out (by simp)
      have H4 := Lib.hid h4
      go_wp2_with fail
      with_reducible refine (ML.out _ K1.out.1).mono ?_
      rintro e w2 ⟨⟨b1, rfl, hb1⟩, rfl⟩
      have HB1 := Lib.hid hb1
      clear hb1 h4
      cases b1 with
      | true =>
        go_wp2_with fail
        go_meet
        exact ⟨true, rfl, Lib.hid (fun h => by cases h), Lib.hid K1.out.1, Lib.hid K1.out.2⟩
      | false =>
        have HB2 := Lib.hid (HB1.out (by simp))
        by_cases g1 : (100 : Int) < (nI : Int)
        · have e1 : decide ((100 : Int) < (nI : Int)) = true := decide_eq_true g1
          clear g1
          go_wp2_with fail
          go_meet
          exact ⟨true, rfl, Lib.hid (fun h => by cases h), Lib.hid K1.out.1, Lib.hid K1.out.2⟩
        · have e1 : decide ((100 : Int) < (nI : Int)) = false := decide_eq_false g1
          clear g1
          obtain ⟨g2, hg2⟩ : ∃ g2, decide ((70 : Int) < (nC : Int)) = g2 := ⟨_, rfl⟩
          go_wp2_with fail
          go_meet
          exact ⟨_, rfl, Lib.hid (fun h => ⟨H4.out, by rw [← HN.out]; exact HB2.out⟩), Lib.hid K1.out.1, Lib.hid K1.out.2⟩
  case rest =>
    obtain ⟨g, rfl, hg, hkw, hbox⟩ := hcut
    clear x0 x1 x2 x3 x4 xf HX MB MC ML
    cases g with
    | true =>
      go_wp2_with fail
      with_reducible refine (LV.out _ (hkw.out.mono (fun _ _ h => h.elim))).mono ?_
      rintro e w3 ⟨rfl, hb2⟩
      have H2 := Lib.hid hb2
      clear hb2
      go_wp2
      go_ret
      exact ⟨rfl, ((hkw.out.mono (T := fun b => W.heap.size ≤ b) (fun _ _ h => h.elim)).to_below (Nat.le_refl _)).trans (H2.out.mono (by have := hkw.out.size; omega))⟩
    | false =>
      have HG := Lib.hid (hg.out (by simp))
      clear hg
      have h4 := HG.out.1
      have H4 := Lib.hid h4
      clear h4
      obtain ⟨w1, hw1⟩ : ∃ w1, w1 = wc := ⟨_, rfl⟩
      subst hw1
      go_wp2
      go_loopw [13] (fun i wr => ∃ k' : Nat, k' ≤ nC ∧ i = .int .i64 k' ∧ Hid (Keep (fun _ => False) w1 wr) ∧ Hid (∀ t, t < k' → (cols.getD t []).length ≤ 1000)) (fun i _ => nC - (intOf i).toNat)
      case atStart => exact ⟨0, by omega, rfl, Lib.hid (Keep.refl _ _), Lib.hid (fun t h => absurd h (by omega))⟩
      case round =>
        obtain ⟨k', hk', rfl, hkr, hgd⟩ := hrel
        have HWr := Lib.hid (show Keep (fun _ => False) W wr from hkw.out.trans hkr.out (fun _ _ h => h))
        by_cases hlt : k' < nC
        · have f1 : (k' : Int) < (nC : Int) := by omega
          have f0 : (0 : Int) ≤ (k' : Int) := by omega
          obtain ⟨b2, o2, A1, d1, rfl, hcc, hby⟩ := bys_at (HCC.out wr HWr.out) k' hlt
          have GN := Lib.hid (show (cols.getD k' []).length ≤ 1000 → ∀ t, t < k' + 1 → (cols.getD t []).length ≤ 1000 from fun h t ht => by
            by_cases e : t = k'
            · rw [e]; exact h
            · exact hgd.out t (by omega))
          clear hby
          generalize (cols.getD k' []).length = lk at *
          by_cases hg : (1000 : Int) < (lk : Int)
          · have eg : decide ((1000 : Int) < (lk : Int)) = true := decide_eq_true hg
            clear hg
            go_wp2_with fail
            with_reducible refine (LV.out _ (by exact (HWr.out.mono (fun _ _ h => h.elim)).trans (T := fun _ => False) (by exact (by repeat first | (with_reducible assumption) | (with_reducible exact Keep.refl _ _) | (with_reducible refine Keep.alloc ?_ _) | (with_reducible refine Keep.drew ?_) | (with_reducible refine Keep.drewN ?_ _) | (with_reducible refine Keep.setCell ?_ (.inl (by first | omega | (simp; done) | (simp; omega) | fail)) _))) (fun _ _ h => h.elim))).mono ?_
            rintro e w3 ⟨rfl, hb2⟩
            have H2 := Lib.hid (show Below W.heap.size W w3 from ((((HWr.out.mono (T := fun b => W.heap.size ≤ b) (fun _ _ h => h.elim)).trans (T := fun _ => False) (by exact (by repeat first | (with_reducible assumption) | (with_reducible exact Keep.refl _ _) | (with_reducible refine Keep.alloc ?_ _) | (with_reducible refine Keep.drew ?_) | (with_reducible refine Keep.drewN ?_ _) | (with_reducible refine Keep.setCell ?_ (.inl (by first | omega | (simp; done) | (simp; omega) | fail)) _))) (fun _ _ h => h.elim)).trans (Keep.of_below' hb2) (fun _ _ h => h.elim)).to_below (Nat.le_refl _)))
            clear hb2
            go_wp2
            go_ret
            exact ⟨rfl, H2.out⟩
          · have eg : decide ((1000 : Int) < (lk : Int)) = false := decide_eq_false hg
            have GN2 := Lib.hid (GN.out (by omega))
            clear hg
            go_wp2
            go_roundw
            case rel => exact ⟨k' + 1, by omega, by go_num, Lib.hid (Keep.trans hkr.out (by exact (by repeat first | (with_reducible assumption) | (with_reducible exact Keep.refl _ _) | (with_reducible refine Keep.alloc ?_ _) | (with_reducible refine Keep.drew ?_) | (with_reducible refine Keep.drewN ?_ _) | (with_reducible refine Keep.setCell ?_ (.inl (by first | omega | (simp; done) | (simp; omega) | fail)) _))) (fun _ _ h => h)), GN2⟩
            case measure => simp [intOf]; omega
        · obtain rfl : k' = nC := by omega
          have f1 : ¬ (k' : Int) < (k' : Int) := by omega
          have hw : ∀ x ∈ cols, x.length ≤ 1099511627776 := fun x hx => by
            obtain ⟨t, ht, e⟩ := List.getElem_of_mem hx
            have := hgd.out t (by rw [← HNC.out]; exact ht)
            rw [List.getD_eq_getElem?_getD, List.getElem?_eq_getElem ht, e] at this
            have h3 : x.length ≤ 1000 := this
            omega
          have hbx := (hkr.out.block W.heap.size (Array.getElem?_eq_some_iff.1 hbox.out).1 (fun h => h)).trans hbox.out
          obtain ⟨x0, x1, x2, x3, x4, xf⟩ := cells5 hbx
          have LDW := Lib.hid (LD.out wr HWr.out H4.out hw)
          have RLW := Lib.hid (fun X hk => RL.out X hk H4.out hw)
          have HBX := Lib.hid hbx
          clear hw hbx LD RL HCC hgd
          go_wp2_with fail
          with_reducible refine LDW.out.mono ?_
          rintro e w4 h4'
          have NN : ∀ X : World, True := fun _ => trivial
          rcases h4' with ⟨hno, rfl, hb4⟩ | ⟨hyes, tp, rfl, mb, vs, cp, FC, htb, hb4, hlo⟩
          · have K4 := Lib.hid (show Keep (fun _ => False) W w4 from HWr.out.trans (Keep.of_below' hb4) (fun _ _ h => h))
            have hbx := (hb4.block W.heap.size (Array.getElem?_eq_some_iff.1 HBX.out).1).trans HBX.out
            clear x0 x1 x2 x3 x4 xf NN hb4
            obtain ⟨x0, x1, x2, x3, x4, xf⟩ := cells5 hbx
            go_wp2_with fail
            with_reducible refine (RLW.out _ K4.out).mono ?_
            rintro e w5 ⟨hr5, hb5⟩
            obtain rfl : e = _ := by
              rcases hr5 with ⟨-, h⟩ | ⟨h, -⟩
              · exact h
              · exact absurd h hno
            have K5 := Lib.hid (show Keep (fun _ => False) W w5 from K4.out.trans (Keep.of_below' hb5) (fun _ _ h => h))
            clear hr5 hb5 x0 x1 x2 x3 x4 xf hbx hno
            go_upto_region 10 with fail
            refine wp_world (S := fun X => Keep (fun _ => False) W X) (by exact K5.out.trans (T := fun _ => False) (by exact (by repeat first | (with_reducible assumption) | (with_reducible exact Keep.refl _ _) | (with_reducible refine Keep.alloc ?_ _) | (with_reducible refine Keep.drew ?_) | (with_reducible refine Keep.drewN ?_ _) | (with_reducible refine Keep.setCell ?_ (.inl (by first | omega | (simp; done) | (simp; omega) | fail)) _))) (fun _ _ h => h)) ?_
            intro Y5 hY5
            have HY5 := Lib.hid hY5
            clear hY5
            go_wp2_with (first
              | (go_at_call 17; with_reducible refine (nil_drop _ _).mono ?_; rintro e wa ⟨rfl, hka⟩; have KA : Keep (fun _ => False) Y5 wa := Keep.trans (T := fun _ => False) (by exact (by repeat first | (with_reducible assumption) | (with_reducible exact Keep.refl _ _) | (with_reducible refine Keep.alloc ?_ _) | (with_reducible refine Keep.drew ?_) | (with_reducible refine Keep.drewN ?_ _) | (with_reducible refine Keep.setCell ?_ (.inl (by first | omega | (simp; done) | (simp; omega) | fail)) _))) hka (fun _ _ h => h); clear hka)
              | (go_at_call 18; with_reducible refine (nil_get _ _ _).mono ?_; rintro e wb ⟨rfl, rfl⟩)
              | (go_at_call 19; with_reducible refine (nil_parts _ _).mono ?_; rintro e wb ⟨rfl, rfl⟩)
              | (go_at_call 20; with_reducible refine (nil_column _ _).mono ?_; rintro e wc' ⟨rfl, hkc⟩; have KC : Keep (fun _ => False) Y5 wc' := KA.trans (T := fun _ => False) (Keep.trans (T := fun _ => False) (by exact (by repeat first | (with_reducible assumption) | (with_reducible exact Keep.refl _ _) | (with_reducible refine Keep.alloc ?_ _) | (with_reducible refine Keep.drew ?_) | (with_reducible refine Keep.drewN ?_ _) | (with_reducible refine Keep.setCell ?_ (.inl (by first | omega | (simp; done) | (simp; omega) | fail)) _))) hkc (fun _ _ h => h)) (fun _ _ h => h); clear hkc)
              | (go_at_call 21; with_reducible refine (code09 _ _).mono ?_; rintro e wb ⟨rfl, rfl⟩)
              | (go_at_call 22; with_reducible refine (nil_add _ _ _ _ _ _).mono ?_; rintro e wd ⟨rfl, hkd⟩; have KD : Keep (fun _ => False) Y5 wd := KC.trans (T := fun _ => False) (Keep.trans (T := fun _ => False) (by exact (by repeat first | (with_reducible assumption) | (with_reducible exact Keep.refl _ _) | (with_reducible refine Keep.alloc ?_ _) | (with_reducible refine Keep.drew ?_) | (with_reducible refine Keep.drewN ?_ _) | (with_reducible refine Keep.setCell ?_ (.inl (by first | omega | (simp; done) | (simp; omega) | fail)) _))) hkd (fun _ _ h => h)) (fun _ _ h => h); clear hkd)
              | (go_at_call 23; with_reducible refine (nil_set _ _ _ _ _ _).mono ?_; rintro e wb ⟨rfl, rfl⟩)
              | (go_at_call 24; with_reducible refine (nil_len _).mono ?_; rintro e wb ⟨rfl, rfl⟩)
              | (go_at_call 25; with_reducible refine (nil_ids _).mono ?_; rintro e wb ⟨rfl, rfl⟩)
              | (go_at_call 26; with_reducible refine (nil_sig _).mono ?_; rintro e wb ⟨rfl, rfl⟩)
              | fail)
            with_reducible refine (LV.out _ (HY5.out.mono (T := fun b => W.heap.size ≤ b) (fun _ _ h => h.elim) |>.trans (T := fun _ => False) (KD.trans (T := fun _ => False) (by exact (by repeat first | (with_reducible assumption) | (with_reducible exact Keep.refl _ _) | (with_reducible refine Keep.alloc ?_ _) | (with_reducible refine Keep.drew ?_) | (with_reducible refine Keep.drewN ?_ _) | (with_reducible refine Keep.setCell ?_ (.inl (by first | omega | (simp; done) | (simp; omega) | fail)) _))) (fun _ _ h => h)) (fun _ _ h => h.elim))).mono ?_
            rintro e w9 ⟨rfl, hb9⟩
            have H9 := Lib.hid (show Below W.heap.size W w9 from ((((HY5.out.trans KD (fun _ _ h => h)).trans (T := fun _ => False) (by exact (by repeat first | (with_reducible assumption) | (with_reducible exact Keep.refl _ _) | (with_reducible refine Keep.alloc ?_ _) | (with_reducible refine Keep.drew ?_) | (with_reducible refine Keep.drewN ?_ _) | (with_reducible refine Keep.setCell ?_ (.inl (by first | omega | (simp; done) | (simp; omega) | fail)) _))) (fun _ _ h => h)).trans (Keep.of_below' hb9) (fun _ _ h => h)).mono (T := fun b => W.heap.size ≤ b) (fun _ _ h => h.elim)).to_below (Nat.le_refl _))
            clear hb9
            go_wp2
            go_ret
            exact ⟨rfl, H9.out⟩
          · have K4 := Lib.hid (show Keep (fun _ => False) W w4 from HWr.out.trans (Keep.of_below' hb4) (fun _ _ h => h))
            have hbx := (hb4.block W.heap.size (Array.getElem?_eq_some_iff.1 HBX.out).1).trans HBX.out
            have hwr := HWr.out.size
            have HT4 := Lib.hid (show Tb w4 tp mb vs cp FC sig sz ids col ∧ ∀ k, TF tp mb vs FC sig k → W.heap.size ≤ k from ⟨htb, fun k hk => by have := hlo k hk; omega⟩)
            clear x0 x1 x2 x3 x4 xf NN hb4 htb hlo
            obtain ⟨x0, x1, x2, x3, x4, xf⟩ := cells5 hbx
            go_wp2_with fail
            with_reducible refine (RLW.out _ K4.out).mono ?_
            rintro e w5 ⟨hr5, hb5⟩
            rcases hr5 with ⟨h, -⟩ | ⟨-, Ba, na, ca, Bb, nb, cb, Bc, nc, cc, rfl, hrt⟩
            · exact absurd hyes h
            have K5 := Lib.hid (show Keep (fun _ => False) W w5 from K4.out.trans (Keep.of_below' hb5) (fun _ _ h => h))
            have hW4 := K4.out.size
            have ST5 := Lib.hid (tst_load (a := .slice Ba na ca) (b := .slice Bb nb cb) (c := .slice Bc nc cc) (B := w4.heap.size) HT4.out.1 (fun d hd => CLN.out d hd) HT4.out.2 (Keep.of_below' hb5) (hrt.mono (fun b _ h => by rcases h with h | h; exact .inl h.1; exact .inr h)) (Nat.le_refl _) K5.out)
            clear hrt hb5 x0 x1 x2 x3 x4 xf hbx hyes
            obtain ⟨q, hq⟩ : ∃ q, w5.heap.size = q := ⟨_, rfl⟩
            go_upto_region 10 with fail
            refine wp_world (S := fun X => TSt W tp q sig sz X ∧ X.heap[q]? = some (.cells #[.slice Ba na ca, .slice Bb nb cb, .slice Bc nc cc] 35 (0, 0))) ⟨by rw [← hq]; exact ST5.out, by rw [← hq]; exact heap_alloc_new w5 _⟩ ?_
            intro Y5 hY5
            have HY5 := Lib.hid hY5
            clear hY5 ST5
            try rw [hq]
            clear hq
            have SA0 := Lib.hid (fun Y (hk9 : Keep (fun _ => False) Y5 Y) => HY5.out.1.same_ HY5.out.2 k hk Y hk9)
            go_wp2_with (first
              | (go_at_call 17; with_reducible refine (nil_drop _ _).mono ?_; rintro e wa ⟨rfl, hka⟩; have KA : Keep (fun _ => False) Y5 wa := Keep.trans (T := fun _ => False) (by exact (by repeat first | (with_reducible assumption) | (with_reducible exact Keep.refl _ _) | (with_reducible refine Keep.alloc ?_ _) | (with_reducible refine Keep.drew ?_) | (with_reducible refine Keep.drewN ?_ _) | (with_reducible refine Keep.setCell ?_ (.inl (by first | omega | (simp; done) | (simp; omega) | fail)) _))) hka (fun _ _ h => h); clear hka)
              | (go_at_call 18; with_reducible refine (nil_get _ _ _).mono ?_; rintro e wb ⟨rfl, rfl⟩)
              | (go_at_call 19; with_reducible refine (nil_parts _ _).mono ?_; rintro e wb ⟨rfl, rfl⟩)
              | (go_at_call 20; with_reducible refine (nil_column _ _).mono ?_; rintro e wc' ⟨rfl, hkc⟩; have KC : Keep (fun _ => False) Y5 wc' := KA.trans (T := fun _ => False) (Keep.trans (T := fun _ => False) (by exact (by repeat first | (with_reducible assumption) | (with_reducible exact Keep.refl _ _) | (with_reducible refine Keep.alloc ?_ _) | (with_reducible refine Keep.drew ?_) | (with_reducible refine Keep.drewN ?_ _) | (with_reducible refine Keep.setCell ?_ (.inl (by first | omega | (simp; done) | (simp; omega) | fail)) _))) hkc (fun _ _ h => h)) (fun _ _ h => h); clear hkc)
              | (go_at_call 21; with_reducible refine (code09 _ _).mono ?_; rintro e wb ⟨rfl, rfl⟩)
              | (go_at_call 22; with_reducible refine (nil_add _ _ _ _ _ _).mono ?_; rintro e wd ⟨rfl, hkd⟩; have KD : Keep (fun _ => False) Y5 wd := KC.trans (T := fun _ => False) (Keep.trans (T := fun _ => False) (by exact (by repeat first | (with_reducible assumption) | (with_reducible exact Keep.refl _ _) | (with_reducible refine Keep.alloc ?_ _) | (with_reducible refine Keep.drew ?_) | (with_reducible refine Keep.drewN ?_ _) | (with_reducible refine Keep.setCell ?_ (.inl (by first | omega | (simp; done) | (simp; omega) | fail)) _))) hkd (fun _ _ h => h)) (fun _ _ h => h); clear hkd; have cq := (KD.block q (Array.getElem?_eq_some_iff.1 HY5.out.2).1 (fun h => h)).trans HY5.out.2; obtain ⟨y0, y1, y2, yf⟩ := cells3 cq; clear cq)
              | (go_at_call 23; with_reducible refine (nil_set _ _ _ _ _ _).mono ?_; rintro e wb ⟨rfl, rfl⟩)
              | (go_at_call 24; with_reducible refine (nil_len _).mono ?_; rintro e wb ⟨rfl, rfl⟩)
              | (go_at_call 25; with_reducible refine (nil_ids _).mono ?_; rintro e wb ⟨rfl, rfl⟩)
              | (go_at_call 26; with_reducible refine (nil_sig _).mono ?_; rintro e wb ⟨rfl, rfl⟩)
              | (go_at_call 14; (with_reducible refine (SA0.out _ (by exact KD.trans (T := fun _ => False) (by exact (by repeat first | (with_reducible assumption) | (with_reducible exact Keep.refl _ _) | (with_reducible refine Keep.alloc ?_ _) | (with_reducible refine Keep.drew ?_) | (with_reducible refine Keep.drewN ?_ _) | (with_reducible refine Keep.setCell ?_ (.inl (by first | omega | (simp; done) | (simp; omega) | fail)) _))) (fun _ _ h => h))).mono ?_); rintro e w6 ⟨rfl, hb6⟩; have K6 : Keep (fun _ => False) Y5 w6 := KD.trans (T := fun _ => False) (Keep.trans (T := fun _ => False) (by exact (by repeat first | (with_reducible assumption) | (with_reducible exact Keep.refl _ _) | (with_reducible refine Keep.alloc ?_ _) | (with_reducible refine Keep.drew ?_) | (with_reducible refine Keep.drewN ?_ _) | (with_reducible refine Keep.setCell ?_ (.inl (by first | omega | (simp; done) | (simp; omega) | fail)) _))) (Keep.of_below' hb6) (fun _ _ h => h)) (fun _ _ h => h); clear hb6)
              | fail)
            have hst := Lib.hid (HY5.out.1.same K6)
            go_loopw [29] (fun i wr => ∃ j : Nat, j ≤ n ∧ i = .int .i64 j ∧ Hid (TSt W tp q sig sz wr)) (fun i _ => n - (intOf i).toNat)
            case atStart => exact ⟨0, by omega, rfl, hst⟩
            case round =>
              obtain ⟨j, hj, rfl, hst⟩ := hrel
              by_cases hlt : j < n
              · have f1 : (j : Int) < (n : Int) := by omega
                have f0 : (0 : Int) ≤ (j : Int) := by omega
                obtain ⟨b, off, x, pd, rfl, hbF, hx, hin, hc⟩ := NS.at_ (HV.out.1.mono (G := fun b => b < W.heap.size) (fun b hb _ => hb)) hlt
                have hbF : b < W.heap.size := hbF
                have hnb : ¬ W.heap.size ≤ b := by omega
                obtain ⟨p, d⟩ := pd
                have hxl := List.mem_of_getElem? hx
                have hxr := HV.out.2.1 x hxl
                have hin' : NS parN W (fun b => b < W.heap.size) p x.parts ∧ By W (fun b => b < W.heap.size) d x.data := hin
                obtain ⟨v0, v1, v2, hbox, DO⟩ := tst_do hst.out HV.out.2.2 x p d (hin'.1.mono (fun _ _ _ => trivial)) (By.mono hin'.2 (fun _ _ _ => trivial)) (by have := HG.out.2.2 x hxl; omega) hxr.2
                have HDO := Lib.hid DO
                have hkw : Keep (fun b => W.heap.size ≤ b) W wr := by obtain ⟨_, _, _, _, _, _, _, _, _, _, _, _, _, _, _, _, h⟩ := hst.out; exact h
                obtain ⟨Ap, cp, rfl, -⟩ := hin'.1.form
                obtain ⟨Ad, cd, rfl, -⟩ := hin'.2
                have CC := Lib.hid (show ∀ X, Keep (fun b => W.heap.size ≤ b) W X → X.cell? ⟨b, off + j * 7, none⟩ = some (.int .i64 x.do_) ∧ X.cell? ⟨b, off + j * 7 + 1, none⟩ = some (.int .i64 x.id.ix) ∧ X.cell? ⟨b, off + j * 7 + 2, none⟩ = some (.int .i64 x.id.gen) ∧ X.cell? ⟨b, off + j * 7 + 3, none⟩ = some (.slice Ap x.parts.length cp) ∧ X.cell? ⟨b, off + j * 7 + 4, none⟩ = some (.int .i64 x.row) ∧ X.cell? ⟨b, off + j * 7 + 5, none⟩ = some (.int .i64 x.comp) ∧ X.cell? ⟨b, off + j * 7 + 6, none⟩ = some (.slice Ad x.data.length cd) from fun X hk => ⟨hk.cell hnb (hc 0 _ rfl), hk.cell hnb (hc 1 _ rfl), hk.cell hnb (hc 2 _ rfl), hk.cell hnb (hc 3 _ rfl), hk.cell hnb (hc 4 _ rfl), hk.cell hnb (hc 5 _ rfl), hk.cell hnb (hc 6 _ rfl)⟩)
                have TG := Lib.hid (fun (w1 : World) D (h : TMid W tp q sig sz x (.slice Ap x.parts.length cp) (.slice Ad x.data.length cd) v0 v1 v2 D w1) (X : World) (hk : Keep (fun _ => False) w1 X) (Y : World) (hkY : Keep (fun _ => False) X Y) => (h.same hk).go Y hkY)
                unfold stV at HDO TG
                clear hc hx hin hin' hxr hxl DO
                obtain ⟨do_, ⟨ix, gen⟩, parts, row, comp, data⟩ := x
                generalize hpl : parts.length = np at *
                generalize hdl : data.length = nd at *
                clear hpl hdl
                dsimp only at CC HDO TG
                obtain ⟨c0, c1, c2, c3, c4, c5, c6⟩ := CC.out wr hkw
                go_wp2_with fail
                with_reducible refine HDO.out.mono ?_
                rintro e w1 ⟨A1, n1, e1, A2, n2, e2, ix1, gen1, ok1, er1, rfl, hk1, HM⟩
                have K2 := Lib.hid (show Keep (fun b => W.heap.size ≤ b) W (w1.alloc (.cells #[.slice A1 n1 e1, .slice A2 n2 e2, .int .i64 ix1, .int .i64 gen1, .bool ok1, .int .i64 er1] 42 (0, 0))) from hk1.alloc _)
                have HM2 := Lib.hid (show TMid W tp q sig sz _ _ _ v0 v1 v2 _ (w1.alloc (.cells #[.slice A1 n1 e1, .slice A2 n2 e2, .int .i64 ix1, .int .i64 gen1, .bool ok1, .int .i64 er1] 42 (0, 0))) from HM.out.same ((Keep.refl _ _).alloc _))
                have HB2 := Lib.hid (heap_alloc_new w1 (.cells #[.slice A1 n1 e1, .slice A2 n2 e2, .int .i64 ix1, .int .i64 gen1, .bool ok1, .int .i64 er1] 42 (0, 0)))
                clear HM hk1 c0 c1 c2 c3 c4 c5 c6 HDO
                have hr12 : ∃ r12, r12 = w1.heap.size := ⟨_, rfl⟩
                obtain ⟨r12, hr12⟩ := hr12
                go_upto_region 26 with fail
                rw [← hr12] at HB2 ⊢
                clear hr12
                generalize w1.alloc (.cells #[.slice A1 n1 e1, .slice A2 n2 e2, .int .i64 ix1, .int .i64 gen1, .bool ok1, .int .i64 er1] 42 (0, 0)) = X at *
                obtain ⟨c0, c1, c2, c3, c4, c5, c6⟩ := CC.out X K2.out
                have hqX : X.heap[q]? = some (.cells #[v0, v1, v2] 35 (0, 0)) := by obtain ⟨_, _, _, _, _, _, _, _, _, _, _, _, _, _, h, _⟩ := HM2.out; exact h
                obtain ⟨x0, x1, x2, xf⟩ := cells3 hqX
                have GO := Lib.hid (fun Y (hk : Keep (fun _ => False) X Y) => TG.out X _ HM2.out X (Keep.refl _ _) Y hk)
                have S2 : ∀ W', Keep (fun _ => False) X W' → ((W'.cell? ⟨q, 0, none⟩ = some v0 ∧ W'.cell? ⟨q, 1, none⟩ = some v1 ∧ W'.cell? ⟨q, 2, none⟩ = some v2) ∧ (W'.cell? ⟨b, off + j * 7, none⟩ = some (.int .i64 do_) ∧ W'.cell? ⟨b, off + j * 7 + 1, none⟩ = some (.int .i64 ix) ∧ W'.cell? ⟨b, off + j * 7 + 2, none⟩ = some (.int .i64 gen) ∧ W'.cell? ⟨b, off + j * 7 + 3, none⟩ = some (.slice Ap np cp) ∧ W'.cell? ⟨b, off + j * 7 + 4, none⟩ = some (.int .i64 row) ∧ W'.cell? ⟨b, off + j * 7 + 5, none⟩ = some (.int .i64 comp) ∧ W'.cell? ⟨b, off + j * 7 + 6, none⟩ = some (.slice Ad nd cd)) ∧ Keep (fun _ => False) X W') := fun W' hk => ⟨⟨hk.cell (fun h => h) x0, hk.cell (fun h => h) x1, hk.cell (fun h => h) x2⟩, ⟨hk.cell (fun h => h) c0, hk.cell (fun h => h) c1, hk.cell (fun h => h) c2, hk.cell (fun h => h) c3, hk.cell (fun h => h) c4, hk.cell (fun h => h) c5, hk.cell (fun h => h) c6⟩, hk⟩
                have CE2 := Lib.hid S2
                clear S2 TG CC
                go_cut [31, 32] (fun t13 t14 wx => ∃ p13 p14 A n c A' n' c' A'' n'' c'' B1 m1 g1 B2 m2 g2 ix gen ok er, t13 = .pointer (some ⟨p13, 0, none⟩) ∧ t14 = .pointer (some ⟨p14, 0, none⟩) ∧ Hid (TCut W X tp q sig sz p13 p14 (.slice A n c) (.slice A' n' c') (.slice A'' n'' c'') (.agg #[.slice A1 n1 e1, .slice A2 n2 e2, .int .i64 ix1, .int .i64 gen1, .bool ok1, .int .i64 er1]) (.slice B1 m1 g1) (.slice B2 m2 g2) (.int .i64 ix) (.int .i64 gen) (.bool ok) (.int .i64 er) wx))
                case first =>
                  go_region_held3 (fun W' => (W'.cell? ⟨q, 0, none⟩ = some v0 ∧ W'.cell? ⟨q, 1, none⟩ = some v1 ∧ W'.cell? ⟨q, 2, none⟩ = some v2) ∧ (W'.cell? ⟨b, off + j * 7, none⟩ = some (.int .i64 do_) ∧ W'.cell? ⟨b, off + j * 7 + 1, none⟩ = some (.int .i64 ix) ∧ W'.cell? ⟨b, off + j * 7 + 2, none⟩ = some (.int .i64 gen) ∧ W'.cell? ⟨b, off + j * 7 + 3, none⟩ = some (.slice Ap np cp) ∧ W'.cell? ⟨b, off + j * 7 + 4, none⟩ = some (.int .i64 row) ∧ W'.cell? ⟨b, off + j * 7 + 5, none⟩ = some (.int .i64 comp) ∧ W'.cell? ⟨b, off + j * 7 + 6, none⟩ = some (.slice Ad nd cd)) ∧ Keep (fun _ => False) X W') (exact CE2.out _ (by exact (by repeat first | (with_reducible assumption) | (with_reducible exact Keep.refl _ _) | (with_reducible refine Keep.alloc ?_ _) | (with_reducible refine Keep.drew ?_) | (with_reducible refine Keep.drewN ?_ _) | (with_reducible refine Keep.setCell ?_ (.inl (by first | omega | (simp; done) | (simp; omega) | fail)) _)))) (first
                    | (go_at_call 12; (with_reducible refine (GO.out _ (by exact (by repeat first | (with_reducible assumption) | (with_reducible exact Keep.refl _ _) | (with_reducible refine Keep.alloc ?_ _) | (with_reducible refine Keep.drew ?_) | (with_reducible refine Keep.drewN ?_ _) | (with_reducible refine Keep.setCell ?_ (.inl (by first | omega | (simp; done) | (simp; omega) | fail)) _)))).mono ?_); rintro e w6 ⟨A, n, c, A', n', c', A'', n'', c'', B1, m1, g1, B2, m2, g2, ix, gen, ok, er, rfl, hb6, HG⟩; have k6 : Keep (fun _ => False) X w6 := Keep.trans (T := fun _ => False) (by exact (by repeat first | (with_reducible assumption) | (with_reducible exact Keep.refl _ _) | (with_reducible refine Keep.alloc ?_ _) | (with_reducible refine Keep.drew ?_) | (with_reducible refine Keep.drewN ?_ _) | (with_reducible refine Keep.setCell ?_ (.inl (by first | omega | (simp; done) | (simp; omega) | fail)) _))) (Keep.of_below' hb6) (fun _ _ h => h); have z6 := k6.size; (first | (have aa := AlB.below (AlB.new _) hb6; obtain ⟨AL, al⟩ := aa) | (have aa := AlB.below (AlB.drew (AlB.new _)) hb6; obtain ⟨AL, al⟩ := aa) | (have aa := AlB.below (AlB.alloc (AlB.new _) _) hb6; obtain ⟨AL, al⟩ := aa) | (have aa := AlB.below (AlB.drew (AlB.alloc (AlB.new _) _)) hb6; obtain ⟨AL, al⟩ := aa) | skip); (first | (have aa := AlG.below (AlG.new _) hb6; obtain ⟨AG, ag⟩ := aa) | (have aa := AlG.below (AlG.drew (AlG.new _)) hb6; obtain ⟨AG, ag⟩ := aa) | (have aa := AlG.below (AlG.alloc (AlG.new _) _) hb6; obtain ⟨AG, ag⟩ := aa) | (have aa := AlG.below (AlG.drew (AlG.alloc (AlG.new _) _)) hb6; obtain ⟨AG, ag⟩ := aa) | skip); (try simp only [World.size_alloc] at AL); (try simp only [World.size_alloc] at AG); (first | (have cc := cells3 AL; obtain ⟨q0, q1, q2, qf⟩ := cc; have pn1 := Nat.ne_of_gt (AlB.lt AL); have pn2 := Nat.ne_of_lt (AlB.lt AL); have qa0 := fun o => (cells3 (AlB.alloc AL o)).1; have qa1 := fun o => (cells3 (AlB.alloc AL o)).2.1; have qa2 := fun o => (cells3 (AlB.alloc AL o)).2.2.1; have qaf := fun o => (cells3 (AlB.alloc AL o)).2.2.2; have na0 := fun p x y z => (cells6 (set_new w6 p x y z (.cells #[.slice none 0 0, .slice none 0 0, .int .i64 0, .int .i64 0, .bool false, .int .i64 0] 42))).1; have na1 := fun p x y z => (cells6 (set_new w6 p x y z (.cells #[.slice none 0 0, .slice none 0 0, .int .i64 0, .int .i64 0, .bool false, .int .i64 0] 42))).2.1; have na2 := fun p x y z => (cells6 (set_new w6 p x y z (.cells #[.slice none 0 0, .slice none 0 0, .int .i64 0, .int .i64 0, .bool false, .int .i64 0] 42))).2.2.1; have na3 := fun p x y z => (cells6 (set_new w6 p x y z (.cells #[.slice none 0 0, .slice none 0 0, .int .i64 0, .int .i64 0, .bool false, .int .i64 0] 42))).2.2.2.1; have na4 := fun p x y z => (cells6 (set_new w6 p x y z (.cells #[.slice none 0 0, .slice none 0 0, .int .i64 0, .int .i64 0, .bool false, .int .i64 0] 42))).2.2.2.2.1; have na5 := fun p x y z => (cells6 (set_new w6 p x y z (.cells #[.slice none 0 0, .slice none 0 0, .int .i64 0, .int .i64 0, .bool false, .int .i64 0] 42))).2.2.2.2.2.1; have naf := fun p x y z => (cells6 (set_new w6 p x y z (.cells #[.slice none 0 0, .slice none 0 0, .int .i64 0, .int .i64 0, .bool false, .int .i64 0] 42))).2.2.2.2.2.2) | skip); (first | (have cc := cells6 AG; obtain ⟨t0, t1, t2, t3, t4, t5, tf⟩ := cc; have pg1 := Nat.ne_of_gt (AlG.lt AG); have pg2 := Nat.ne_of_lt (AlG.lt AG); have ta0 := fun o => (cells6 (AlG.alloc AG o)).1; have ta1 := fun o => (cells6 (AlG.alloc AG o)).2.1; have ta2 := fun o => (cells6 (AlG.alloc AG o)).2.2.1; have ta3 := fun o => (cells6 (AlG.alloc AG o)).2.2.2.1; have ta4 := fun o => (cells6 (AlG.alloc AG o)).2.2.2.2.1; have ta5 := fun o => (cells6 (AlG.alloc AG o)).2.2.2.2.2.1; have taf := fun o => (cells6 (AlG.alloc AG o)).2.2.2.2.2.2) | skip))
                    | fail)
                  all_goals
                    go_wp2_with fail
                    go_meet
                    first
                      | with_reducible exact ⟨_, _, A, n, c, A', n', c', A'', n'', c'', B1, m1, g1, B2, m2, g2, ix, gen, ok, er, rfl, rfl, Lib.hid (tcut1 HG.out k6)⟩
                      | with_reducible exact ⟨_, _, A, n, c, A', n', c', A'', n'', c'', B1, m1, g1, B2, m2, g2, ix, gen, ok, er, rfl, rfl, Lib.hid (tcut2 HG.out k6)⟩
                      | with_reducible exact ⟨_, _, A, n, c, A', n', c', A'', n'', c'', B1, m1, g1, B2, m2, g2, ix, gen, ok, er, rfl, rfl, Lib.hid (tcut4 HG.out k6 AL AG (by omega) (by omega) (by first | exact al | (simp; done) | (simp; omega)) (by omega) (by first | exact ag | (simp; done) | (simp; omega)))⟩
                      | with_reducible exact ⟨_, _, A, n, c, A', n', c', A'', n'', c'', B1, m1, g1, B2, m2, g2, ix, gen, ok, er, rfl, rfl, Lib.hid (tcut5 HG.out k6 AG (by omega) ag)⟩
                      | with_reducible exact ⟨_, _, A, n, c, A', n', c', A'', n'', c'', B1, m1, g1, B2, m2, g2, ix, gen, ok, er, rfl, rfl, Lib.hid (tcut3c HG.out k6 AL (by omega) al)⟩
                      | with_reducible exact ⟨_, _, A, n, c, A', n', c', A'', n'', c'', B1, m1, g1, B2, m2, g2, ix, gen, ok, er, rfl, rfl, Lib.hid (tcut3 HG.out k6 AL (by omega) al)⟩
                      | with_reducible exact ⟨_, _, A, n, c, A', n', c', A'', n'', c'', B1, m1, g1, B2, m2, g2, ix, gen, ok, er, rfl, rfl, Lib.hid (tcut3b HG.out k6 AL (by omega) al)⟩
                      | fail "SEE"
                case rest =>
                  clear CE2 c0 c1 c2 c3 c4 c5 c6 x0 x1 x2 xf
                  obtain ⟨p13, p14, A, n5, c, A', n', c', A'', n'', c'', B1, m1, g1, B2, m2, g2, ix, gen, ok, er, rfl, rfl, hc⟩ := hcut
                  have hqr : q ≠ r12 := fun e => by
                    rw [e] at hqX
                    have := hqX.symm.trans HB2.out
                    simp at this
                  have hql := (Array.getElem?_eq_some_iff.1 hqX).1
                  have hrl := (Array.getElem?_eq_some_iff.1 HB2.out).1
                  obtain ⟨g13, g14, l13, l14, gk, gt⟩ := hc.out
                  have gq := (gk.block q hql (fun h => h)).trans hqX
                  have gr := (gk.block r12 hrl (fun h => h)).trans HB2.out
                  obtain ⟨x0, x1, x2, xf⟩ := cells3 gq
                  obtain ⟨s0, s1, s2, sf⟩ := cells3 g13
                  have hqp : ¬ q = p13 := by omega
                  have k3 := keep3 wc q (.slice A n5 c) (.slice A' n' c') (.slice A'' n'' c'')
                  have T3 := Lib.hid (And.intro (heap_three gq (.slice A n5 c) (.slice A' n' c') (.slice A'' n'' c'')) (And.intro ((k3.block r12 (Array.getElem?_eq_some_iff.1 gr).1 (fun e => hqr e.symm)).trans gr) (And.intro ((k3.block p14 (Array.getElem?_eq_some_iff.1 g14).1 (fun e => by omega)).trans g14) gt)))
                  clear gq gr g13 g14 gk gt k3 hc l13 l14 hqX hql hrl hqr HB2 HM2 K2 GO
                  go_upto_region 28 with fail
                  refine wp_world (S := fun W3 => W3.heap[q]? = some (.cells #[.slice A n5 c, .slice A' n' c', .slice A'' n'' c''] 35 (0, 0)) ∧ W3.heap[r12]? = some (.cells #[.slice A1 n1 e1, .slice A2 n2 e2, .int .i64 ix1, .int .i64 gen1, .bool ok1, .int .i64 er1] 42 (0, 0)) ∧ W3.heap[p14]? = some (.cells #[.slice B1 m1 g1, .slice B2 m2 g2, .int .i64 ix, .int .i64 gen, .bool ok, .int .i64 er] 42 (0, 0)) ∧ ∃ t, TSt W tp q sig sz W3 ∧ TlSt W3 (fun _ => True) (.agg #[.slice A1 n1 e1, .slice A2 n2 e2, .int .i64 ix1, .int .i64 gen1, .bool ok1, .int .i64 er1]) t ∧ TlSt W3 (fun _ => True) (.agg #[.slice B1 m1 g1, .slice B2 m2 g2, .int .i64 ix, .int .i64 gen, .bool ok, .int .i64 er]) t) T3.out ?_
                  rintro W3 ⟨w3q, w3r, w3p, t, w3s, w3d, w3e⟩
                  clear T3 x0 x1 x2 xf s0 s1 s2 sf
                  have SM := Lib.hid (fun Y (hY : Keep (fun _ => False) W3 Y) => same_told t _ _ _ _ Y (w3d.same hY) (w3e.same hY))
                  have SA := Lib.hid (fun Y (hY : Keep (fun _ => False) W3 Y) => w3s.same_ w3q k hk Y hY)
                  have H3 := Lib.hid (And.intro w3q w3s)
                  obtain ⟨y0, y1, y2, y3, y4, y5, yf⟩ := cells6 w3r
                  obtain ⟨z0, z1, z2, z3, z4, z5, zf⟩ := cells6 w3p
                  clear w3q w3r w3p w3s w3d w3e
                  go_wp2_with fail
                  with_reducible refine (SM.out _ (by exact (by repeat first | (with_reducible assumption) | (with_reducible exact Keep.refl _ _) | (with_reducible refine Keep.alloc ?_ _) | (with_reducible refine Keep.drew ?_) | (with_reducible refine Keep.drewN ?_ _) | (with_reducible refine Keep.setCell ?_ (.inl (by first | omega | (simp; done) | (simp; omega) | fail)) _)))).mono ?_
                  rintro e w4 ⟨rfl, hk4⟩
                  have K4 := Lib.hid (show Keep (fun _ => False) W3 w4 from Keep.trans (T := fun _ => False) (by exact (by repeat first | (with_reducible assumption) | (with_reducible exact Keep.refl _ _) | (with_reducible refine Keep.alloc ?_ _) | (with_reducible refine Keep.drew ?_) | (with_reducible refine Keep.drewN ?_ _) | (with_reducible refine Keep.setCell ?_ (.inl (by first | omega | (simp; done) | (simp; omega) | fail)) _))) hk4 (fun _ _ h => h))
                  clear hk4 y0 y1 y2 y3 y4 y5 yf z0 z1 z2 z3 z4 z5 zf
                  obtain ⟨x0, x1, x2, xf⟩ := cells3 ((K4.out.block q (Array.getElem?_eq_some_iff.1 H3.out.1).1 (fun h => h)).trans H3.out.1)
                  have H5 := Lib.hid (H3.out.2.same K4.out)
                  clear x0 x1 x2 xf
                  go_wp2
                  go_roundw
                  case rel => exact ⟨j + 1, by omega, by go_num, H5⟩
                  case measure => simp [intOf]; omega
              · obtain rfl : j = n := by omega
                have f1 : ¬ (j : Int) < (j : Int) := by omega
                have hst0 := hst.out
                obtain ⟨mb, vs, cp, FC, ids, col, v0, v1, v2, h1, h2, h3, h4', h5, h6, h7, h8⟩ := hst0
                have SA := Lib.hid (fun Y (hY : Keep (fun _ => False) wr Y) => hst.out.same_ h6 k hk Y hY)
                have H8 := Lib.hid h8
                obtain ⟨x0, x1, x2, xf⟩ := cells3 h6
                clear h1 h2 h3 h4' h5 h6 h7 h8
                go_wp2_with fail
                with_reducible refine (SA.out _ (by exact (by repeat first | (with_reducible assumption) | (with_reducible exact Keep.refl _ _) | (with_reducible refine Keep.alloc ?_ _) | (with_reducible refine Keep.drew ?_) | (with_reducible refine Keep.drewN ?_ _) | (with_reducible refine Keep.setCell ?_ (.inl (by first | omega | (simp; done) | (simp; omega) | fail)) _)))).mono ?_
                rintro e w5 ⟨rfl, hb5⟩
                have K5 := Lib.hid (show Keep (fun b => W.heap.size ≤ b) W w5 from H8.out.trans (Keep.of_below' hb5) (fun _ _ h => h.elim))
                clear hb5 x0 x1 x2 xf
                go_wp2_with fail
                with_reducible refine (LV.out _ (by exact K5.out)).mono ?_
                rintro e w6 ⟨rfl, hb6⟩
                have H6 := Lib.hid hb6
                clear hb6
                go_wp2
                go_ret
                exact ⟨rfl, (K5.out.to_below (Nat.le_refl _)).trans (H6.out.mono (by have := K5.out.size; omega))⟩
end Go.Proofs.YtpkeahikfbmcpaaDoor

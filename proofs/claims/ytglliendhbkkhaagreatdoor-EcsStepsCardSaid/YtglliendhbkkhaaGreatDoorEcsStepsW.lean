/- The walk of vivariumlaw11.EcsSteps: it returns true, old memory unchanged. -/
import Derived.Test.YtglliendhbkkhaaGreatDoorRfD
import Derived.Test.YtglliendhbkkhaaGreatDoorRfA
import Derived.Test.YtglliendhbkkhaaGreatDoorEcsL
import Derived.Test.YtglliendhbkkhaaGreatDoorCompS
import Derived.Test.YtglliendhbkkhaaGreatDoorTabE
import Derived.Deep.DeepCutAuto
namespace Go.Proofs.YtglliendhbkkhaaGreatDoor
open Go.RowKit
set_option maxRecDepth 100000
set_option linter.unusedVariables false
set_option linter.unusedSimpArgs false

/-- Core and state side by side, behind world X1. -/
def EsSt (X1 : World) (c : Cf) (xp sp k : Nat) (a : Co) (q : Nat) (B : CoB) (wr : World) : Prop :=
  CoM wr c xp B q a ∧ InvC c a ∧ (q ≤ k ∧ a.sigs.length ≤ k + 1) ∧ (∃ A1 n1 c1 A2 n2 c2 A3 n3 c3, wr.heap[sp]? = some (.cells #[.slice A1 n1 c1, .slice A2 n2 c2, .slice A3 n3 c3] 28 (0, 0)) ∧ StM wr (fun b => ¬ CoF xp B a b ∧ b ≠ sp) (.agg #[.slice A1 n1 c1, .slice A2 n2 c2, .slice A3 n3 c3]) (absC a)) ∧ (∀ b, CoF xp B a b → X1.heap.size ≤ b ∧ b ≠ sp) ∧ Keep (fun b => X1.heap.size ≤ b) X1 wr ∧ sp < wr.heap.size ∧ X1.heap.size ≤ sp
theorem EsSt.same {X1 wr w' : World} {c : Cf} {xp sp k q : Nat} {a : Co} {B : CoB} (h : EsSt X1 c xp sp k a q B wr) (hk : Keep (fun _ => False) wr w') : EsSt X1 c xp sp k a q B w' := by
  obtain ⟨h1, h2, h3, ⟨A1, n1, c1, A2, n2, c2, A3, n3, c3, h4, h5⟩, h6, h7, h8, h9⟩ := h
  exact ⟨h1.same hk, h2, h3, ⟨A1, n1, c1, A2, n2, c2, A3, n3, c3, (hk.block sp h8 (fun h => h)).trans h4, h5.same hk⟩, h6, h7.trans hk (fun _ _ h => h.elim), by have := hk.size; omega, h9⟩
theorem keep_size2' {S : Nat → Prop} {X W W' : World} (h : Keep (fun _ => False) W W') (hk : Keep S X W) : X.heap.size ≤ W.heap.size := hk.size
theorem keep_size3 {S : Nat → Prop} {X W W' : World} (h : Keep S W W') (hk : Keep (fun _ => False) X W) : X.heap.size ≤ W.heap.size := hk.size
theorem names_few {c : Cf} (h : muchB c.l = false) : c.l.length ≤ 40 ∧ ∀ x ∈ c.l, x.nm.size ≤ 4611686018427387904 := by
  have h2 := of_decide_eq_false (show decide _ = false from h)
  have h3 : c.l.length ≤ 40 ∧ bigTo c.l c.l.length := ⟨by omega, by
    by_cases e : bigTo c.l c.l.length
    · exact e
    · exact absurd (.inr e) h2⟩
  refine ⟨h3.1, fun x hx => ?_⟩
  obtain ⟨i, hi, rfl⟩ := List.getElem_of_mem hx
  have := h3.2 i hi (by omega)
  unfold nmAt at this
  rw [List.getD_eq_getElem?_getD, List.getElem?_eq_getElem hi] at this
  have h9 : (c.l[i]).nm.size ≤ 100 := this
  omega
set_option maxHeartbeats 4000000 in
theorem ecsSteps_walk (c : Cf) (uc : Value) (l : List StE) (v : Value) (x y : Nat) (hx : x < 18446744073709551616) (hy : y < 18446744073709551616) (W : World) (hc : CL W (fun _ => True) uc c.l) (hr : rngF c) (hv : NS seN W (fun _ => True) v l) (hls : ∀ t ∈ l, seR t) (hT : Tab W) :
    Calls Tryz.prog 4 #[confV c uc, v, .int .u64 (x : Int), .int .u64 (y : Int)] W fun e w' => e = .returned (.bool true) ∧ Below W.heap.size W w' := by
  have LV := Lib.hid (fun X (hk : Keep (fun b => W.heap.size ≤ b) W X) => live11 X (hT.keep hk (by have := hT.lt; omega)))
  have MC := Lib.hid (fun X (hk : Keep (fun _ => False) W X) => rmuch_any c uc _ X (hc.same hk))
  have ML := Lib.hid (fun X (hk : Keep (fun _ => False) W X) => much11 l v _ X (hv.same hk))
  have NO := Lib.hid (fun X (hk : Keep (fun _ => False) W X) (hl : c.l.length ≤ 1000) (h0 : checkF c = 0) => e_new_ok X c uc _ (hc.same hk) hl h0 (hT.same hk))
  have NB := Lib.hid (fun X (hk : Keep (fun _ => False) W X) (hl : c.l.length ≤ 1000) (h0 : checkF c ≠ 0) => e_new_bad X c uc _ (hc.same hk) hr (by omega) h0 (hT.same hk))
  have RR := Lib.hid (fun X (hk : Keep (fun b => W.heap.size ≤ b) W X) (hs : ∀ t ∈ c.l, t.nm.size ≤ 4611686018427387904) => rright_any c uc _ X (hc.keep hk (fun b hb _ h => by omega)) hs)
  have CA := Lib.hid (fun X (hk : Keep (fun b => W.heap.size ≤ b) W X) => (hc.keep hk (fun b hb _ h => by omega) : CL X (fun _ => True) uc c.l))
  have HT := Lib.hid (fun X (hk : Keep (fun b => W.heap.size ≤ b) W X) => (hT.keep hk (by have := hT.lt; omega) : Tab X))
  have HTL := hT.lt
  have HV := Lib.hid (show NS seN W (fun b => b < W.heap.size) v l from hv.mono (fun b hb _ => hb))
  have HLS := Lib.hid hls
  have NF := Lib.hid (names_few (c := c))
  obtain ⟨Al, cl, rfl, hcl, hnl⟩ := hv.form
  unfold maxLen at hcl
  have HC0 := Lib.hid hc
  obtain ⟨Au, cu, rfl, -⟩ := hc
  obtain ⟨b0, hb0⟩ : ∃ b0, muchB c.l = b0 := ⟨_, rfl⟩
  rw [hb0] at MC NF
  obtain ⟨n, hn⟩ : ∃ n, l.length = n := ⟨_, rfl⟩
  have HN := Lib.hid hn
  rw [hn] at HV ML hnl ⊢
  clear hb0 hn hv hls hT hr
  go_enter Tryz.func4, Tryz.ntmps4
  unfold confV at *
  go_upto_region 1 with fail
  refine wp_world (S := fun X => X.heap[W.heap.size]? = some (.cells #[.int .i64 c.log, .int .i64 c.pages, .int .i64 c.ents, .int .i64 c.gens, .slice Au c.l.length cu] 24 (0, 0)) ∧ Keep (fun _ => False) W X) ⟨(by (try simp only [heap_drew']); (try simp only [World.heap_drewN]); repeat (first | exact heap_alloc_at _ _ _ (by first | rfl | simp) | rw [Below.heap_alloc _ _ _ (by first | (simp; done) | (simp; omega))])), by exact (by repeat first | (with_reducible assumption) | (with_reducible exact Keep.refl _ _) | (with_reducible refine Keep.alloc ?_ _) | (with_reducible refine Keep.drew ?_) | (with_reducible refine Keep.drewN ?_ _) | (with_reducible refine Keep.setCell ?_ (.inl (by first | omega | (simp; done) | (simp; omega) | fail)) _))⟩ ?_
  rintro X1 ⟨hb1, hk1⟩
  have zX : W.heap.size < X1.heap.size := (Array.getElem?_eq_some_iff.1 hb1).1
  have K1 := Lib.hid hk1
  have CB := Lib.hid (show ∀ Y, Keep (fun b => X1.heap.size ≤ b) X1 Y → Y.heap[W.heap.size]? = some (.cells #[.int .i64 c.log, .int .i64 c.pages, .int .i64 c.ents, .int .i64 c.gens, .slice Au c.l.length cu] 24 (0, 0)) ∧ Keep (fun b => W.heap.size ≤ b) W Y from fun Y hk => ⟨(hk.block _ zX (fun h => by omega)).trans hb1, (hk1.mono (fun _ _ h => h.elim)).trans hk (fun b _ h => by omega)⟩)
  obtain ⟨v0, v1, v2, v3, v4, vf⟩ := cells5 hb1
  go_wp2_with fail
  with_reducible refine (MC.out X1 hk1).mono ?_
  rintro e w1 ⟨rfl, hB1⟩
  have KX1 := Lib.hid (show Keep (fun _ => False) X1 w1 from Keep.of_below' hB1)
  clear v0 v1 v2 v3 v4 vf hB1 hb1 hk1
  have KW1 := Lib.hid (CB.out w1 (KX1.out.mono (fun _ _ h => h.elim)))
  have zw1 := KX1.out.size
  cases b0 with
  | true =>
    go_wp2_with fail
    with_reducible refine (LV.out w1 KW1.out.2).mono ?_
    rintro e w2 ⟨rfl, hb2⟩
    have H2 := Lib.hid hb2
    clear hb2
    go_wp2
    go_ret
    exact ⟨rfl, (KW1.out.2.to_below (Nat.le_refl _)).trans (H2.out.mono (by have := KW1.out.2.size; omega))⟩
  | false =>
    go_wp2_with fail
    with_reducible refine (ML.out w1 (K1.out.trans KX1.out (fun _ _ h => h))).mono ?_
    rintro e w2 ⟨⟨b1, rfl, hbl⟩, rfl⟩
    have HBL := Lib.hid hbl
    clear hbl
    cases b1 with
    | true =>
      go_wp2_with fail
      with_reducible refine (LV.out w1 KW1.out.2).mono ?_
      rintro e w2 ⟨rfl, hb2⟩
      have H2 := Lib.hid hb2
      clear hb2
      go_wp2
      go_ret
      exact ⟨rfl, (KW1.out.2.to_below (Nat.le_refl _)).trans (H2.out.mono (by have := KW1.out.2.size; omega))⟩
    | false =>
      obtain ⟨hl40, hns⟩ := NF.out (by first | rfl | trivial)
      have hn60 : n ≤ 60 := by have := (HBL.out (by first | rfl | trivial)).1; have := HN.out; omega
      obtain ⟨v0, v1, v2, v3, v4, vf⟩ := cells5 KW1.out.1
      by_cases hck : checkF c = 0
      · have hrt : rightB c = true := by
          unfold checkF at hck
          by_cases e : rightB c = true
          · exact e
          · rw [if_neg e] at hck; cases hck
        obtain ⟨szok, hl32, hents, hgens⟩ := szOk_of hck
        have SZK := Lib.hid (And.intro szok (And.intro hents hgens))
        go_wp2_with fail
        with_reducible refine (NO.out w1 (K1.out.trans KX1.out (fun _ _ h => h)) (by omega) hck).mono ?_
        rintro e w3 ⟨xp, B, rfl, hco, hk3, hlo⟩
        have HCO := Lib.hid (And.intro hco hlo)
        have K3 := Lib.hid hk3
        have KW3 := Lib.hid (CB.out w3 ((KX1.out.trans hk3 (fun _ _ h => h)).mono (fun _ _ h => h.elim)))
        have zw3 := hk3.size
        clear v0 v1 v2 v3 v4 vf hk3 hlo hco hck
        have R3 := Lib.hid (RR.out w3 KW3.out.2 hns)
        rw [hrt] at R3
        obtain ⟨v0, v1, v2, v3, v4, vf⟩ := cells5 KW3.out.1
        go_wp2_with fail
        with_reducible refine R3.out.mono ?_
        rintro e w4 ⟨rfl, hB4⟩
        have K4 := Lib.hid (Keep.of_below' hB4)
        have KW4 := Lib.hid (CB.out w4 (((KX1.out.trans K3.out (fun _ _ h => h)).trans K4.out (fun _ _ h => h)).mono (fun _ _ h => h.elim)))
        have zw4 := K4.out.size
        clear v0 v1 v2 v3 v4 vf hB4 R3
        have ef : (!true) = false := rfl
        go_upto_region 6 with fail
        obtain ⟨v0, v1, v2, v3, v4, vf⟩ := cells5 KW4.out.1
        have HCM := Lib.hid (HCO.out.1.same K4.out)
        have CF := Lib.hid (fun X (hk : Keep (fun _ => False) w4 X) => e_conf (HCM.out.same hk) (by omega))
        have SM := Lib.hid (fun X u' (F : Nat → Prop) (hk : Keep (fun _ => False) w4 X) (hu' : CL X F u' c.l) => rsameF c u' (.slice Au c.l.length cu) F (fun _ => True) X hu' (CA.out X (KW4.out.2.trans hk (fun _ _ h => h.elim))) (by omega))
        unfold confV at CF SM
        have CE := Lib.hid (show ∀ W', Keep (fun _ => False) w4 W' → (W'.cell? ⟨W.heap.size, 0, none⟩ = some (.int .i64 c.log) ∧ W'.cell? ⟨W.heap.size, 1, none⟩ = some (.int .i64 c.pages) ∧ W'.cell? ⟨W.heap.size, 2, none⟩ = some (.int .i64 c.ents) ∧ W'.cell? ⟨W.heap.size, 3, none⟩ = some (.int .i64 c.gens) ∧ W'.cell? ⟨W.heap.size, 4, none⟩ = some (.slice Au c.l.length cu)) ∧ Keep (fun _ => False) w4 W' from fun W' hk => ⟨⟨hk.cell (fun h => h) v0, hk.cell (fun h => h) v1, hk.cell (fun h => h) v2, hk.cell (fun h => h) v3, hk.cell (fun h => h) v4⟩, hk⟩)
        go_region_held3 (fun W' => (W'.cell? ⟨W.heap.size, 0, none⟩ = some (.int .i64 c.log) ∧ W'.cell? ⟨W.heap.size, 1, none⟩ = some (.int .i64 c.pages) ∧ W'.cell? ⟨W.heap.size, 2, none⟩ = some (.int .i64 c.ents) ∧ W'.cell? ⟨W.heap.size, 3, none⟩ = some (.int .i64 c.gens) ∧ W'.cell? ⟨W.heap.size, 4, none⟩ = some (.slice Au c.l.length cu)) ∧ Keep (fun _ => False) w4 W') (exact CE.out _ (by exact (by repeat first | (with_reducible assumption) | (with_reducible exact Keep.refl _ _) | (with_reducible refine Keep.alloc ?_ _) | (with_reducible refine Keep.drew ?_) | (with_reducible refine Keep.drewN ?_ _) | (with_reducible refine Keep.setCell ?_ (.inl (by first | omega | (simp; done) | (simp; omega) | fail)) _)))) (first
          | (go_at_call 21; (with_reducible refine (CF.out _ (by exact (by repeat first | (with_reducible assumption) | (with_reducible exact Keep.refl _ _) | (with_reducible refine Keep.alloc ?_ _) | (with_reducible refine Keep.drew ?_) | (with_reducible refine Keep.drewN ?_ _) | (with_reducible refine Keep.setCell ?_ (.inl (by first | omega | (simp; done) | (simp; omega) | fail)) _)))).mono ?_); rintro e w5 ⟨u5, rfl, hu5, hk5⟩; have k5 : Keep (fun _ => False) w4 w5 := Keep.trans (T := fun _ => False) (by exact (by repeat first | (with_reducible assumption) | (with_reducible exact Keep.refl _ _) | (with_reducible refine Keep.alloc ?_ _) | (with_reducible refine Keep.drew ?_) | (with_reducible refine Keep.drewN ?_ _) | (with_reducible refine Keep.setCell ?_ (.inl (by first | omega | (simp; done) | (simp; omega) | fail)) _))) hk5 (fun _ _ h => h); have HU5 := Lib.hid hu5; clear hk5 hu5)
          | (go_at_call 20; (with_reducible refine (SM.out _ u5 _ (by exact (by repeat first | (with_reducible assumption) | (with_reducible exact Keep.refl _ _) | (with_reducible refine Keep.alloc ?_ _) | (with_reducible refine Keep.drew ?_) | (with_reducible refine Keep.drewN ?_ _) | (with_reducible refine Keep.setCell ?_ (.inl (by first | omega | (simp; done) | (simp; omega) | fail)) _))) (by exact HU5.out.keep (S := fun _ => False) (by exact (by repeat first | (with_reducible assumption) | (with_reducible exact Keep.refl _ _) | (with_reducible refine Keep.alloc ?_ _) | (with_reducible refine Keep.drew ?_) | (with_reducible refine Keep.drewN ?_ _) | (with_reducible refine Keep.setCell ?_ (.inl (by first | omega | (simp; done) | (simp; omega) | fail)) _))) (fun _ _ _ h => h))).mono ?_); rintro e w6 ⟨rfl, hb6⟩; have k6 : Keep (fun _ => False) w4 w6 := Keep.trans (T := fun _ => False) (by exact (by repeat first | (with_reducible assumption) | (with_reducible exact Keep.refl _ _) | (with_reducible refine Keep.alloc ?_ _) | (with_reducible refine Keep.drew ?_) | (with_reducible refine Keep.drewN ?_ _) | (with_reducible refine Keep.setCell ?_ (.inl (by first | omega | (simp; done) | (simp; omega) | fail)) _))) (Keep.of_below' hb6) (fun _ _ h => h); clear hb6)
          | fail)
        clear v0 v1 v2 v3 v4 vf CE CF SM HU5
        have KX6 := Lib.hid (show Keep (fun _ => False) X1 w6 from ((KX1.out.trans K3.out (fun _ _ h => h)).trans K4.out (fun _ _ h => h)).trans k6 (fun _ _ h => h))
        have zw6 := k6.size
        have hsp : ∃ sp, w6.heap.size = sp := ⟨_, rfl⟩
        obtain ⟨sp, hsp⟩ := hsp
        have HSP := Lib.hid hsp
        go_upto_region 10 with fail
        refine wp_world (S := fun X2 => EsSt X1 c xp sp 0 (coNew c) 0 B X2) ?_ ?_
        · have ka := (Keep.refl (fun _ => False) w6).alloc (.cells #[.slice none 0 0, .slice none 0 0, .slice none 0 0] 28 (0, 0))
          obtain ⟨ni1, ni2⟩ := new_inv SZK.out.2.1 SZK.out.2.2
          refine ⟨(HCM.out.same k6).same ka, ni1, ⟨Nat.le_refl _, Nat.le_refl _⟩, ⟨none, 0, 0, none, 0, 0, none, 0, 0, ?_, ?_⟩, fun b hb => ⟨?_, ?_⟩, (KX6.out.trans ka (fun _ _ h => h)).mono (fun _ _ h => h.elim), ?_, ?_⟩
          · rw [← HSP.out]; exact heap_alloc_new w6 _
          · rw [ni2]; exact ⟨_, _, _, rfl, Sl.nil _ _ 1, Sl.nil _ _ 1, NS.nil entN _ _⟩
          · have := HCO.out.2 b hb; omega
          · have := HCO.out.1.lt b hb; have := HSP.out; omega
          · rw [← HSP.out]; simp
          · have := HSP.out; omega
        intro X2 hX2
        have HX2 := Lib.hid hX2
        clear hX2 hsp k5 k6
        go_loopw [11] (fun i wr => ∃ (k : Nat) (a : Co) (q : Nat) (B : CoB), k ≤ n ∧ i = .int .i64 (k : Int) ∧ Hid (EsSt X1 c xp sp k a q B wr)) (fun i _ => n - (intOf i).toNat)
        case atStart => exact ⟨0, coNew c, 0, B, by omega, rfl, HX2⟩
        case round =>
          obtain ⟨k, a, q, B1, hk, rfl, hst⟩ := hrel
          obtain ⟨hcm, hinv, ⟨hq, hsg⟩, ⟨A1, n1, c1, A2, n2, c2, A3, n3, c3, hsb, hsm⟩, hcf, hkr, hspl, hX1s⟩ := hst.out
          have KWr := Lib.hid (CB.out wr hkr)
          have hT' := HT.out wr KWr.out.2
          have hG' : ¬ CoF xp B1 a 0 := fun e => by have := (hcf _ e).1; omega
          by_cases hlt : k < n
          · have hi : (k : Int) < (n : Int) := by omega
            have h00 : (0 : Int) ≤ (k : Int) := by omega
            obtain ⟨b9, off9, t9, dv9, rfl, hF9, hx9, hin9, hc9⟩ := NS.at_ HV.out hlt
            have g0 := hc9 0 _ rfl
            have g1 := hc9 1 _ rfl
            have g2 := hc9 2 _ rfl
            have g3 := hc9 3 _ rfl
            have g4 := hc9 4 _ rfl
            simp only [show seN.m = 5 from rfl, Nat.add_zero] at g0 g1 g2 g3 g4
            have hkse := HLS.out t9 (List.mem_of_getElem? hx9)
            have HBD := Lib.hid (show By W (fun b => b < W.heap.size) dv9 t9.data from hin9)
            obtain ⟨A9, c9, rfl, hd91, hd92, -⟩ := HBD.out
            obtain ⟨a', q', i1, i2, i3, i4, HDO⟩ := c_do hcm hinv (by omega) SZK.out.1 hT' hG' t9 hkse A9 c9 (fun b => b < W.heap.size) (HBD.out.keep (S := fun b => W.heap.size ≤ b) KWr.out.2 (fun b hb _ h => by omega)) (fun b hb e => by have := (hcf b e).1; omega) (by omega) (by omega)
            have GO0 := fun Y u F hc hu hd => r11_go c (.slice Au c.l.length cu) (fun _ => True) (absC a) t9 hkse A9 c9 u F Y hc hu hd hinv.sok
            obtain ⟨R, hR⟩ : ∃ R, stepR c (absC a) t9 = R := ⟨_, rfl⟩
            rw [hR] at HDO i2
            simp only [hR] at GO0
            have GO1 := Lib.hid GO0
            have HDO1 := Lib.hid HDO
            have I2 := Lib.hid i2
            obtain ⟨s2, ⟨ix2, gn2⟩, dat2, er2⟩ := R
            obtain ⟨dd, ⟨ix, gn⟩, kk, dat⟩ := t9
            unfold GoPostS at GO1
            unfold seV at GO1 HDO1
            unfold confV at GO1
            simp only at GO1 HDO1 I2 g0 g1 g2 g3 g4 HBD hd91
            generalize dat.length = nd at *
            clear hc9 hx9 hin9 hkse HDO GO0 i2 hR
            have SG := Lib.hid (show ∀ Y, Keep (fun b => W.heap.size ≤ b) W Y → (Y.cell? ⟨b9, off9 + k * 5, none⟩ = some (.int .i64 dd) ∧ Y.cell? ⟨b9, off9 + k * 5 + 1, none⟩ = some (.int .i64 ix) ∧ Y.cell? ⟨b9, off9 + k * 5 + 2, none⟩ = some (.int .i64 gn) ∧ Y.cell? ⟨b9, off9 + k * 5 + 3, none⟩ = some (.int .i64 kk) ∧ Y.cell? ⟨b9, off9 + k * 5 + 4, none⟩ = some (.slice A9 nd c9)) from fun Y hk => ⟨hk.cell (fun h => by have : b9 < W.heap.size := hF9; have : W.heap.size ≤ b9 := h; omega) g0, hk.cell (fun h => by have : b9 < W.heap.size := hF9; have : W.heap.size ≤ b9 := h; omega) g1, hk.cell (fun h => by have : b9 < W.heap.size := hF9; have : W.heap.size ≤ b9 := h; omega) g2, hk.cell (fun h => by have : b9 < W.heap.size := hF9; have : W.heap.size ≤ b9 := h; omega) g3, hk.cell (fun h => by have : b9 < W.heap.size := hF9; have : W.heap.size ≤ b9 := h; omega) g4⟩)
            clear g0 g1 g2 g3 g4
            obtain ⟨g0, g1, g2, g3, g4⟩ := SG.out wr KWr.out.2
            have HCMR := Lib.hid (And.intro hcm (And.intro hcf (And.intro hsb (And.intro hsm hkr))))
            clear hcm hcf hsb hsm hkr hT' hG'
            go_wp2_with fail
            with_reducible refine HDO1.out.mono ?_
            rintro e w2 ⟨A5, m5, c5, rfl, hby5, Bn, hcm2, hkc2, hcf2⟩
            have HDD := Lib.hid (And.intro hby5 (And.intro hcm2 (And.intro hkc2 hcf2)))
            clear hby5 hcm2 hkc2 hcf2 g0 g1 g2 g3 g4 HDO1
            have hp12 : ∃ p12, w2.heap.size = p12 := ⟨_, rfl⟩
            obtain ⟨p12, hp12⟩ := hp12
            have HP12 := Lib.hid hp12
            go_upto_region 13 with fail
            refine wp_world (S := fun V2 => V2.heap[p12]? = some (.cells #[.int .i64 ix2, .int .i64 gn2] 40 (0, 0)) ∧ Keep (fun _ => False) w2 V2) ⟨by rw [← HP12.out]; exact heap_alloc_new w2 _, by exact (by repeat first | (with_reducible assumption) | (with_reducible exact Keep.refl _ _) | (with_reducible refine Keep.alloc ?_ _) | (with_reducible refine Keep.drew ?_) | (with_reducible refine Keep.drewN ?_ _) | (with_reducible refine Keep.setCell ?_ (.inl (by first | omega | (simp; done) | (simp; omega) | fail)) _))⟩ ?_
            rintro V2 ⟨hv1, hv2⟩
            clear hp12
            have zV2 : p12 < V2.heap.size := (Array.getElem?_eq_some_iff.1 hv1).1
            have HV2 := Lib.hid (And.intro hv1 hv2)
            have zr2 : wr.heap.size ≤ w2.heap.size := HDD.out.2.2.1.size
            have hkx2 : Keep (fun b => X1.heap.size ≤ b) X1 V2 := (HCMR.out.2.2.2.2.trans HDD.out.2.2.1 (fun b hb e => (HCMR.out.2.1 b e).1)).trans hv2 (fun _ _ h => h.elim)
            have KX2 := Lib.hid hkx2
            have KWV := Lib.hid (CB.out V2 hkx2)
            have HCM2 := Lib.hid (HDD.out.2.1.same hv2)
            have hlt2 : ∀ b, CoF xp Bn a' b → b < w2.heap.size := fun b hb => HDD.out.2.1.lt b hb
            have CFN := Lib.hid (show ∀ b, CoF xp Bn a' b → X1.heap.size ≤ b ∧ b ≠ sp ∧ b < w2.heap.size from fun b hb => by
              rcases HDD.out.2.2.2 b hb with e | e
              · exact ⟨(HCMR.out.2.1 b e).1, (HCMR.out.2.1 b e).2, hlt2 b hb⟩
              · have := HCMR.out.2.2.2.2.size; exact ⟨by omega, by omega, hlt2 b hb⟩)
            have hsb2 : V2.heap[sp]? = some (.cells #[.slice A1 n1 c1, .slice A2 n2 c2, .slice A3 n3 c3] 28 (0, 0)) := (hv2.block sp (by omega) (fun h => h)).trans ((HDD.out.2.2.1.block sp hspl (fun e => (HCMR.out.2.1 sp e).2 rfl)).trans HCMR.out.2.2.1)
            have HSM2 := Lib.hid (show StM V2 (fun b => (¬ CoF xp Bn a' b ∧ b ≠ sp) ∧ b < V2.heap.size) (.agg #[.slice A1 n1 c1, .slice A2 n2 c2, .slice A3 n3 c3]) (absC a) from by
              have h1 := (HCMR.out.2.2.2.1.mono (G := fun b => (¬ CoF xp B1 a b ∧ b ≠ sp) ∧ b < wr.heap.size) (fun b hb h => ⟨h, hb⟩)).keep HDD.out.2.2.1 (fun b hb h e => h.1.1 e)
              exact (h1.same hv2).mono (fun b _ h => ⟨⟨fun e => by
                rcases HDD.out.2.2.2 b e with e | e
                · exact h.1.1 e
                · have := h.2; omega, h.1.2⟩, by have := h.2; have := hv2.size; omega⟩))
            have FP := Lib.hid (show ∀ b, V2.heap.size ≤ b → ¬ CoF xp Bn a' b ∧ b ≠ sp from fun b hb => ⟨fun e => by have := hlt2 b e; have := hv2.size; omega, by have := hv2.size; omega⟩)
            have GO := Lib.hid (fun Y (hk : Keep (fun _ => False) V2 Y) => GO1.out Y _ (fun b => (¬ CoF xp Bn a' b ∧ b ≠ sp) ∧ b < V2.heap.size) (CA.out Y (KWV.out.2.trans hk (fun _ _ h => h.elim))) (HSM2.out.same hk) ((HBD.out.keep (S := fun b => W.heap.size ≤ b) (KWV.out.2.trans hk (fun _ _ h => h.elim)) (fun b hb _ h => by omega)).mono (fun b _ h => ⟨⟨fun e => by have := (CFN.out b e).1; have : b < W.heap.size := h; omega, by have : b < W.heap.size := h; omega⟩, by have : b < W.heap.size := h; have := KWV.out.2.size; omega⟩)))
            obtain ⟨v0, v1, v2, v3, v4, vf⟩ := cells5 KWV.out.1
            obtain ⟨x0, x1, x2, xf⟩ := cells3 hsb2
            obtain ⟨g0, g1, g2, g3, g4⟩ := SG.out V2 KWV.out.2
            have CE2 := Lib.hid (show ∀ W', Keep (fun _ => False) V2 W' → ((W'.cell? ⟨W.heap.size, 0, none⟩ = some (.int .i64 c.log) ∧ W'.cell? ⟨W.heap.size, 1, none⟩ = some (.int .i64 c.pages) ∧ W'.cell? ⟨W.heap.size, 2, none⟩ = some (.int .i64 c.ents) ∧ W'.cell? ⟨W.heap.size, 3, none⟩ = some (.int .i64 c.gens) ∧ W'.cell? ⟨W.heap.size, 4, none⟩ = some (.slice Au c.l.length cu)) ∧ (W'.cell? ⟨sp, 0, none⟩ = some (.slice A1 n1 c1) ∧ W'.cell? ⟨sp, 1, none⟩ = some (.slice A2 n2 c2) ∧ W'.cell? ⟨sp, 2, none⟩ = some (.slice A3 n3 c3)) ∧ (W'.cell? ⟨b9, off9 + k * 5, none⟩ = some (.int .i64 dd) ∧ W'.cell? ⟨b9, off9 + k * 5 + 1, none⟩ = some (.int .i64 ix) ∧ W'.cell? ⟨b9, off9 + k * 5 + 2, none⟩ = some (.int .i64 gn) ∧ W'.cell? ⟨b9, off9 + k * 5 + 3, none⟩ = some (.int .i64 kk) ∧ W'.cell? ⟨b9, off9 + k * 5 + 4, none⟩ = some (.slice A9 nd c9)) ∧ Keep (fun _ => False) V2 W') from fun W' hk => ⟨⟨hk.cell (fun h => h) v0, hk.cell (fun h => h) v1, hk.cell (fun h => h) v2, hk.cell (fun h => h) v3, hk.cell (fun h => h) v4⟩, ⟨hk.cell (fun h => h) x0, hk.cell (fun h => h) x1, hk.cell (fun h => h) x2⟩, ⟨hk.cell (fun h => h) g0, hk.cell (fun h => h) g1, hk.cell (fun h => h) g2, hk.cell (fun h => h) g3, hk.cell (fun h => h) g4⟩, hk⟩)
            have HSB2 := Lib.hid hsb2
            clear hv1 hv2 hkx2 hlt2 hsb2
            go_cut [15, 16, 17, 18] (fun t15 t16 t17 t18 wx => ∃ p13 p14 D1 m1 d1 D2 m2 d2 D3 d3 A6 m6 c6, t15 = .pointer (some ⟨p13, 0, none⟩) ∧ t16 = .pointer (some ⟨p14, 0, none⟩) ∧ t17 = .slice A6 m6 c6 ∧ t18 = .int .i64 er2 ∧ Hid (GCut V2 p13 p14 (.slice D1 m1 d1) (.slice D2 m2 d2) (.slice D3 s2.ents.length d3) (.int .i64 ix2) (.int .i64 gn2) (fun wx => StM wx (fun b => ¬ CoF xp Bn a' b ∧ b ≠ sp) (.agg #[.slice D1 m1 d1, .slice D2 m2 d2, .slice D3 s2.ents.length d3]) s2 ∧ By wx (fun b => ¬ CoF xp Bn a' b ∧ b ≠ sp) (.slice A6 m6 c6) dat2 ∧ Keep (fun _ => False) V2 wx) wx))
            case first =>
              go_region_held3 (fun W' => (W'.cell? ⟨W.heap.size, 0, none⟩ = some (.int .i64 c.log) ∧ W'.cell? ⟨W.heap.size, 1, none⟩ = some (.int .i64 c.pages) ∧ W'.cell? ⟨W.heap.size, 2, none⟩ = some (.int .i64 c.ents) ∧ W'.cell? ⟨W.heap.size, 3, none⟩ = some (.int .i64 c.gens) ∧ W'.cell? ⟨W.heap.size, 4, none⟩ = some (.slice Au c.l.length cu)) ∧ (W'.cell? ⟨sp, 0, none⟩ = some (.slice A1 n1 c1) ∧ W'.cell? ⟨sp, 1, none⟩ = some (.slice A2 n2 c2) ∧ W'.cell? ⟨sp, 2, none⟩ = some (.slice A3 n3 c3)) ∧ (W'.cell? ⟨b9, off9 + k * 5, none⟩ = some (.int .i64 dd) ∧ W'.cell? ⟨b9, off9 + k * 5 + 1, none⟩ = some (.int .i64 ix) ∧ W'.cell? ⟨b9, off9 + k * 5 + 2, none⟩ = some (.int .i64 gn) ∧ W'.cell? ⟨b9, off9 + k * 5 + 3, none⟩ = some (.int .i64 kk) ∧ W'.cell? ⟨b9, off9 + k * 5 + 4, none⟩ = some (.slice A9 nd c9)) ∧ Keep (fun _ => False) V2 W') (exact CE2.out _ (by exact (by repeat first | (with_reducible assumption) | (with_reducible exact Keep.refl _ _) | (with_reducible refine Keep.alloc ?_ _) | (with_reducible refine Keep.drew ?_) | (with_reducible refine Keep.drewN ?_ _) | (with_reducible refine Keep.setCell ?_ (.inl (by first | omega | (simp; done) | (simp; omega) | fail)) _)))) (first
                | (go_at_call 23; (with_reducible refine (GO.out _ (by exact (by repeat first | (with_reducible assumption) | (with_reducible exact Keep.refl _ _) | (with_reducible refine Keep.alloc ?_ _) | (with_reducible refine Keep.drew ?_) | (with_reducible refine Keep.drewN ?_ _) | (with_reducible refine Keep.setCell ?_ (.inl (by first | omega | (simp; done) | (simp; omega) | fail)) _)))).mono ?_); rintro e w6 ⟨u6, A6, m6, c6, rfl, hst6, hby6, hk6⟩; have k6 : Keep (fun _ => False) V2 w6 := Keep.trans (T := fun _ => False) (by exact (by repeat first | (with_reducible assumption) | (with_reducible exact Keep.refl _ _) | (with_reducible refine Keep.alloc ?_ _) | (with_reducible refine Keep.drew ?_) | (with_reducible refine Keep.drewN ?_ _) | (with_reducible refine Keep.setCell ?_ (.inl (by first | omega | (simp; done) | (simp; omega) | fail)) _))) hk6 (fun _ _ h => h); have z6 := k6.size; obtain ⟨D1, m1, d1, D2, m2, d2, D3, d3, rfl⟩ := hst6.shape2; have HG := ghyp_of (V2 := V2) (P := fun b => ¬ CoF xp Bn a' b ∧ b ≠ sp) hk6 hst6 hby6 (by exact (by repeat first | (with_reducible assumption) | (with_reducible exact Keep.refl _ _) | (with_reducible refine Keep.alloc ?_ _) | (with_reducible refine Keep.drew ?_) | (with_reducible refine Keep.drewN ?_ _) | (with_reducible refine Keep.setCell ?_ (.inl (by first | omega | (simp; done) | (simp; omega) | fail)) _))) (fun b h => h.2) (fun b h => h.1) FP.out; have HGG := Lib.hid HG; (first | (have aa := AlS.keep (AlS.new _) hk6; obtain ⟨AL, al⟩ := aa) | (have aa := AlS.keep (AlS.drew (AlS.new _)) hk6; obtain ⟨AL, al⟩ := aa) | (have aa := AlS.keep (AlS.alloc (AlS.new _) _) hk6; obtain ⟨AL, al⟩ := aa) | (have aa := AlS.keep (AlS.drew (AlS.alloc (AlS.new _) _)) hk6; obtain ⟨AL, al⟩ := aa) | skip); (first | (have aa := AlD.keep (AlD.new _) hk6; obtain ⟨AG, ag⟩ := aa) | (have aa := AlD.keep (AlD.drew (AlD.new _)) hk6; obtain ⟨AG, ag⟩ := aa) | (have aa := AlD.keep (AlD.alloc (AlD.new _) _) hk6; obtain ⟨AG, ag⟩ := aa) | (have aa := AlD.keep (AlD.drew (AlD.alloc (AlD.new _) _)) hk6; obtain ⟨AG, ag⟩ := aa) | skip); (try simp only [World.size_alloc] at AL); (try simp only [World.size_alloc] at AG); (first | (have cc := cells3 AL; obtain ⟨q0, q1, q2, qf⟩ := cc; have pn1 := Nat.ne_of_gt (AlS.lt AL); have pn2 := Nat.ne_of_lt (AlS.lt AL); have qa0 := fun o => (cells3 (AlS.alloc AL o)).1; have qa1 := fun o => (cells3 (AlS.alloc AL o)).2.1; have qa2 := fun o => (cells3 (AlS.alloc AL o)).2.2.1; have qaf := fun o => (cells3 (AlS.alloc AL o)).2.2.2; have na0 := fun p x y z => (cells2 (set3_new w6 p x y z (.cells #[.int .i64 0, .int .i64 0] 40 (0, 0)))).1; have na1 := fun p x y z => (cells2 (set3_new w6 p x y z (.cells #[.int .i64 0, .int .i64 0] 40 (0, 0)))).2.1; have naf := fun p x y z => (cells2 (set3_new w6 p x y z (.cells #[.int .i64 0, .int .i64 0] 40 (0, 0)))).2.2) | skip); (first | (have cc := cells2 AG; obtain ⟨t0, t1, tf⟩ := cc; have pg1 := Nat.ne_of_gt (AlD.lt AG); have pg2 := Nat.ne_of_lt (AlD.lt AG); have ta0 := fun o => (cells2 (AlD.alloc AG o)).1; have ta1 := fun o => (cells2 (AlD.alloc AG o)).2.1; have taf := fun o => (cells2 (AlD.alloc AG o)).2.2) | skip); clear hst6 hby6)
                | fail)
              all_goals
                go_wp2_with fail
                go_meet
                refine ⟨_, _, D1, m1, d1, D2, m2, d2, D3, d3, A6, m6, c6, rfl, rfl, rfl, rfl, Lib.hid ?_⟩
                first
                  | with_reducible exact gcut1 HGG.out k6
                  | with_reducible exact gcut2 HGG.out k6
                  | with_reducible exact gcut4 HGG.out AL AG (by omega) (by omega) (by first | exact al | (simp; done) | (simp; omega)) (by omega) (by first | exact ag | (simp; done) | (simp; omega))
                  | with_reducible exact gcut5 HGG.out k6 AG (by omega) ag
                  | with_reducible exact gcut3c HGG.out k6 AL (by omega) al
                  | with_reducible exact gcut3 HGG.out k6 AL (by omega) al
                  | with_reducible exact gcut3b HGG.out k6 AL (by omega) al
                  | fail "SEE1"
            case rest =>
              obtain ⟨p13, p14, D1, m1, d1, D2, m2, d2, D3, d3, A6, m6, c6, rfl, rfl, rfl, rfl, hgc⟩ := hcut
              obtain ⟨w13, w14, l13, l14, hQ1, hQ2, hQ3⟩ := hgc.out
              clear CE2 v0 v1 v2 v3 v4 vf x0 x1 x2 xf g0 g1 g2 g3 g4
              have hspV : sp < V2.heap.size := by have := HV2.out.2.size; omega
              have wsp := (hQ3.block sp hspV (fun h => h)).trans HSB2.out
              obtain ⟨x0, x1, x2, xf⟩ := cells3 w13
              obtain ⟨z0, z1, z2, zf⟩ := cells3 wsp
              have K3c := keep3R wc sp (.slice D1 m1 d1) (.slice D2 m2 d2) (.slice D3 s2.ents.length d3)
              have HFIN := Lib.hid (And.intro wsp (And.intro w14 (And.intro hQ1 (And.intro hQ2 (And.intro hQ3 K3c)))))
              have zwc := hQ3.size
              clear w13 w14 wsp hQ1 hQ2 hQ3 K3c hgc
              go_upto_region 15 with fail
              refine wp_world (S := fun W3 => W3.heap[sp]? = some (.cells #[.slice D1 m1 d1, .slice D2 m2 d2, .slice D3 s2.ents.length d3] 28 (0, 0)) ∧ W3.heap[p12]? = some (.cells #[.int .i64 ix2, .int .i64 gn2] 40 (0, 0)) ∧ W3.heap[p14]? = some (.cells #[.int .i64 ix2, .int .i64 gn2] 40 (0, 0)) ∧ StM W3 (fun b => ¬ CoF xp Bn a' b ∧ b ≠ sp) (.agg #[.slice D1 m1 d1, .slice D2 m2 d2, .slice D3 s2.ents.length d3]) s2 ∧ By W3 (fun _ => True) (.slice A5 m5 c5) dat2 ∧ By W3 (fun _ => True) (.slice A6 m6 c6) dat2 ∧ CoM W3 c xp Bn q' a' ∧ Keep (fun b => X1.heap.size ≤ b) X1 W3 ∧ V2.heap.size ≤ W3.heap.size) ?_ ?_
              · obtain ⟨y1, y2, y3, y4, y5, y6⟩ := HFIN.out
                have hsV : sp < V2.heap.size := by have := HV2.out.2.size; omega
                have hp12 : p12 ≠ sp := fun e => by have := HP12.out; omega
                refine ⟨heap_3J y1 _ _ _, (y6.block p12 (by omega) (fun e => hp12 e)).trans ((y5.block p12 (by omega) (fun h => h)).trans HV2.out.1), (y6.block p14 (Array.getElem?_eq_some_iff.1 y2).1 (fun e => by have : p14 = sp := e; omega)).trans y2, y3.keep y6 (fun b _ h e => h.2 e), ?_, ?_, ?_, ?_, ?_⟩
                · exact (By.keep ((By.keep HDD.out.1 HV2.out.2 (fun _ _ _ h => h)).keep y5 (fun _ _ _ h => h)) y6 (fun b _ h e => by have : wr.heap.size ≤ b := h; have : b = sp := e; omega)).mono (fun _ _ _ => trivial)
                · exact (By.keep y4 y6 (fun b _ h e => h.2 e)).mono (fun _ _ _ => trivial)
                · exact (HCM2.out.same y5).keep y6 (fun b hb e => (CFN.out b hb).2.1 e)
                · exact (KX2.out.trans y5 (fun _ _ h => h.elim)).trans y6 (fun b _ e => by have : b = sp := e; omega)
                · have := y6.size; omega
              rintro W3 ⟨h31, h32, h33, h34, h35, h36, h37, h38, h39⟩
              obtain ⟨ns, hns2⟩ : ∃ ns, s2.ents.length = ns := ⟨_, rfl⟩
              rw [hns2] at h31 h34 ⊢
              have HNS := Lib.hid hns2
              have KW3b := Lib.hid (CB.out W3 h38)
              have CT := Lib.hid (fun X (hk : Keep (fun _ => False) W3 X) => c_count (h37.same hk))
              have hT3 := HT.out W3 KW3b.out.2
              have hG3 : ¬ CoF xp Bn a' 0 := fun e => by have := (CFN.out _ e).1; omega
              have ES := Lib.hid (fun X (hk : Keep (fun _ => False) W3 X) => e_state (h37.same hk) (by omega) (hT3.same hk) hG3 i1.sgs i1.ok)
              have SB := Lib.hid (fun X (hk : Keep (fun _ => False) W3 X) => same_any dat2 dat2 (.slice A5 m5 c5) (.slice A6 m6 c6) (fun _ => True) (fun _ => True) X (By.keep h35 hk (fun _ _ _ h => h)) (By.keep h36 hk (fun _ _ _ h => h)))
              have SS := Lib.hid (fun X u (F : Nat → Prop) (hk : Keep (CoF xp Bn a') W3 X) (hu : StM X F u s2) => same11 s2 u (.agg #[.slice D1 m1 d1, .slice D2 m2 d2, .slice D3 ns d3]) F (fun b => ¬ CoF xp Bn a' b ∧ b ≠ sp) X hu (h34.keep hk (fun b _ h e => h.1 e)))
              rw [decide_eq_true (rfl : dat2 = dat2)] at SB
              rw [I2.out] at CT
              rw [hns2] at CT
              obtain ⟨y0, y1, yf⟩ := cells2 h32
              obtain ⟨t0, t1, tf⟩ := cells2 h33
              clear x0 x1 x2 xf z0 z1 z2 zf
              obtain ⟨x0, x1, x2, xf⟩ := cells3 h31
              have NCF := Lib.hid (show ¬ CoF xp Bn a' p12 ∧ ¬ CoF xp Bn a' p14 ∧ ¬ CoF xp Bn a' sp from ⟨fun e => by have := (CFN.out _ e).2.2; have := HP12.out; omega, fun e => by have := (CFN.out _ e).2.2; have := HV2.out.2.size; omega, fun e => (CFN.out _ e).2.1 rfl⟩)
              have CE3 := Lib.hid (show ∀ W', Keep (CoF xp Bn a') W3 W' → (((W'.cell? ⟨p12, 0, none⟩ = some (.int .i64 ix2) ∧ W'.cell? ⟨p12, 1, none⟩ = some (.int .i64 gn2)) ∧ (W'.cell? ⟨p14, 0, none⟩ = some (.int .i64 ix2) ∧ W'.cell? ⟨p14, 1, none⟩ = some (.int .i64 gn2)) ∧ (W'.cell? ⟨sp, 0, none⟩ = some (.slice D1 m1 d1) ∧ W'.cell? ⟨sp, 1, none⟩ = some (.slice D2 m2 d2) ∧ W'.cell? ⟨sp, 2, none⟩ = some (.slice D3 ns d3))) ∧ Keep (CoF xp Bn a') W3 W') from fun W' hk => ⟨⟨⟨hk.cell NCF.out.1 y0, hk.cell NCF.out.1 y1⟩, ⟨hk.cell NCF.out.2.1 t0, hk.cell NCF.out.2.1 t1⟩, ⟨hk.cell NCF.out.2.2 x0, hk.cell NCF.out.2.2 x1, hk.cell NCF.out.2.2 x2⟩⟩, hk⟩)
              have H3 := Lib.hid (And.intro h31 (And.intro h34 (And.intro h37 (And.intro h38 h39))))
              clear h31 h32 h33 h34 h35 h36 h37 h38 hT3 hG3 hns2
              have ex1 : (ix2 == ix2) = true := by simp
              have ex2 : (gn2 == gn2) = true := by simp
              have ex3 : (er2 != er2) = false := by simp
              have ex4 : ((ns : Int) != (ns : Int)) = false := by simp
              go_region_held3 (fun W' => ((W'.cell? ⟨p12, 0, none⟩ = some (.int .i64 ix2) ∧ W'.cell? ⟨p12, 1, none⟩ = some (.int .i64 gn2)) ∧ (W'.cell? ⟨p14, 0, none⟩ = some (.int .i64 ix2) ∧ W'.cell? ⟨p14, 1, none⟩ = some (.int .i64 gn2)) ∧ (W'.cell? ⟨sp, 0, none⟩ = some (.slice D1 m1 d1) ∧ W'.cell? ⟨sp, 1, none⟩ = some (.slice D2 m2 d2) ∧ W'.cell? ⟨sp, 2, none⟩ = some (.slice D3 ns d3))) ∧ Keep (CoF xp Bn a') W3 W') (exact CE3.out _ (by exact (by repeat first | (with_reducible assumption) | (with_reducible exact Keep.refl _ _) | (with_reducible refine Keep.alloc ?_ _) | (with_reducible refine Keep.drew ?_) | (with_reducible refine Keep.drewN ?_ _) | (with_reducible refine Keep.setCell ?_ (.inl (by first | omega | (simp; done) | (simp; omega) | fail)) _)))) (first
                | (go_at_call 24; (with_reducible refine (SB.out _ (by exact (by repeat first | (with_reducible assumption) | (with_reducible exact Keep.refl _ _) | (with_reducible refine Keep.alloc ?_ _) | (with_reducible refine Keep.drew ?_) | (with_reducible refine Keep.drewN ?_ _) | (with_reducible refine Keep.setCell ?_ (.inl (by first | omega | (simp; done) | (simp; omega) | fail)) _)))).mono ?_); rintro e w4' ⟨rfl, rfl⟩)
                | (go_at_call 25; (with_reducible refine (CT.out _ (by exact (by repeat first | (with_reducible assumption) | (with_reducible exact Keep.refl _ _) | (with_reducible refine Keep.alloc ?_ _) | (with_reducible refine Keep.drew ?_) | (with_reducible refine Keep.drewN ?_ _) | (with_reducible refine Keep.setCell ?_ (.inl (by first | omega | (simp; done) | (simp; omega) | fail)) _)))).mono ?_); rintro e w5' ⟨rfl, hk5'⟩; have k5' : Keep (fun _ => False) W3 w5' := Keep.trans (T := fun _ => False) (by exact (by repeat first | (with_reducible assumption) | (with_reducible exact Keep.refl _ _) | (with_reducible refine Keep.alloc ?_ _) | (with_reducible refine Keep.drew ?_) | (with_reducible refine Keep.drewN ?_ _) | (with_reducible refine Keep.setCell ?_ (.inl (by first | omega | (simp; done) | (simp; omega) | fail)) _))) hk5' (fun _ _ h => h); have kc5 : Keep (CoF xp Bn a') W3 w5' := k5'.mono (fun _ _ h => h.elim); clear hk5')
                | (go_at_call 26; (with_reducible refine (ES.out _ (by exact (by repeat first | (with_reducible assumption) | (with_reducible exact Keep.refl _ _) | (with_reducible refine Keep.alloc ?_ _) | (with_reducible refine Keep.drew ?_) | (with_reducible refine Keep.drewN ?_ _) | (with_reducible refine Keep.setCell ?_ (.inl (by first | omega | (simp; done) | (simp; omega) | fail)) _)))).mono ?_); rintro e w7 ⟨u7, mg, B7, rfl, hst7, hmg, hco7⟩; have kc7 : Keep (CoF xp Bn a') W3 w7 := Keep.trans (T := CoF xp Bn a') (by exact (by repeat first | (with_reducible assumption) | (with_reducible exact Keep.refl _ _) | (with_reducible refine Keep.alloc ?_ _) | (with_reducible refine Keep.drew ?_) | (with_reducible refine Keep.drewN ?_ _) | (with_reducible refine Keep.setCell ?_ (.inl (by first | omega | (simp; done) | (simp; omega) | fail)) _))) hco7.2.1 (fun _ _ h => h); have HS7 := Lib.hid (show StM w7 (fun _ => True) u7 s2 from by rw [← I2.out]; exact hst7.mono (fun _ _ _ => trivial)); have zc7 := keep_size3 (X := W3) hco7.2.1 (by exact (by repeat first | (with_reducible assumption) | (with_reducible exact Keep.refl _ _) | (with_reducible refine Keep.alloc ?_ _) | (with_reducible refine Keep.drew ?_) | (with_reducible refine Keep.drewN ?_ _) | (with_reducible refine Keep.setCell ?_ (.inl (by first | omega | (simp; done) | (simp; omega) | fail)) _))); have HC7 := Lib.hid (And.intro hco7.1 (And.intro hmg (show ∀ b, CoF xp B7 (growC a' mg) b → CoF xp Bn a' b ∨ W3.heap.size ≤ b from fun b hb => (hco7.2.2 b hb).imp_right (fun h => Nat.le_trans zc7 h)))); clear hst7 hco7 hmg)
                | (go_at_call 15; (with_reducible refine (SS.out _ u7 (fun _ => True) (by exact (by repeat first | (with_reducible assumption) | (with_reducible exact Keep.refl _ _) | (with_reducible refine Keep.alloc ?_ _) | (with_reducible refine Keep.drew ?_) | (with_reducible refine Keep.drewN ?_ _) | (with_reducible refine Keep.setCell ?_ (.inl (by first | omega | (simp; done) | (simp; omega) | fail)) _))) (by exact HS7.out.same (by exact (by repeat first | (with_reducible assumption) | (with_reducible exact Keep.refl _ _) | (with_reducible refine Keep.alloc ?_ _) | (with_reducible refine Keep.drew ?_) | (with_reducible refine Keep.drewN ?_ _) | (with_reducible refine Keep.setCell ?_ (.inl (by first | omega | (simp; done) | (simp; omega) | fail)) _))))).mono ?_); rintro e w8 ⟨rfl, hk8⟩; have kc8 : Keep (CoF xp Bn a') W3 w8 := Keep.trans (T := CoF xp Bn a') (by exact (by repeat first | (with_reducible assumption) | (with_reducible exact Keep.refl _ _) | (with_reducible refine Keep.alloc ?_ _) | (with_reducible refine Keep.drew ?_) | (with_reducible refine Keep.drewN ?_ _) | (with_reducible refine Keep.setCell ?_ (.inl (by first | omega | (simp; done) | (simp; omega) | fail)) _))) (hk8.mono (fun _ _ h => h.elim)) (fun _ _ h => h); have k78 : Keep (fun _ => False) w7 w8 := Keep.trans (T := fun _ => False) (by exact (by repeat first | (with_reducible assumption) | (with_reducible exact Keep.refl _ _) | (with_reducible refine Keep.alloc ?_ _) | (with_reducible refine Keep.drew ?_) | (with_reducible refine Keep.drewN ?_ _) | (with_reducible refine Keep.setCell ?_ (.inl (by first | omega | (simp; done) | (simp; omega) | fail)) _))) hk8 (fun _ _ h => h); clear hk8)
                | fail)
              have FIN := Lib.hid (show EsSt X1 c xp sp (k + 1) (growC a' mg) q' B7 w8 from by
                obtain ⟨n31, n34, n37, n38, n39⟩ := H3.out
                obtain ⟨gi, ga⟩ := i1.grow HC7.out.2.1
                have hsV3 : sp < W3.heap.size := by have := HV2.out.2.size; omega
                refine ⟨HC7.out.1.same k78, gi, ⟨by omega, ?_⟩, ⟨D1, m1, d1, D2, m2, d2, D3, ns, d3, ?_, ?_⟩, fun b hb => ⟨?_, ?_⟩, ?_, ?_, hX1s⟩
                · show a'.sigs.length ≤ k + 1 + 1
                  omega
                · exact (kc8.block sp hsV3 NCF.out.2.2).trans n31
                · rw [ga, I2.out]
                  exact ((n34.mono (G := fun b => (¬ CoF xp Bn a' b ∧ b ≠ sp) ∧ b < W3.heap.size) (fun b hb h => ⟨h, hb⟩)).keep kc8 (fun b _ h e => h.1.1 e)).mono (fun b _ h => ⟨fun e => by
                    rcases HC7.out.2.2 b e with e | e
                    · exact h.1.1 e
                    · have := h.2; omega, h.1.2⟩)
                · rcases HC7.out.2.2 b hb with e | e
                  · exact (CFN.out b e).1
                  · have := n38.size; omega
                · rcases HC7.out.2.2 b hb with e | e
                  · exact (CFN.out b e).2.1
                  · omega
                · exact n38.trans kc8 (fun b _ e => (CFN.out b e).1)
                · have := kc8.size; omega)
              go_wp2
              go_roundw
              case rel => exact ⟨k + 1, growC a' mg, q', B7, by omega, by go_num, Lib.hid (FIN.out.same (by exact (by repeat first | (with_reducible assumption) | (with_reducible exact Keep.refl _ _) | (with_reducible refine Keep.alloc ?_ _) | (with_reducible refine Keep.drew ?_) | (with_reducible refine Keep.drewN ?_ _) | (with_reducible refine Keep.setCell ?_ (.inl (by first | omega | (simp; done) | (simp; omega) | fail)) _))))⟩
              case measure => simp [intOf]; omega
          · have hi : ¬ (k : Int) < (n : Int) := by omega
            have hsok := hinv.sok
            obtain ⟨Qs, hQs⟩ : ∃ Qs, queryR (absC a) x y = Qs := ⟨_, rfl⟩
            have QC := Lib.hid (fun X (hk : Keep (fun _ => False) wr X) => c_query (hcm.same hk) hinv (by omega) (hT'.same hk) hG' x y hx hy)
            have QR := Lib.hid (fun X (hk : Keep (CoF xp B1 a) wr X) => r11_query (absC a) x y hx hy (.agg #[.slice A1 n1 c1, .slice A2 n2 c2, .slice A3 n3 c3]) (fun b => ¬ CoF xp B1 a b ∧ b ≠ sp) X (hsm.keep hk (fun b _ h e => h.1 e)) (by have := hsok.e24; omega) (fun e he => by have := hsok.p64 e he; omega))
            rw [hQs] at QC QR
            have SI := Lib.hid (fun X u v F G hu hv => same_ids Qs u v F G X hu hv)
            have HLT := Lib.hid (show ∀ b, wr.heap.size ≤ b → ¬ CoF xp B1 a b from fun b hb e => by have := hcm.lt b e; omega)
            have HWL := Lib.hid (show ∀ X, Keep (CoF xp B1 a) wr X → Keep (fun b => W.heap.size ≤ b) W X from fun X hk => KWr.out.2.trans hk (fun b _ e => by have := (hcf b e).1; omega))
            obtain ⟨x0, x1, x2, xf⟩ := cells3 hsb
            have nsp : ¬ CoF xp B1 a sp := fun e => (hcf sp e).2 rfl
            have CE := Lib.hid (show ∀ W', Keep (CoF xp B1 a) wr W' → ((W'.cell? ⟨sp, 0, none⟩ = some (.slice A1 n1 c1) ∧ W'.cell? ⟨sp, 1, none⟩ = some (.slice A2 n2 c2) ∧ W'.cell? ⟨sp, 2, none⟩ = some (.slice A3 n3 c3)) ∧ Keep (CoF xp B1 a) wr W') from fun W' hk => ⟨⟨hk.cell nsp x0, hk.cell nsp x1, hk.cell nsp x2⟩, hk⟩)
            clear hcm hsb hsm hkr hT' hG' hQs hsok nsp
            go_upto_region 17 with fail
            go_region_held3 (fun W' => (W'.cell? ⟨sp, 0, none⟩ = some (.slice A1 n1 c1) ∧ W'.cell? ⟨sp, 1, none⟩ = some (.slice A2 n2 c2) ∧ W'.cell? ⟨sp, 2, none⟩ = some (.slice A3 n3 c3)) ∧ Keep (CoF xp B1 a) wr W') (exact CE.out _ (by exact (by repeat first | (with_reducible assumption) | (with_reducible exact Keep.refl _ _) | (with_reducible refine Keep.alloc ?_ _) | (with_reducible refine Keep.drew ?_) | (with_reducible refine Keep.drewN ?_ _) | (with_reducible refine Keep.setCell ?_ (.inl (by first | omega | (simp; done) | (simp; omega) | fail)) _)))) (first
              | (go_at_call 28; (with_reducible refine (QC.out _ (by exact (by repeat first | (with_reducible assumption) | (with_reducible exact Keep.refl _ _) | (with_reducible refine Keep.alloc ?_ _) | (with_reducible refine Keep.drew ?_) | (with_reducible refine Keep.drewN ?_ _) | (with_reducible refine Keep.setCell ?_ (.inl (by first | omega | (simp; done) | (simp; omega) | fail)) _)))).mono ?_); rintro e w4' ⟨A4, c4, m4, B4, rfl, ho4, -, hat4⟩; have z4' := keep_size3 (X := wr) hat4.2.1 (by exact (by repeat first | (with_reducible assumption) | (with_reducible exact Keep.refl _ _) | (with_reducible refine Keep.alloc ?_ _) | (with_reducible refine Keep.drew ?_) | (with_reducible refine Keep.drewN ?_ _) | (with_reducible refine Keep.setCell ?_ (.inl (by first | omega | (simp; done) | (simp; omega) | fail)) _))); have kc4 : Keep (CoF xp B1 a) wr w4' := Keep.trans (T := CoF xp B1 a) (by exact (by repeat first | (with_reducible assumption) | (with_reducible exact Keep.refl _ _) | (with_reducible refine Keep.alloc ?_ _) | (with_reducible refine Keep.drew ?_) | (with_reducible refine Keep.drewN ?_ _) | (with_reducible refine Keep.setCell ?_ (.inl (by first | omega | (simp; done) | (simp; omega) | fail)) _))) hat4.2.1 (fun _ _ h => h); have HQ4 := Lib.hid (show Sl w4' (fun b => wr.heap.size ≤ b) 2 (.slice A4 Qs.length c4) Qs.length (Qs.flatMap idC) from ho4.sl.mono (fun b _ h => by omega)); (first | (have HR5' := Lib.hid (HR5.out.keep (S := CoF xp B1 a) (Keep.trans (T := CoF xp B1 a) (by exact (by repeat first | (with_reducible assumption) | (with_reducible exact Keep.refl _ _) | (with_reducible refine Keep.alloc ?_ _) | (with_reducible refine Keep.drew ?_) | (with_reducible refine Keep.drewN ?_ _) | (with_reducible refine Keep.setCell ?_ (.inl (by first | omega | (simp; done) | (simp; omega) | fail)) _))) hat4.2.1 (fun _ _ h => h)) (fun b _ h => HLT.out b h))) | skip); clear ho4 hat4)
              | (go_at_call 29; (with_reducible refine (QR.out _ (by exact (by repeat first | (with_reducible assumption) | (with_reducible exact Keep.refl _ _) | (with_reducible refine Keep.alloc ?_ _) | (with_reducible refine Keep.drew ?_) | (with_reducible refine Keep.drewN ?_ _) | (with_reducible refine Keep.setCell ?_ (.inl (by first | omega | (simp; done) | (simp; omega) | fail)) _)))).mono ?_); rintro e w5' ⟨A5, c5, rfl, hs5, hk5⟩; have z5' := keep_size2' (X := wr) (S := CoF xp B1 a) hk5 (by exact (by repeat first | (with_reducible assumption) | (with_reducible exact Keep.refl _ _) | (with_reducible refine Keep.alloc ?_ _) | (with_reducible refine Keep.drew ?_) | (with_reducible refine Keep.drewN ?_ _) | (with_reducible refine Keep.setCell ?_ (.inl (by first | omega | (simp; done) | (simp; omega) | fail)) _))); have kc5 : Keep (CoF xp B1 a) wr w5' := Keep.trans (T := CoF xp B1 a) (by exact (by repeat first | (with_reducible assumption) | (with_reducible exact Keep.refl _ _) | (with_reducible refine Keep.alloc ?_ _) | (with_reducible refine Keep.drew ?_) | (with_reducible refine Keep.drewN ?_ _) | (with_reducible refine Keep.setCell ?_ (.inl (by first | omega | (simp; done) | (simp; omega) | fail)) _))) (hk5.mono (fun _ _ h => h.elim)) (fun _ _ h => h); (first | (have k5q : Keep (fun _ => False) wr w5' := (by refine Keep.trans (T := fun _ => False) ?_ hk5 (fun _ _ h => h); first | with_reducible exact Keep.refl _ _ | with_reducible exact (Keep.refl _ _).drew)) | skip); have HR5 := Lib.hid (show Sl w5' (fun b => wr.heap.size ≤ b) 2 (.slice A5 Qs.length c5) Qs.length (Qs.flatMap idC) from hs5.mono (fun b _ h => by omega)); (first | (have HQ4' := Lib.hid (HQ4.out.keep (S := fun _ => False) (Keep.trans (T := fun _ => False) (by exact (by repeat first | (with_reducible assumption) | (with_reducible exact Keep.refl _ _) | (with_reducible refine Keep.alloc ?_ _) | (with_reducible refine Keep.drew ?_) | (with_reducible refine Keep.drewN ?_ _) | (with_reducible refine Keep.setCell ?_ (.inl (by first | omega | (simp; done) | (simp; omega) | fail)) _))) hk5 (fun _ _ h => h)) (fun _ _ _ h => h))) | skip); clear hs5 hk5)
              | (go_at_call 27; (first | (with_reducible refine (SI.out _ _ _ _ _ (HQ4'.out.keep (S := fun _ => False) (by exact (by repeat first | (with_reducible assumption) | (with_reducible exact Keep.refl _ _) | (with_reducible refine Keep.alloc ?_ _) | (with_reducible refine Keep.drew ?_) | (with_reducible refine Keep.drewN ?_ _) | (with_reducible refine Keep.setCell ?_ (.inl (by first | omega | (simp; done) | (simp; omega) | fail)) _))) (fun _ _ _ h => h)) (HR5.out.keep (S := fun _ => False) (by exact (by repeat first | (with_reducible assumption) | (with_reducible exact Keep.refl _ _) | (with_reducible refine Keep.alloc ?_ _) | (with_reducible refine Keep.drew ?_) | (with_reducible refine Keep.drewN ?_ _) | (with_reducible refine Keep.setCell ?_ (.inl (by first | omega | (simp; done) | (simp; omega) | fail)) _))) (fun _ _ _ h => h))).mono ?_) | (with_reducible refine (SI.out _ _ _ _ _ (HQ4.out.keep (S := fun _ => False) (by exact (by repeat first | (with_reducible assumption) | (with_reducible exact Keep.refl _ _) | (with_reducible refine Keep.alloc ?_ _) | (with_reducible refine Keep.drew ?_) | (with_reducible refine Keep.drewN ?_ _) | (with_reducible refine Keep.setCell ?_ (.inl (by first | omega | (simp; done) | (simp; omega) | fail)) _))) (fun _ _ _ h => h)) (HR5'.out.keep (S := fun _ => False) (by exact (by repeat first | (with_reducible assumption) | (with_reducible exact Keep.refl _ _) | (with_reducible refine Keep.alloc ?_ _) | (with_reducible refine Keep.drew ?_) | (with_reducible refine Keep.drewN ?_ _) | (with_reducible refine Keep.setCell ?_ (.inl (by first | omega | (simp; done) | (simp; omega) | fail)) _))) (fun _ _ _ h => h))).mono ?_)); rintro e w6' ⟨rfl, hk6'⟩; have kc6 : Keep (CoF xp B1 a) wr w6' := Keep.trans (T := CoF xp B1 a) (by exact (by repeat first | (with_reducible assumption) | (with_reducible exact Keep.refl _ _) | (with_reducible refine Keep.alloc ?_ _) | (with_reducible refine Keep.drew ?_) | (with_reducible refine Keep.drewN ?_ _) | (with_reducible refine Keep.setCell ?_ (.inl (by first | omega | (simp; done) | (simp; omega) | fail)) _))) (hk6'.mono (fun _ _ h => h.elim)) (fun _ _ h => h); clear hk6')
              | (go_at_call 17; (with_reducible refine (LV.out _ (HWL.out _ (by exact (by repeat first | (with_reducible assumption) | (with_reducible exact Keep.refl _ _) | (with_reducible refine Keep.alloc ?_ _) | (with_reducible refine Keep.drew ?_) | (with_reducible refine Keep.drewN ?_ _) | (with_reducible refine Keep.setCell ?_ (.inl (by first | omega | (simp; done) | (simp; omega) | fail)) _))))).mono ?_); rintro e w7' ⟨rfl, hb7'⟩; have kc7 : Keep (CoF xp B1 a) wr w7' := Keep.trans (T := CoF xp B1 a) (by exact (by repeat first | (with_reducible assumption) | (with_reducible exact Keep.refl _ _) | (with_reducible refine Keep.alloc ?_ _) | (with_reducible refine Keep.drew ?_) | (with_reducible refine Keep.drewN ?_ _) | (with_reducible refine Keep.setCell ?_ (.inl (by first | omega | (simp; done) | (simp; omega) | fail)) _))) ((Keep.of_below' hb7').mono (fun _ _ h => h.elim)) (fun _ _ h => h); clear hb7')
              | fail)
            all_goals
              go_wp2
              go_ret
              exact ⟨rfl, (HWL.out _ (by exact (by repeat first | (with_reducible assumption) | (with_reducible exact Keep.refl _ _) | (with_reducible refine Keep.alloc ?_ _) | (with_reducible refine Keep.drew ?_) | (with_reducible refine Keep.drewN ?_ _) | (with_reducible refine Keep.setCell ?_ (.inl (by first | omega | (simp; done) | (simp; omega) | fail)) _)))).to_below (Nat.le_refl _)⟩
      · have hrt : rightB c = false := by
          unfold checkF at hck
          by_cases e : rightB c = true
          · exact absurd (if_pos e) hck
          · simpa using e
        go_wp2_with fail
        with_reducible refine (NB.out w1 (K1.out.trans KX1.out (fun _ _ h => h)) (by omega) hck).mono ?_
        rintro e w3 ⟨rfl, hk3⟩
        have K3 := Lib.hid hk3
        have KW3 := Lib.hid (CB.out w3 ((KX1.out.trans hk3 (fun _ _ h => h)).mono (fun _ _ h => h.elim)))
        clear v0 v1 v2 v3 v4 vf hk3 hck
        have R3 := Lib.hid (RR.out w3 KW3.out.2 hns)
        rw [hrt] at R3
        obtain ⟨v0, v1, v2, v3, v4, vf⟩ := cells5 KW3.out.1
        go_wp2_with fail
        with_reducible refine R3.out.mono ?_
        rintro e w4 ⟨rfl, hB4⟩
        have K4 := Lib.hid (Keep.of_below' hB4)
        have KW4 := Lib.hid (CB.out w4 (((KX1.out.trans K3.out (fun _ _ h => h)).trans K4.out (fun _ _ h => h)).mono (fun _ _ h => h.elim)))
        clear v0 v1 v2 v3 v4 vf hB4 R3
        go_wp2_with fail
        with_reducible refine (LV.out w4 KW4.out.2).mono ?_
        rintro e w5 ⟨rfl, hb5⟩
        have H5 := Lib.hid hb5
        clear hb5
        go_wp2
        go_ret
        exact ⟨rfl, (KW4.out.2.to_below (Nat.le_refl _)).trans (H5.out.mono (by have := KW4.out.2.size; omega))⟩
end Go.Proofs.YtglliendhbkkhaaGreatDoor

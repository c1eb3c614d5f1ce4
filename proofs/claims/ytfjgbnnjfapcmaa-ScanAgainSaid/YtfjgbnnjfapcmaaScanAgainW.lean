/- The walk of vivariumlaw18.ScanAgain. Printed by genscanagain.py. -/
import Derived.Test.YtfjgbnnjfapcmaaScanD
import Derived.Deep.DeepCutAuto
namespace Go.Proofs.Ytfjgbnnjfapcmaa
open Go.RowKit
set_option maxRecDepth 100000
set_option linter.unusedVariables false
set_option linter.unusedSimpArgs false

theorem run_tailRecs (W : World) (A : Option Addr) (n d : Nat) (x y z : Int) : (Instr.field 44 (.agg #[.slice A n d, .int .i64 x, .int .i64 y, .int .i64 z]) 0).run Try.prog W = .ok (.slice A n d) W := by
  kernel_rfl
/-- May the law ask at all? -/
def askA (m0 r0 f0 q1 q2 q3 : Bool) : Bool := m0 || (!r0 || (!f0 || (q1 || (q2 || q3))))
theorem askA_no {m0 r0 f0 q1 q2 q3 : Bool} (h : askA m0 r0 f0 q1 q2 q3 = false) : m0 = false ∧ r0 = true ∧ f0 = true ∧ q1 = false ∧ q2 = false ∧ q3 = false := by
  cases m0 <;> cases r0 <;> cases f0 <;> cases q1 <;> cases q2 <;> cases q3 <;> first | (cases h; done) | exact ⟨rfl, rfl, rfl, rfl, rfl, rfl⟩
set_option maxHeartbeats 8000000 in
theorem scanAgain_walk (c : Cf) (u : Value) (l : List (List UInt8)) (v : Value) (F1 F2 : List (List Cmd)) (vF1 vF2 : Value) (T1 T2 : List Int) (AT1 AT2 : Option Addr) (dT1 dT2 : Nat) (w : World)
    (hu : CL w (fun _ => True) u c.l) (hv : Bys w (fun _ => True) v l) (hF1 : NS csN w (fun _ => True) vF1 F1) (hFr1 : ∀ x ∈ F1, cmR x) (hF2 : NS csN w (fun _ => True) vF2 F2) (hFr2 : ∀ x ∈ F2, cmR x)
    (hT1 : Sl w (fun _ => True) 1 (.slice AT1 T1.length dT1) T1.length (iv T1)) (hTw1 : ∀ t ∈ T1, -9223372036854775808 ≤ t ∧ t ≤ 9223372036854775807)
    (hT2 : Sl w (fun _ => True) 1 (.slice AT2 T2.length dT2) T2.length (iv T2)) (hTw2 : ∀ t ∈ T2, -9223372036854775808 ≤ t ∧ t ≤ 9223372036854775807)
    (hc : -9223372036854775808 ≤ c.log ∧ c.log ≤ 9223372036854775807) :
    Calls Try.prog 6 #[confV c u, v, vF1, .slice AT1 T1.length dT1, vF2, .slice AT2 T2.length dT2] w fun e w' => e = .returned (.bool true) ∧ Below w.heap.size w w' := by
  have LIV := Lib.hid live18
  have MU := Lib.hid (fun W (hk : Keep (fun _ => False) w W) => rmuch_any c u (fun _ => True) W (hu.same hk))
  have RR := Lib.hid (fun (h : ∀ x ∈ c.l, x.nm.size ≤ 100) W (hk : Keep (fun _ => False) w W) => rright_any c u (fun _ => True) W (hu.same hk) (fun s hs => Nat.le_trans (h s hs) (by decide)))
  have FU := Lib.hid (fun W (hk : Keep (fun _ => False) w W) => full_any c u (fun _ => True) l v (fun _ => True) W (hu.same hk) (hv.keep hk (fun _ _ _ h => h)))
  have TP := Lib.hid (fun W (hk : Keep (fun _ => False) w W) => rscantop_any l v (fun _ => True) W (hv.keep hk (fun _ _ _ h => h)))
  have MB := Lib.hid (@muchB_small c.l)
  have UU := Lib.hid (And.intro hu (And.intro hv (And.intro hF1 (And.intro hFr1 (And.intro hF2 (And.intro hFr2 (And.intro hT1 (And.intro hTw1 (And.intro hT2 (And.intro hTw2 hc))))))))))
  obtain ⟨A, cap, rfl, -⟩ := hv.form
  obtain ⟨AF1, capF1, rfl, hcF1, hlF1⟩ := NS.form hF1
  obtain ⟨AF2, capF2, rfl, hcF2, hlF2⟩ := NS.form hF2
  obtain ⟨Au, cu, rfl, -⟩ := hu
  unfold maxLen at hcF1 hcF2
  unfold confV at *
  clear hv hF1 hFr1 hF2 hFr2 hT1 hTw1 hT2 hTw2 hc
  obtain ⟨m0, hm0⟩ : ∃ b, b = muchB c.l := ⟨_, rfl⟩
  obtain ⟨r0, hr0⟩ : ∃ b, b = rightB c := ⟨_, rfl⟩
  obtain ⟨f0, hf0⟩ : ∃ b, b = fullB c l := ⟨_, rfl⟩
  obtain ⟨tp, htp⟩ : ∃ z, z = topTo l l.length := ⟨_, rfl⟩
  rw [← hm0] at MU MB
  rw [← hr0] at RR
  rw [← hf0] at FU
  rw [← htp] at TP
  have HM0 := Lib.hid hm0
  have HR0 := Lib.hid hr0
  have HF0 := Lib.hid hf0
  have HTP := Lib.hid htp
  clear hm0 hr0 hf0 htp
  obtain ⟨nF1, hnF1⟩ : ∃ n, n = F1.length := ⟨_, rfl⟩
  obtain ⟨nF2, hnF2⟩ : ∃ n, n = F2.length := ⟨_, rfl⟩
  obtain ⟨nT1, hnT1⟩ : ∃ n, n = T1.length := ⟨_, rfl⟩
  obtain ⟨nT2, hnT2⟩ : ∃ n, n = T2.length := ⟨_, rfl⟩
  obtain ⟨nl, hnl⟩ : ∃ n, n = l.length := ⟨_, rfl⟩
  obtain ⟨nu, hnu⟩ : ∃ n, n = c.l.length := ⟨_, rfl⟩
  have HN := Lib.hid (And.intro hnF1 (And.intro hnF2 (And.intro hnT1 (And.intro hnT2 (And.intro hnl hnu)))))
  rw [← hnF1] at UU hlF1 ⊢
  rw [← hnF2] at UU hlF2 ⊢
  rw [← hnT1] at UU ⊢
  rw [← hnT2] at UU ⊢
  rw [← hnl] at FU TP UU ⊢
  rw [← hnu] at MU RR FU UU ⊢
  clear hnF1 hnF2 hnT1 hnT2 hnl hnu
  obtain ⟨G, hG⟩ : ∃ b, b = askA m0 r0 f0 (decide (20 < (nF1 : Int))) (decide (20 < (nF2 : Int))) (decide (140737488355328 < tp)) := ⟨_, rfl⟩
  have HG := Lib.hid hG
  clear hG
  go_enter Try.func6, Try.ntmps6
  go_upto_region 1 with fail
  refine wp_world (S := fun X => KSt w X (.int .i64 c.log) (.int .i64 c.pages) (.int .i64 c.ents) (.int .i64 c.gens) (.slice Au nu cu)) (KSt.mk_ w _ _ _ _ _) ?_
  intro X hX
  have HX := Lib.hid hX
  clear hX
  go_cut [50] (fun s wx => s = .bool G ∧ KSt w wx (.int .i64 c.log) (.int .i64 c.pages) (.int .i64 c.ents) (.int .i64 c.gens) (.slice Au nu cu))
  case first =>
    obtain ⟨c0, c1, c2, c3, c4, cf⟩ := cells5 HX.out.1
    go_wp2_with fail
    with_reducible refine (MU.out _ HX.out.keep).mono ?_
    rintro e w1 ⟨rfl, hb1⟩
    have H1 := Lib.hid (HX.out.below hb1)
    clear hb1 c0 c1 c2 c3 c4 cf HX
    obtain ⟨c0, c1, c2, c3, c4, cf⟩ := cells5 H1.out.1
    cases m0 with
    | true =>
      go_wp2_with fail
      go_meet
      exact ⟨by rw [HG.out]; rfl, H1.out⟩
    | false =>
    have NMS := Lib.hid (MB.out rfl)
    go_wp2_with fail
    with_reducible refine (RR.out NMS.out _ H1.out.keep).mono ?_
    rintro e w2 ⟨rfl, hb2⟩
    have H2 := Lib.hid (H1.out.below hb2)
    clear hb2 c0 c1 c2 c3 c4 cf H1
    obtain ⟨c0, c1, c2, c3, c4, cf⟩ := cells5 H2.out.1
    cases r0 with
    | false =>
      go_wp2_with fail
      go_meet
      exact ⟨by rw [HG.out]; rfl, H2.out⟩
    | true =>
    go_wp2_with fail
    with_reducible refine (FU.out _ H2.out.keep).mono ?_
    rintro e w3 ⟨rfl, hb3⟩
    have H3 := Lib.hid (H2.out.below hb3)
    clear hb3 c0 c1 c2 c3 c4 cf H2
    cases f0 with
    | false =>
      go_wp2_with fail
      go_meet
      exact ⟨by rw [HG.out]; rfl, H3.out⟩
    | true =>
    by_cases t1 : (20 : Int) < (nF1 : Int)
    · have T1 := Lib.hid (decide_eq_true t1)
      go_wp2_with fail
      go_meet
      exact ⟨by rw [HG.out, T1.out]; rfl, H3.out⟩
    have T1 := Lib.hid (decide_eq_false t1)
    by_cases t2 : (20 : Int) < (nF2 : Int)
    · have T2 := Lib.hid (decide_eq_true t2)
      go_wp2_with fail
      go_meet
      exact ⟨by rw [HG.out, T1.out, T2.out]; rfl, H3.out⟩
    have T2 := Lib.hid (decide_eq_false t2)
    go_wp2_with fail
    with_reducible refine (TP.out _ H3.out.keep).mono ?_
    rintro e w4 ⟨rfl, rfl⟩
    by_cases t3 : (140737488355328 : Int) < tp
    · have T3 := Lib.hid (decide_eq_true t3)
      go_wp2_with fail
      go_meet
      exact ⟨by rw [HG.out, T1.out, T2.out, T3.out]; rfl, H3.out⟩
    have T3 := Lib.hid (decide_eq_false t3)
    go_wp2_with fail
    go_meet
    exact ⟨by rw [HG.out, T1.out, T2.out, T3.out]; rfl, H3.out⟩
  case rest =>
    obtain ⟨rfl, hk1⟩ := hcut
    have H1 := Lib.hid hk1
    clear hk1 HX MU RR FU TP
    cases G with
    | true =>
      go_wp2_with fail
      with_reducible refine (LIV.out _).mono ?_
      rintro e w2 ⟨rfl, hb2⟩
      go_wp2
      go_ret
      exact ⟨rfl, (H1.out.below hb2).2⟩
    | false =>
    obtain ⟨rfl, rfl, rfl, q1, q2, q3⟩ := askA_no HG.out.symm
    have NMS := Lib.hid (MB.out rfl)
    obtain ⟨h512, hlen, h20⟩ := of_decide_eq_true HF0.out.symm
    have hright := HR0.out.symm
    have hq1 := of_decide_eq_false q1
    have hq2 := of_decide_eq_false q2
    have hq3 := of_decide_eq_false q3
    obtain ⟨⟨g1, g2⟩, -⟩ := (of_decide_eq_true hright).1
    have HRT := Lib.hid hright
    have AG0 := Lib.hid (show AgSt c l (scanF c l 0 0 0).recs 140737488355328 from ⟨h512, hlen, rfl, by rw [← HTP.out]; omega⟩)
    have SC0 := Lib.hid (fun W (hk : Keep (fun _ => False) w W) => rscan_any c (.slice Au nu cu) (fun _ => True) l (.slice A nl cap) (fun _ => True) 0 0 0 W (UU.out.1.same hk) (UU.out.2.1.keep hk (fun _ _ _ h => h)) (fun s hs => Nat.le_trans (NMS.out s hs) (by decide)) UU.out.2.2.2.2.2.2.2.2.2.2)
    unfold ScanP confV at SC0
    have LR := Lib.hid (show (scanF c l 0 0 0).recs.length ≤ 1024 from by
      have hm := from_mono (c := c) (l := l) (hd := 0) (c.log - (0 - 0)).toNat (lsn := 0) (ep := 0) (sq := 0) (Nat.le_refl _)
      have h2 : (scanF c l 0 0 0).lsn ≤ 0 + c.log ∨ (scanF c l 0 0 0).lsn = 0 := hm.2.1
      have h5 : ((scanF c l 0 0 0).recs.length : Int) ≤ (scanF c l 0 0 0).lsn - 0 := hm.2.2.2.2
      omega)
    clear h512 hlen h20 hright q1 q2 q3
    generalize scanF c l 0 0 0 = t0 at *
    obtain ⟨R0, tl0, te0, tq0⟩ := t0
    simp only at SC0 AG0 LR
    obtain ⟨is, his, hs0, hs1, hs2⟩ := info_parts info_bytes
    obtain ⟨n0, hn0⟩ : ∃ n, n = R0.length := ⟨_, rfl⟩
    have HN0 := Lib.hid hn0
    rw [← hn0] at LR
    have hl0 := LR.out
    clear hn0 LR
    have H1a := Lib.hid (H1.out.below ((Below.refl _ wc).alloc (Nat.le_refl _) (.cells #[] 29)))
    obtain ⟨c0, c1, c2, c3, c4, cf⟩ := cells5 H1a.out.1
    go_wp2_with fail
    with_reducible refine (SC0.out _ H1a.out.keep).mono ?_
    rintro e w2 ⟨v2, rfl, hr2, hb2⟩
    obtain ⟨A2, d2, rfl⟩ : ∃ A d, v2 = .slice A n0 d := by
      obtain ⟨A, d, e, -⟩ := hr2.form
      exact ⟨A, d, by rw [e, HN0.out]⟩
    have H2 := Lib.hid (And.intro (H1a.out.below hb2) (hr2.mono (G := fun b => wc.heap.size < b) (fun b _ h => by simp at h; omega)))
    have B2 := Lib.hid (show wc.heap.size < w2.heap.size by have := hb2.size; simp at this; omega)
    clear hr2 hb2 c0 c1 c2 c3 c4 cf H1a SC0
    obtain ⟨cs0, e01, e02, e03⟩ := H2.out.2.srcK (Nat.le_refl n0)
    rw [List.take_of_length_le (by rw [← HN0.out]; exact Nat.le_refl _)] at e01 e03
    have E0 := Lib.hid (And.intro e01 (And.intro e02 e03))
    clear e01 e02 e03
    have FD := fun (W : World) => run_tailRecs W A2 n0 d2 tl0 te0 tq0
    go_wp2_with (at_builtin; refine wpList_append_gen _ rfl _ _ 25 25 rfl w2.heap.size 29 is _ 1 24 Try.underlying25 his hs0 hs1 hs2 rfl _ 0 [] rfl (Own.none_ _ _ _ _ _) _ n0 cs0 rfl (E0.out.2.1 _ (Keep.refl _ _)) ?c1 ?c2 ?c3 ?_)
    case c1 => unfold maxLen; omega
    case c2 => omega
    case c3 => exact Nat.le_refl _
    intro v5 w5 ho5 hk5 hn5
    have ho5 : Own w5 w2.heap.size 29 1 v5 n0 cs0 := by simpa using ho5
    obtain ⟨A5, d5, rfl⟩ : ∃ A d, v5 = .slice A n0 d := by
      obtain ⟨A, d, e, _⟩ := ho5.form
      exact ⟨A, d, e⟩
    have K5 : Keep (fun _ => False) w2 w5 := hk5.mono (fun x _ e => by simp [ownB] at e)
    have H5 := Lib.hid (show KSt w w5 (.int .i64 c.log) (.int .i64 c.pages) (.int .i64 c.ents) (.int .i64 c.gens) (.slice Au nu cu) ∧ NBX bsN (fun _ => True) (w.heap.size + 1) 29 w5 (.slice A5 n0 d5) R0 from
      ⟨H2.out.1.below K5.to_below', by
        have hne : ∀ e, ownB (.slice A5 n0 d5) = some e → w2.heap.size ≤ e := fun e h => (ho5.ownB e h).1
        refine ⟨cs0, E0.out.1, ?_, fun i x q hx hq => ?_⟩
        · show Own w5 (w.heap.size + 1) _ 1 _ R0.length ((R0.zip cs0).flatMap (fun p => [p.2]))
          rw [zip_snd E0.out.1, ← HN0.out]
          exact ho5.mono (by have := H1.out.lt; have := B2.out; omega)
        · exact By.mono (By.keep (By.mono (G := fun b => b < w2.heap.size) (E0.out.2.2 i x q hx hq) (fun b hb _ => hb)) K5 (fun _ _ _ h => h)) (fun b _ h => ⟨trivial, fun e => by have := hne b e; omega⟩)⟩)
    clear ho5 hk5 hn5 K5 E0 H2 H1 B2
    go_upto_region 6 with fail
    have W6 := Lib.hid (show AgW w ((w5.alloc (.cells #[.slice AF1 nF1 capF1, .slice AF2 nF2 capF2] 39)).alloc (.cells #[.slice AT1 nT1 dT1, .slice AT2 nT2 dT2] 40)) (.int .i64 c.log) (.int .i64 c.pages) (.int .i64 c.ents) (.int .i64 c.gens) (.slice Au nu cu) w5.heap.size (w5.heap.size + 1) (.slice AF1 nF1 capF1) (.slice AF2 nF2 capF2) (.slice AT1 nT1 dT1) (.slice AT2 nT2 dT2) from
      ⟨H5.out.1.below (((Below.refl _ w5).alloc (Nat.le_refl _) _).alloc (by simp) _), (heap_alloc_old _ _ (by simp)).trans (heap_alloc_new w5 _), heap_alloc_at _ _ _ (by simp), H5.out.1.lt, by omega⟩)
    refine wp_world (S := fun X => AgW w X (.int .i64 c.log) (.int .i64 c.pages) (.int .i64 c.ents) (.int .i64 c.gens) (.slice Au nu cu) w5.heap.size (w5.heap.size + 1) (.slice AF1 nF1 capF1) (.slice AF2 nF2 capF2) (.slice AT1 nT1 dT1) (.slice AT2 nT2 dT2) ∧ AlSt w X w5.heap.size (w5.heap.size + 1) (.slice A5 n0 d5) R0) ⟨W6.out, AlSt.same (W := w5) ⟨H5.out.2, fun e h => by have := (H5.out.2.own_lt h).2; omega⟩ (((Keep.refl (fun _ => False) w5).alloc _).alloc _)⟩ ?_
    intro Y hY
    have HY := Lib.hid hY
    clear hY W6 H5 X
    obtain ⟨p2, hp2⟩ : ∃ p, p = w5.heap.size + 1 := ⟨_, rfl⟩
    rw [← hp2] at HY ⊢
    clear hp2
    generalize w5.heap.size = p1 at *
    have VA := Lib.hid UU.out.2.1
    go_wp2
    go_loopw [1, 13, 16] (fun v1 va i wr => ∃ (τ : Nat) (lt all : List (List UInt8)), τ ≤ 2 ∧ i = .int .i64 τ ∧ Hid (AgW w wr (.int .i64 c.log) (.int .i64 c.pages) (.int .i64 c.ents) (.int .i64 c.gens) (.slice Au nu cu) p1 p2 (.slice AF1 nF1 capF1) (.slice AF2 nF2 capF2) (.slice AT1 nT1 dT1) (.slice AT2 nT2 dT2) ∧ AlSt w wr p1 p2 va all ∧ Bys wr (fun b => ownB va ≠ some b) v1 lt ∧ AgSt c lt all (140737488355328 + (τ : Nat)))) (fun _ _ i _ => 2 - (intOf i).toNat)
    case atStart => exact ⟨0, l, R0, by omega, rfl, Lib.hid ⟨HY.out.1, HY.out.2, ((VA.out.mono (G := fun b => b < w.heap.size) (fun b hb _ => hb)).keep HY.out.1.keep (fun _ _ _ h => h)).mono (fun b _ h e => by have := (HY.out.2.1.own_lt e).1; omega), AG0.out⟩⟩
    case round =>
      obtain ⟨τ, lt, all, hτ, rfl, hst⟩ := hrel
      obtain ⟨wo, rfl⟩ : ∃ wo : World, wo = wr := ⟨_, rfl⟩
      obtain ⟨Av, dv, e1, -⟩ := hst.out.2.2.1.form
      obtain ⟨Al, dl, e2⟩ := hst.out.2.1.1.form
      subst e1 e2
      have SCt := Lib.hid (fun W (hk : Keep (fun _ => False) wo W) => rscan_any c (.slice Au nu cu) (fun _ => True) lt (.slice Av lt.length dv) (fun _ => True) 0 0 0 W ((UU.out.1.same hst.out.1.keep).same hk) ((hst.out.2.2.1.mono (G := fun _ => True) (fun _ _ _ => trivial)).keep hk (fun _ _ _ h => h)) (fun s hs => Nat.le_trans (NMS.out s hs) (by decide)) UU.out.2.2.2.2.2.2.2.2.2.2)
      have SPt := Lib.hid (fun W (hk : Keep (fun _ => False) wo W) => scan_any c (.slice Au nu cu) (fun _ => True) lt (.slice Av lt.length dv) (fun _ => True) 0 0 0 W ((UU.out.1.same hst.out.1.keep).same hk) ((hst.out.2.2.1.mono (G := fun _ => True) (fun _ _ _ => trivial)).keep hk (fun _ _ _ h => h)) (fun s hs => by rw [hst.out.2.2.2.full s hs]; decide) UU.out.2.2.2.2.2.2.2.2.2.2)
      have TPt := Lib.hid (fun W (hk : Keep (fun _ => False) wo W) => scantop_any lt (.slice Av lt.length dv) (fun _ => True) W ((hst.out.2.2.1.mono (G := fun _ => True) (fun _ _ _ => trivial)).keep hk (fun _ _ _ h => h)))
      have RTt := Lib.hid (fun W (hk : Keep (fun _ => False) wo W) => rscantop_any lt (.slice Av lt.length dv) (fun _ => True) W ((hst.out.2.2.1.mono (G := fun _ => True) (fun _ _ _ => trivial)).keep hk (fun _ _ _ h => h)))
      unfold ScanP confV at SCt SPt
      have EA := Lib.hid hst.out.2.2.2.recs
      have ST := Lib.hid (fun W x y F G (h1 : Bys W F x (scanF c lt 0 0 0).recs) (h2 : Bys W G y (scanF c lt 0 0 0).recs) => rsameTail_any (scanF c lt 0 0 0) x y F G W h1 h2)
      unfold tailV at ST
      have HWO := Lib.hid (And.intro hst.out.1 (And.intro hst.out.2.1 hst.out.2.2.1))
      have AGT := Lib.hid hst.out.2.2.2
      by_cases hlt : τ < 2
      · have f1 : (τ : Int) < 2 := by omega
        have f2 : (0 : Int) ≤ (τ : Int) := by omega
        obtain ⟨t, ht⟩ : ∃ t, t = scanF c lt 0 0 0 := ⟨_, rfl⟩
        have HT := Lib.hid ht
        have hm := from_mono (c := c) (l := lt) (hd := 0) (c.log - (0 - 0)).toNat (lsn := 0) (ep := 0) (sq := 0) (Nat.le_refl _)
        have hm : 0 ≤ (scanF c lt 0 0 0).lsn ∧ ((scanF c lt 0 0 0).lsn ≤ 0 + c.log ∨ (scanF c lt 0 0 0).lsn = 0) ∧ (scanF c lt 0 0 0).sq = 0 + (scanF c lt 0 0 0).recs.length ∧ _ ∧ ((scanF c lt 0 0 0).recs.length : Int) ≤ (scanF c lt 0 0 0).lsn - 0 := hm
        obtain ⟨m1, m2, m3, -, m5⟩ := hm
        rw [← ht] at SCt SPt EA ST m1 m2 m3 m5
        clear ht
        obtain ⟨Rt, tl, te, tq⟩ := t
        simp only at SCt SPt EA ST m1 m2 m3 m5
        have er : Rt = all := EA.out
        subst er
        clear EA
        obtain ⟨nr, hnr⟩ : ∃ n, n = Rt.length := ⟨_, rfl⟩
        obtain ⟨nlt, hnlt⟩ : ∃ n, n = lt.length := ⟨_, rfl⟩
        have HNR := Lib.hid hnr
        have HNL := Lib.hid hnlt
        rw [← hnr] at m3 m5
        have b2 : tl ≤ c.log := by omega
        have b3 : 0 ≤ tq := by omega
        have b4 : tq ≤ c.log := by omega
        have b5 : nr ≤ 1024 := by omega
        clear m2 m3 m5
        have SM := Lib.hid (fun W x (F : Nat → Prop) (hx : Bys W F x Rt) (hk : Keep (fun _ => False) wo W) => show Calls Try.prog 29 #[x, .slice Al Rt.length dl] W fun e w' => e = .returned (.bool true) ∧ Keep (fun _ => False) W w' from by have := rsame17 _ _ x _ F (fun _ => True) W hx (hst.out.2.1.bys.keep hk (fun _ _ _ h => h)); rwa [decide_eq_true rfl] at this)
        rw [← hnr] at SM HWO ⊢
        rw [← hnlt] at SCt SPt TPt RTt HWO ⊢
        clear hnr hnlt
        have htop := hst.out.2.2.2.top
        have htop0 := (top_all lt).1
        rw [← HNL.out] at htop htop0
        obtain ⟨tp2, htp2⟩ : ∃ z, z = topTo lt nlt := ⟨_, rfl⟩
        have HTP2 := Lib.hid htp2
        rw [← htp2] at htop htop0 TPt RTt
        clear htp2
        obtain ⟨c0, c1, c2, c3, c4, cf⟩ := cells5 hst.out.1.k.1
        go_wp2_with fail
        with_reducible refine (SCt.out _ (Keep.refl _ _)).mono ?_
        rintro e w2 ⟨v2, rfl, hr2, hb2⟩
        obtain ⟨A2, d2, rfl⟩ : ∃ A d, v2 = .slice A nr d := by
          obtain ⟨A, d, e, -⟩ := hr2.form
          exact ⟨A, d, by rw [e, HNR.out]⟩
        have H2 := Lib.hid (And.intro (hst.out.1.to hb2) (And.intro hr2 (Keep.of_below' hb2)))
        clear hr2 hb2 c0 c1 c2 c3 c4 cf
        go_upto_region 10 with fail
        refine wp_world (S := fun X => AgW w X (.int .i64 c.log) (.int .i64 c.pages) (.int .i64 c.ents) (.int .i64 c.gens) (.slice Au nu cu) p1 p2 (.slice AF1 nF1 capF1) (.slice AF2 nF2 capF2) (.slice AT1 nT1 dT1) (.slice AT2 nT2 dT2) ∧ X.heap[w2.heap.size]? = some (.cells #[.slice A2 nr d2, .int .i64 tl, .int .i64 te, .int .i64 tq] 44 (0, 0)) ∧ Bys X (fun _ => True) (.slice A2 nr d2) Rt ∧ Keep (fun _ => False) wo X ∧ w2.heap.size < X.heap.size ∧ wo.heap.size ≤ w2.heap.size) ⟨H2.out.1.to ((Below.refl _ w2).alloc (Nat.le_refl _) _), heap_alloc_new w2 _, (H2.out.2.1.mono (fun _ _ _ => trivial)).keep ((Keep.refl (fun _ => False) w2).alloc _) (fun _ _ _ h => h), H2.out.2.2.alloc _, by simp, H2.out.2.2.size⟩ ?_
        rintro Z ⟨z1, z2, z3, z4, z5, z6⟩
        have HZ := Lib.hid (And.intro z1 (And.intro z2 (And.intro z3 (And.intro z4 (And.intro z5 z6)))))
        clear z1 z2 z3 z4 z5 z6 H2
        generalize w2.heap.size = q at *
        have CE := Lib.hid (show ∀ W', Keep (fun _ => False) Z W' → W'.cell? ⟨w.heap.size, 0, none⟩ = some (.int .i64 c.log) ∧ W'.cell? ⟨w.heap.size, 1, none⟩ = some (.int .i64 c.pages) ∧ W'.cell? ⟨w.heap.size, 2, none⟩ = some (.int .i64 c.ents) ∧ W'.cell? ⟨w.heap.size, 3, none⟩ = some (.int .i64 c.gens) ∧ W'.cell? ⟨w.heap.size, 4, none⟩ = some (.slice Au nu cu) ∧ W'.cell? ⟨q, 0, none⟩ = some (.slice A2 nr d2) ∧ W'.cell? ⟨q, 1, none⟩ = some (.int .i64 tl) ∧ W'.cell? ⟨q, 2, none⟩ = some (.int .i64 te) ∧ W'.cell? ⟨q, 3, none⟩ = some (.int .i64 tq) ∧ Keep (fun _ => False) Z W' from fun W' hk => by
          obtain ⟨a0, a1, a2, a3, a4, -⟩ := cells5 ((hk.block _ HZ.out.1.k.lt (fun h => h)).trans HZ.out.1.k.1)
          obtain ⟨b0, b1, b2, b3, -⟩ := cells4 ((hk.block _ (Array.getElem?_eq_some_iff.1 HZ.out.2.1).1 (fun h => h)).trans HZ.out.2.1)
          exact ⟨a0, a1, a2, a3, a4, b0, b1, b2, b3, hk⟩)
        have KZ := Lib.hid HZ.out.2.2.2.1
        have te0 : (tp2 != tp2) = false := by simp
        go_cut [90] (fun s wx => s = .bool false ∧ Keep (fun _ => False) Z wx)
        case first =>
          go_region_held3 (fun W' => W'.cell? ⟨w.heap.size, 0, none⟩ = some (.int .i64 c.log) ∧ W'.cell? ⟨w.heap.size, 1, none⟩ = some (.int .i64 c.pages) ∧ W'.cell? ⟨w.heap.size, 2, none⟩ = some (.int .i64 c.ents) ∧ W'.cell? ⟨w.heap.size, 3, none⟩ = some (.int .i64 c.gens) ∧ W'.cell? ⟨w.heap.size, 4, none⟩ = some (.slice Au nu cu) ∧ W'.cell? ⟨q, 0, none⟩ = some (.slice A2 nr d2) ∧ W'.cell? ⟨q, 1, none⟩ = some (.int .i64 tl) ∧ W'.cell? ⟨q, 2, none⟩ = some (.int .i64 te) ∧ W'.cell? ⟨q, 3, none⟩ = some (.int .i64 tq) ∧ Keep (fun _ => False) Z W') (exact CE.out _ (by exact (by repeat first | (with_reducible assumption) | (with_reducible exact Keep.refl _ _) | (with_reducible refine Keep.alloc ?_ _) | (with_reducible refine Keep.drew ?_) | (with_reducible refine Keep.drewN ?_ _) | (with_reducible refine Keep.setCell ?_ (.inl (by first | omega | (simp; done) | (simp; omega) | fail)) _)))) (first
            | (go_at_call 28; (with_reducible refine (SPt.out _ (KZ.out.trans (T := fun _ => False) (by exact (by repeat first | (with_reducible assumption) | (with_reducible exact Keep.refl _ _) | (with_reducible refine Keep.alloc ?_ _) | (with_reducible refine Keep.drew ?_) | (with_reducible refine Keep.drewN ?_ _) | (with_reducible refine Keep.setCell ?_ (.inl (by first | omega | (simp; done) | (simp; omega) | fail)) _))) (fun _ _ h => h))).mono ?_); rintro e w3 ⟨v3, rfl, hr3, hb3⟩; have hk3 : Keep (fun _ => False) Z w3 := Keep.trans (T := fun _ => False) (by exact (by repeat first | (with_reducible assumption) | (with_reducible exact Keep.refl _ _) | (with_reducible refine Keep.alloc ?_ _) | (with_reducible refine Keep.drew ?_) | (with_reducible refine Keep.drewN ?_ _) | (with_reducible refine Keep.setCell ?_ (.inl (by first | omega | (simp; done) | (simp; omega) | fail)) _))) (Keep.of_below' hb3) (fun _ _ h => h); clear hb3)
            | (go_at_call 30; (with_reducible refine (ST.out _ _ _ _ _ (hr3.keep (S := fun _ => False) (by exact (by repeat first | (with_reducible assumption) | (with_reducible exact Keep.refl _ _) | (with_reducible refine Keep.alloc ?_ _) | (with_reducible refine Keep.drew ?_) | (with_reducible refine Keep.drewN ?_ _) | (with_reducible refine Keep.setCell ?_ (.inl (by first | omega | (simp; done) | (simp; omega) | fail)) _))) (fun _ _ _ h => h)) (HZ.out.2.2.1.keep (S := fun _ => False) (by exact (by repeat first | (with_reducible assumption) | (with_reducible exact Keep.refl _ _) | (with_reducible refine Keep.alloc ?_ _) | (with_reducible refine Keep.drew ?_) | (with_reducible refine Keep.drewN ?_ _) | (with_reducible refine Keep.setCell ?_ (.inl (by first | omega | (simp; done) | (simp; omega) | fail)) _))) (fun _ _ _ h => h))).mono ?_); rintro e w5 ⟨rfl, hb5⟩; have hk5 : Keep (fun _ => False) Z w5 := Keep.trans (T := fun _ => False) (by exact (by repeat first | (with_reducible assumption) | (with_reducible exact Keep.refl _ _) | (with_reducible refine Keep.alloc ?_ _) | (with_reducible refine Keep.drew ?_) | (with_reducible refine Keep.drewN ?_ _) | (with_reducible refine Keep.setCell ?_ (.inl (by first | omega | (simp; done) | (simp; omega) | fail)) _))) (Keep.of_below' hb5) (fun _ _ h => h); clear hb5)
            | (go_at_call 29; (with_reducible refine (SM.out _ _ _ (HZ.out.2.2.1.keep (S := fun _ => False) (by exact (by repeat first | (with_reducible assumption) | (with_reducible exact Keep.refl _ _) | (with_reducible refine Keep.alloc ?_ _) | (with_reducible refine Keep.drew ?_) | (with_reducible refine Keep.drewN ?_ _) | (with_reducible refine Keep.setCell ?_ (.inl (by first | omega | (simp; done) | (simp; omega) | fail)) _))) (fun _ _ _ h => h)) (KZ.out.trans (T := fun _ => False) (by exact (by repeat first | (with_reducible assumption) | (with_reducible exact Keep.refl _ _) | (with_reducible refine Keep.alloc ?_ _) | (with_reducible refine Keep.drew ?_) | (with_reducible refine Keep.drewN ?_ _) | (with_reducible refine Keep.setCell ?_ (.inl (by first | omega | (simp; done) | (simp; omega) | fail)) _))) (fun _ _ h => h))).mono ?_); rintro e w6 ⟨rfl, hk6a⟩; have hk6 : Keep (fun _ => False) Z w6 := Keep.trans (T := fun _ => False) (by exact (by repeat first | (with_reducible assumption) | (with_reducible exact Keep.refl _ _) | (with_reducible refine Keep.alloc ?_ _) | (with_reducible refine Keep.drew ?_) | (with_reducible refine Keep.drewN ?_ _) | (with_reducible refine Keep.setCell ?_ (.inl (by first | omega | (simp; done) | (simp; omega) | fail)) _))) hk6a (fun _ _ h => h); clear hk6a)
            | (go_at_call 31; (with_reducible refine (TPt.out _ (KZ.out.trans (T := fun _ => False) (by exact (by repeat first | (with_reducible assumption) | (with_reducible exact Keep.refl _ _) | (with_reducible refine Keep.alloc ?_ _) | (with_reducible refine Keep.drew ?_) | (with_reducible refine Keep.drewN ?_ _) | (with_reducible refine Keep.setCell ?_ (.inl (by first | omega | (simp; done) | (simp; omega) | fail)) _))) (fun _ _ h => h))).mono ?_); rintro e w7 ⟨rfl, rfl⟩)
            | (go_at_call 20; (with_reducible refine (RTt.out _ (KZ.out.trans (T := fun _ => False) (by exact (by repeat first | (with_reducible assumption) | (with_reducible exact Keep.refl _ _) | (with_reducible refine Keep.alloc ?_ _) | (with_reducible refine Keep.drew ?_) | (with_reducible refine Keep.drewN ?_ _) | (with_reducible refine Keep.setCell ?_ (.inl (by first | omega | (simp; done) | (simp; omega) | fail)) _))) (fun _ _ h => h))).mono ?_); rintro e w8 ⟨rfl, rfl⟩)
            | fail)
          go_wp2_with fail
          go_meet
          exact ⟨rfl, by exact (by repeat first | (with_reducible assumption) | (with_reducible exact Keep.refl _ _) | (with_reducible refine Keep.alloc ?_ _) | (with_reducible refine Keep.drew ?_) | (with_reducible refine Keep.drewN ?_ _) | (with_reducible refine Keep.setCell ?_ (.inl (by first | omega | (simp; done) | (simp; omega) | fail)) _))⟩
        case rest =>
          obtain ⟨rfl, hkc⟩ := hcut
          have HC := Lib.hid (And.intro (HZ.out.1.to hkc.to_below') (And.intro ((hkc.block _ (Array.getElem?_eq_some_iff.1 HZ.out.2.1).1 (fun h => h)).trans HZ.out.2.1) (And.intro (KZ.out.trans hkc (fun _ _ h => h)) (And.intro (Nat.lt_of_lt_of_le HZ.out.2.2.2.2.1 hkc.size) HZ.out.2.2.2.2.2))))
          clear hkc CE KZ te0 HZ SPt ST SM TPt SCt
          obtain ⟨m, hm⟩ : ∃ m : Nat, tp2 + 1 = (m : Int) := ⟨(tp2 + 1).toNat, by omega⟩
          have HM := Lib.hid hm
          have e7 : IntKind.i64.wrap (tp2 + 1) = (m : Int) := by rw [hm]; exact IntWalk.i64_in _ (by omega)
          have mb : m ≤ 140737488355400 := by omega
          clear hm
          go_wp2_with fail
          with_reducible refine (RTt.out _ HC.out.2.2.1).mono ?_
          rintro e w8 ⟨rfl, rfl⟩
          go_upto_region 13 with fail
          have TW := Lib.hid (show ∃ (FS : List (List Cmd)) (AF : Option Addr) (nF capF : Nat), (∀ W, AgW w W (.int .i64 c.log) (.int .i64 c.pages) (.int .i64 c.ents) (.int .i64 c.gens) (.slice Au nu cu) p1 p2 (.slice AF1 nF1 capF1) (.slice AF2 nF2 capF2) (.slice AT1 nT1 dT1) (.slice AT2 nT2 dT2) → W.cell? ⟨p1, τ, none⟩ = some (.slice AF nF capF)) ∧ NS csN w (fun _ => True) (.slice AF nF capF) FS ∧ (∀ x ∈ FS, cmR x) ∧ nF ≤ 20 ∧ nF = FS.length ∧ nF ≤ capF ∧ capF ≤ 9223372036854775807 from by
            rcases (show τ = 0 ∨ τ = 1 by omega) with e | e
            · subst e
              exact ⟨F1, AF1, nF1, capF1, fun W hW => by rw [cell_of_row W p1 0 _ _ _ hW.two]; rfl, UU.out.2.2.1, UU.out.2.2.2.1, by omega, HN.out.1, hlF1, by omega⟩
            · subst e
              exact ⟨F2, AF2, nF2, capF2, fun W hW => by rw [cell_of_row W p1 1 _ _ _ hW.two]; rfl, UU.out.2.2.2.2.1, UU.out.2.2.2.2.2.1, by omega, HN.out.2.1, hlF2, by omega⟩)
          have FT := Lib.hid (show ∃ (T : List Int) (AT : Option Addr) (nT dT : Nat), (∀ W, AgW w W (.int .i64 c.log) (.int .i64 c.pages) (.int .i64 c.ents) (.int .i64 c.gens) (.slice Au nu cu) p1 p2 (.slice AF1 nF1 capF1) (.slice AF2 nF2 capF2) (.slice AT1 nT1 dT1) (.slice AT2 nT2 dT2) → W.cell? ⟨p2, τ, none⟩ = some (.slice AT nT dT)) ∧ Sl w (fun _ => True) 1 (.slice AT nT dT) nT (iv T) ∧ (∀ t ∈ T, -9223372036854775808 ≤ t ∧ t ≤ 9223372036854775807) ∧ nT = T.length from by
            rcases (show τ = 0 ∨ τ = 1 by omega) with e | e
            · subst e
              exact ⟨T1, AT1, nT1, dT1, fun W hW => by rw [cell_of_row W p2 0 _ _ _ hW.fates]; rfl, UU.out.2.2.2.2.2.2.1, UU.out.2.2.2.2.2.2.2.1, HN.out.2.2.1⟩
            · subst e
              exact ⟨T2, AT2, nT2, dT2, fun W hW => by rw [cell_of_row W p2 1 _ _ _ hW.fates]; rfl, UU.out.2.2.2.2.2.2.2.2.1, UU.out.2.2.2.2.2.2.2.2.2.1, HN.out.2.2.2.1⟩)
          obtain ⟨FS, AF, nF, capF, tw1, tw2, tw3, tw4, tw5, tw6, tw7⟩ := TW.out
          have TWC := Lib.hid tw1
          have TWN := Lib.hid tw2
          have TWR := Lib.hid tw3
          have HNF := Lib.hid tw5
          clear tw1 tw2 tw3 tw5 TW
          have HQ := Lib.hid (show ∀ W', Keep (fun x => wc.heap.size ≤ x) wc W' → AgW w W' (.int .i64 c.log) (.int .i64 c.pages) (.int .i64 c.ents) (.int .i64 c.gens) (.slice Au nu cu) p1 p2 (.slice AF1 nF1 capF1) (.slice AF2 nF2 capF2) (.slice AT1 nT1 dT1) (.slice AT2 nT2 dT2) ∧ W'.heap[q]? = some (.cells #[.slice A2 nr d2, .int .i64 tl, .int .i64 te, .int .i64 tq] 44 (0, 0)) ∧ Keep (fun _ => False) wo W' from fun W' hk =>
            ⟨HC.out.1.keep_ hk (fun x hx => by have h1 := HC.out.1.hp; have h2 := HC.out.1.lt; omega), (hk.block _ HC.out.2.2.2.1 (by have := HC.out.2.2.2.1; omega)).trans HC.out.2.1, HC.out.2.2.1.trans hk (fun x hx e => by have h1 := HC.out.2.2.2.1; have h2 := HC.out.2.2.2.2; omega)⟩)
          have LN := Lib.hid (fun k (h : k ≤ nF) => rcs_len (FS := FS) (k := k) (by rw [← HNF.out]; exact h))
          have LF := Lib.hid (fun k (h : k ≤ nF) => secs_few (FS := FS) (k := k) (m : Int) tl tq (by rw [← HNF.out]; exact h))
          have RN := Lib.hid (fun k (h : k < nF) => rcs_next (FS := FS) (k := k) (by rw [← HNF.out]; exact h))
          have SN := Lib.hid (fun k (h : k < nF) => secs_next (FS := FS) (k := k) (m : Int) tl tq (by rw [← HNF.out]; exact h))
          have OX := Lib.hid (fun k (h : k < nF) => @oks_next FS k (by rw [← HNF.out]; exact h))
          go_wp2
          go_loopw [19, 20, 21] (fun x1 x2 i wr => ∃ k : Nat, k ≤ nF ∧ i = .int .i64 k ∧ Hid (Keep (fun x => wc.heap.size ≤ x) wc wr ∧ Tw wc.heap.size wr x1 x2 (rcs FS k) (secsF m tl tq (rcs FS k)) ∧ oks FS k)) (fun _ _ i _ => nF - (intOf i).toNat)
          case atStart => exact ⟨0, by omega, rfl, Lib.hid ⟨Keep.refl _ _, by rw [rcs_zero]; exact Tw.first _ _, oks_zero FS⟩⟩
          case round =>
            obtain ⟨k, hk, rfl, hst⟩ := hrel
            obtain ⟨Ar, cr, es⟩ := hst.out.2.1.1.form
            obtain ⟨As, cs, es2⟩ := hst.out.2.1.2.1.form
            rw [LN.out k hk] at es
            subst es es2
            have hnsl := LF.out k hk
            obtain ⟨ns, hns⟩ : ∃ n, n = (secsF m tl tq (rcs FS k)).length := ⟨_, rfl⟩
            have HNS := Lib.hid hns
            rw [← hns] at hst hnsl ⊢
            clear hns
            by_cases hlt : k < nF
            · have f1 : (k : Int) < (nF : Int) := by omega
              have f2 : (0 : Int) ≤ (k : Int) := by omega
              obtain ⟨b1, o1, A5, d5, rfl, -, y1, x1⟩ := csAt (TWN.out.keep (HQ.out _ hst.out.1).1.keep (fun _ _ _ h => h)) hlt
              have x0 := TWC.out _ (HQ.out _ hst.out.1).1
              have Y1 := Lib.hid y1
              clear y1
              have MC := Lib.hid (fun W (hk : Keep (fun _ => False) wr W) => much13 (FS.getD k []) _ _ W (NS.keep Y1.out hk (fun _ _ _ h => h)))
              have FC := Lib.hid (fun W (hk : Keep (fun _ => False) wr W) => rfcheck_any (FS.getD k []) _ _ W (NS.keep Y1.out hk (fun _ _ _ h => h)))
              have FB := Lib.hid (fun (h0 : checksF (FS.getD k []) = 0) W (hk : Keep (fun _ => False) wr W) => rfbytes_any (FS.getD k []) _ _ W (NS.keep Y1.out hk (fun _ _ _ h => h)) h0)
              have FL := Lib.hid (fun (h0 : checksF (FS.getD k []) = 0) => frameB_le h0)
              have OK2 := Lib.hid (OX.out k hlt hst.out.2.2)
              have RNK := Lib.hid (RN.out k hlt)
              have SNK := Lib.hid (SN.out k hlt)
              rw [← HNS.out] at SNK
              generalize muchC (FS.getD k []) = mc at *
              generalize (FS.getD k []).length = fl at *
              generalize checksF (FS.getD k []) = ck at *
              go_wp2_with fail
              with_reducible refine (MC.out _ (Keep.refl _ _)).mono ?_
              rintro e w3 ⟨rfl, rfl⟩
              cases mc with
              | true =>
                go_wp2_with fail
                with_reducible refine (LIV.out _).mono ?_
                rintro e w2 ⟨rfl, hb2⟩
                go_wp2
                go_ret
                exact ⟨rfl, ((HQ.out _ hst.out.1).1.to hb2).k.2⟩
              | false =>
              go_wp2_with fail
              with_reducible refine (FC.out _ (Keep.refl _ _)).mono ?_
              rintro e w4 ⟨rfl, hb4⟩
              have K4 := Lib.hid (Keep.of_below' hb4)
              have x4 := (Keep.of_below' hb4).cell (fun h => h) x1
              have H4 := Lib.hid (And.intro (hst.out.1.trans (Keep.of_below' hb4) (fun _ _ h => h.elim)) (hst.out.2.1.same (Keep.of_below' hb4)))
              clear hb4 x1 x0 hst MC FC
              have x0 := TWC.out _ (HQ.out _ H4.out.1).1
              by_cases h0 : ck = 0
              · have FB0 := Lib.hid (FB.out h0)
                have FL0 := Lib.hid (FL.out h0)
                have OK3 := Lib.hid (OK2.out h0)
                subst h0
                clear FB FL OK2
                go_wp2_with fail
                with_reducible refine (FB0.out _ K4.out).mono ?_
                rintro e w5 ⟨A6, n6, d6, rfl, hy6, hb6⟩
                have H5 := Lib.hid (And.intro (H4.out.1.trans (Keep.of_below' hb6) (fun _ _ h => h.elim)) (And.intro (H4.out.2.same (Keep.of_below' hb6)) hy6))
                have OU := Lib.hid (fun e (h : ownB (.slice Ar k cr) = some e) => H4.out.2.1.own_lt h)
                have OV := Lib.hid (fun e (h : ownB (.slice As ns cs) = some e) => H4.out.2.2.1.own_lt h)
                have Q4 := Lib.hid H4.out.1.size
                have Q5 := Lib.hid hb6.size
                clear hy6 hb6 x4 x0 H4 FB0 K4
                obtain ⟨us, g1, g2, g3⟩ := H5.out.2.1.ofo
                rw [LN.out k hk] at g2
                have GG := Lib.hid (And.intro g1 (And.intro g2 g3))
                clear g1 g2 g3
                go_wp2_with (at_builtin; refine wpList_append_gen _ rfl _ _ 25 25 rfl wc.heap.size 29 is _ 1 24 Try.underlying25 his hs0 hs1 hs2 rfl _ k us rfl (GG.out.2.1.alloc _) _ 1 [.slice A6 n6 d6] rfl (src_one w5 _ Try.underlying25 rfl) ?c1 ?c2 ?c3 ?_)
                case c1 => unfold maxLen; omega
                case c2 => omega
                case c3 => have := Q4.out; have := Q5.out; simp; omega
                intro v7 w7 ho7 hk7 hn7
                obtain ⟨A7, d7, rfl⟩ : ∃ A d, v7 = .slice A (k + 1) d := by
                  obtain ⟨A, d, e, _⟩ := ho7.form
                  exact ⟨A, d, e⟩
                have H7 := Lib.hid (show Keep (fun x => wc.heap.size ≤ x) wc w7 ∧ Tw wc.heap.size w7 (.slice A7 (k + 1) d7) (.slice As ns cs) (rcs FS k ++ [frameB (FS.getD k [])]) (secsF m tl tq (rcs FS k)) ∧ By w7 (fun _ => True) (.slice A6 n6 d6) (frameB (FS.getD k [])) from
                  ⟨(H5.out.1.alloc _).trans hk7 (fun x _ e => (OU.out x e).1),
                   (H5.out.2.1.same ((Keep.refl _ w5).alloc _)).push (us := us) (cs := [.slice A6 n6 d6]) GG.out.1 (fun i x q hx hq => By.keep (GG.out.2.2 i x q hx hq) ((Keep.refl (fun _ => False) w5).alloc _) (fun _ _ _ h => h)) rfl (fun i x q' hx hq => by
                     match i, hx, hq with
                     | 0, hx, hq =>
                       obtain rfl : frameB (FS.getD k []) = x := by simpa using hx
                       obtain rfl : Value.slice A6 n6 d6 = q' := by simpa using hq
                       exact By.mono (By.keep H5.out.2.2 ((Keep.refl (fun _ => False) w5).alloc _) (fun _ _ _ h => h)) (fun b _ h => ⟨⟨by have := Q4.out; omega, fun e => by have := (OV.out b e).2; omega⟩, fun e => by have := (OU.out b e).2; omega⟩)) (by rw [LN.out k hk]; exact ho7) hk7 (fun k' e => (hn7 k' e).imp id (fun h => by first | exact h | (simp; omega) | (simp; exact h))),
                   By.mono (By.keep (By.keep H5.out.2.2 ((Keep.refl (fun _ => False) w5).alloc _) (fun _ _ _ h => h)) hk7 (fun b _ h e => by have := (OU.out b e).2; omega)) (fun _ _ _ => trivial)⟩)
                clear ho7 hk7 hn7 GG H5 OU OV Q4 Q5
                have SE := Lib.hid (rsealed_any m (tl + (ns : Nat)) (tq + (k : Nat)) (frameB (FS.getD k [])) _ _ w7 H7.out.2.2 (Nat.le_trans FL0.out (by decide)) (by omega) (by omega))
                obtain ⟨r0, r1, r2, r3, rf⟩ := cells4 (HQ.out _ H7.out.1).2.1
                go_wp2_with fail
                with_reducible refine SE.out.mono ?_
                rintro e w8 ⟨u8, rfl, hl8, hb8⟩
                obtain ⟨A8, d8, rfl⟩ := hl8.form
                obtain ⟨cs8, e1, -, sr, e3⟩ := hl8.src
                have hls : (sealedF m (tl + (ns : Nat)) (tq + (k : Nat)) (frameB (FS.getD k []))).length ≤ 1024 := by rw [sealedF_len]; exact splitL_le _ _
                have H8 := Lib.hid (And.intro (H7.out.1.trans (Keep.of_below' hb8) (fun _ _ h => h.elim)) (H7.out.2.1.same (Keep.of_below' hb8)))
                have OU := Lib.hid (fun e (h : ownB (.slice A7 (k + 1) d7) = some e) => H7.out.2.1.1.own_lt h)
                have OV := Lib.hid (fun e (h : ownB (.slice As ns cs) = some e) => H7.out.2.1.2.1.own_lt h)
                have Q7 := Lib.hid H7.out.1.size
                have Q8 := Lib.hid hb8.size
                have SR := Lib.hid (And.intro e1 (And.intro sr e3))
                clear e1 sr e3 hl8 hb8 r0 r1 r2 r3 rf H7 SE
                obtain ⟨us2, g1, g2, g3⟩ := H8.out.2.swap.ofo
                rw [← HNS.out] at g2
                have GG := Lib.hid (And.intro g1 (And.intro g2 g3))
                clear g1 g2 g3
                generalize sealedF m (tl + (ns : Nat)) (tq + (k : Nat)) (frameB (FS.getD k [])) = L at *
                obtain ⟨ls, hls2⟩ : ∃ n, n = L.length := ⟨_, rfl⟩
                have HLS := Lib.hid hls2
                rw [← hls2] at hls SR ⊢
                clear hls2
                go_wp2_with (at_builtin; refine wpList_append_gen _ rfl _ _ 25 25 rfl wc.heap.size 29 is _ 1 24 Try.underlying25 his hs0 hs1 hs2 rfl _ ns us2 rfl GG.out.2.1 _ ls cs8 rfl SR.out.2.1 ?c4 ?c5 ?c6 ?_)
                case c4 => unfold maxLen; omega
                case c5 => omega
                case c6 => have := Q7.out; have := Q8.out; omega
                intro v9 w9 ho9 hk9 hn9
                obtain ⟨A9, d9, rfl⟩ : ∃ A d, v9 = .slice A (ns + ls) d := by
                  obtain ⟨A, d, e, _⟩ := ho9.form
                  exact ⟨A, d, e⟩
                have H9 := Lib.hid (show Keep (fun x => wc.heap.size ≤ x) wc w9 ∧ Tw wc.heap.size w9 (.slice A7 (k + 1) d7) (.slice A9 (ns + ls) d9) (rcs FS k ++ [frameB (FS.getD k [])]) (secsF m tl tq (rcs FS k) ++ L) from
                  ⟨H8.out.1.trans hk9 (fun x _ e => (OV.out x e).1),
                   (H8.out.2.swap.push (us := us2) (cs := cs8) GG.out.1 GG.out.2.2 (by rw [← HLS.out]; exact SR.out.1) (fun i x q' hx hq => By.mono (SR.out.2.2 i x q' hx hq) (fun b _ h => ⟨⟨by have := Q7.out; omega, fun e => by have := (OU.out b e).2; omega⟩, fun e => by have := (OV.out b e).2; omega⟩)) (by rw [← HNS.out, ← HLS.out]; exact ho9) hk9 hn9).swap⟩)
                clear ho9 hk9 hn9 GG SR H8 OU OV Q7 Q8
                go_wp2
                go_roundw
                case rel => exact ⟨k + 1, by omega, by go_num, Lib.hid ⟨H9.out.1, by rw [SNK.out, RNK.out]; exact H9.out.2, OK3.out⟩⟩
                case measure => simp [intOf]; omega
              · have h00 : (ck != 0) = true := by simpa using h0
                clear h0
                go_wp2_with fail
                with_reducible refine (LIV.out _).mono ?_
                rintro e w5 ⟨rfl, hb5⟩
                go_wp2
                go_ret
                exact ⟨rfl, ((HQ.out _ H4.out.1).1.to hb5).k.2⟩
            · obtain rfl : k = nF := by omega
              have f1 : ¬ (k : Int) < (k : Int) := by omega
              have hnF := tw4
              have hoks := hst.out.2.2
              rw [HNF.out] at hoks
              have HOK := Lib.hid hoks
              clear hoks
              obtain ⟨T, AT, nT, dT, ft1, ft2, ft3, ft4⟩ := FT.out
              have FTC := Lib.hid ft1
              have FTS := Lib.hid (And.intro ft2 (And.intro ft3 ft4))
              clear ft1 ft2 ft3 ft4 FT
              have RM := Lib.hid (fun W (hk : Keep (fun _ => False) w W) => show Calls Try.prog 25 #[confV c (.slice Au nu cu), .int .i64 0, .int .i64 tl] W fun e w' => e = .returned (.int .i64 (c.log - tl)) ∧ Below W.heap.size W w' from by have := rroom_any c (.slice Au nu cu) (fun _ => True) 0 tl W (UU.out.1.same hk) (fun s hs => Nat.le_trans (NMS.out s hs) (by decide)) HRT.out (by omega) (by omega) m1 (by omega) (by omega); rwa [Int.zero_add] at this)
              unfold confV at RM
              obtain ⟨c0, c1, c2, c3, c4, cf⟩ := cells5 (HQ.out _ hst.out.1).1.k.1
              have x0 := TWC.out _ (HQ.out _ hst.out.1).1
              obtain ⟨r0, r1, r2, r3, rf⟩ := cells4 (HQ.out _ hst.out.1).2.1
              go_wp2_with fail
              with_reducible refine (RM.out _ (HQ.out _ hst.out.1).1.keep).mono ?_
              rintro e w3 ⟨rfl, hb3⟩
              have H3 := Lib.hid (And.intro (hst.out.1.trans (Keep.of_below' hb3) (fun _ _ h => h.elim)) (hst.out.2.1.same (Keep.of_below' hb3)))
              clear hb3 c0 c1 c2 c3 c4 cf r0 r1 r2 r3 rf RM x0
              by_cases k4 : c.log - tl < (ns : Int)
              · go_wp2_with fail
                with_reducible refine (LIV.out _).mono ?_
                rintro e w2 ⟨rfl, hb2⟩
                go_wp2
                go_ret
                exact ⟨rfl, ((HQ.out _ H3.out.1).1.to hb2).k.2⟩
              have OWN := Lib.hid (fun e (h : ownB (.slice Al nr dl) = some e) => And.intro (HWO.out.2.1.1.own_lt h) (HWO.out.2.1.2 e h))
              have WOS := Lib.hid (show wo.heap.size ≤ w3.heap.size from (HQ.out _ H3.out.1).2.2.size)
              have LA := Lib.hid (fun W (hk : Keep (fun _ => False) w3 W) => rlaidX_any c (.slice Au nu cu) (fun _ => True) lt (.slice Av nlt dv) (fun b => ownB (.slice Al nr dl) ≠ some b) tl (secsF m tl tq (rcs FS k)) (.slice As ns cs) (fun _ => True) T AT dT (fun _ => True) W (UU.out.1.same ((HQ.out _ H3.out.1).1.keep.trans hk (fun _ _ h => h))) (HWO.out.2.2.keep ((HQ.out _ H3.out.1).2.2.trans hk (fun _ _ h => h)) (fun _ _ _ h => h)) (H3.out.2.snd.keep hk (fun _ _ _ h => h)) (by have := FTS.out.1.keep ((HQ.out _ H3.out.1).1.keep.trans hk (fun _ _ h => h)) (fun _ _ _ h => h); rwa [FTS.out.2.2] at this) FTS.out.2.1 HRT.out AGT.out.len AGT.out.full (secs_512 _ _ _ _) m1 (by rw [← HNS.out]; omega))
              unfold confV at LA
              rw [← FTS.out.2.2, ← HNL.out] at LA
              have AGN := Lib.hid (AgSt.next (T := T) (R := rcs FS FS.length) AGT.out HRT.out (by omega) (oks_all HOK.out TWR.out) (by rw [rcs_len (Nat.le_refl _), ← HNF.out]; omega) m (by rw [← HNL.out, ← HTP2.out, HM.out]) (by rw [← HT.out]; show ((secsF m tl tq (rcs FS FS.length)).length : Int) ≤ 0 + c.log - tl; rw [← HNF.out, ← HNS.out]; omega))
              rw [← HT.out, ← HNF.out] at AGN
              simp only at AGN
              have CK := Lib.hid (cameN_le c (laidF c lt tl (secsF m tl tq (rcs FS k)) T) m (rcs FS k) tl tq)
              rw [LN.out k (Nat.le_refl _)] at CK
              have LGL := Lib.hid (show ((laidF c lt tl (secsF m tl tq (rcs FS k)) T).length : Int) = c.log by unfold laidF; rw [laidTo_len]; exact AGT.out.len)
              have CE3 := Lib.hid (show ∀ W', Keep (fun _ => False) w3 W' → W'.cell? ⟨w.heap.size, 0, none⟩ = some (.int .i64 c.log) ∧ W'.cell? ⟨w.heap.size, 1, none⟩ = some (.int .i64 c.pages) ∧ W'.cell? ⟨w.heap.size, 2, none⟩ = some (.int .i64 c.ents) ∧ W'.cell? ⟨w.heap.size, 3, none⟩ = some (.int .i64 c.gens) ∧ W'.cell? ⟨w.heap.size, 4, none⟩ = some (.slice Au nu cu) ∧ W'.cell? ⟨q, 1, none⟩ = some (.int .i64 tl) ∧ W'.cell? ⟨p2, τ, none⟩ = some (.slice AT nT dT) ∧ Keep (fun _ => False) w3 W' from fun W' hk => by
                have hq := HQ.out W' (H3.out.1.trans hk (fun _ _ h => h.elim))
                obtain ⟨a0, a1, a2, a3, a4, -⟩ := cells5 hq.1.k.1
                obtain ⟨-, b1, -, -, -⟩ := cells4 hq.2.1
                exact ⟨a0, a1, a2, a3, a4, b1, FTC.out _ hq.1, hk⟩)
              go_upto_region 24 with fail
              go_region_held3 (fun W' => W'.cell? ⟨w.heap.size, 0, none⟩ = some (.int .i64 c.log) ∧ W'.cell? ⟨w.heap.size, 1, none⟩ = some (.int .i64 c.pages) ∧ W'.cell? ⟨w.heap.size, 2, none⟩ = some (.int .i64 c.ents) ∧ W'.cell? ⟨w.heap.size, 3, none⟩ = some (.int .i64 c.gens) ∧ W'.cell? ⟨w.heap.size, 4, none⟩ = some (.slice Au nu cu) ∧ W'.cell? ⟨q, 1, none⟩ = some (.int .i64 tl) ∧ W'.cell? ⟨p2, τ, none⟩ = some (.slice AT nT dT) ∧ Keep (fun _ => False) w3 W') (exact CE3.out _ (by exact (by repeat first | (with_reducible assumption) | (with_reducible exact Keep.refl _ _) | (with_reducible refine Keep.alloc ?_ _) | (with_reducible refine Keep.drew ?_) | (with_reducible refine Keep.drewN ?_ _) | (with_reducible refine Keep.setCell ?_ (.inl (by first | omega | (simp; done) | (simp; omega) | fail)) _)))) (first
                | (go_at_call 26; (with_reducible refine (LA.out _ (by exact (by repeat first | (with_reducible assumption) | (with_reducible exact Keep.refl _ _) | (with_reducible refine Keep.alloc ?_ _) | (with_reducible refine Keep.drew ?_) | (with_reducible refine Keep.drewN ?_ _) | (with_reducible refine Keep.setCell ?_ (.inl (by first | omega | (simp; done) | (simp; omega) | fail)) _)))).mono ?_); rintro e w4 ⟨A4, d4, rfl, hn4, hb4⟩; have hk4 : Keep (fun _ => False) w3 w4 := Keep.trans (T := fun _ => False) (by exact (by repeat first | (with_reducible assumption) | (with_reducible exact Keep.refl _ _) | (with_reducible refine Keep.alloc ?_ _) | (with_reducible refine Keep.drew ?_) | (with_reducible refine Keep.drewN ?_ _) | (with_reducible refine Keep.setCell ?_ (.inl (by first | omega | (simp; done) | (simp; omega) | fail)) _))) (Keep.of_below' hb4) (fun _ _ h => h))
                | fail)
              go_upto_region 25 with fail
              refine wp_world (S := fun X => Keep (fun _ => False) w3 X ∧ NBX bsN (fun b => ownB (.slice Al nr dl) ≠ some b ∨ w3.heap.size ≤ b) w3.heap.size 29 X (.slice A4 nlt d4) (laidF c lt tl (secsF m tl tq (rcs FS k)) T)) ⟨hk4, hn4.mono' (fun b _ h => h.imp id (fun h2 => by first | exact h2 | (simp at h2; omega))) |>.base (by first | exact Nat.le_refl _ | (simp; done))⟩ ?_
              rintro V ⟨v1, v2⟩
              have HV := Lib.hid (And.intro (H3.out.1.trans v1 (fun _ _ h => h.elim)) (And.intro (H3.out.2.same v1) (And.intro (HWO.out.2.1.same ((HQ.out _ H3.out.1).2.2.trans v1 (fun _ _ h => h))) (And.intro (v2.bysX.mono (G := fun b => ownB (.slice Al nr dl) ≠ some b) (fun b _ h e => by have h8 := (OWN.out b e).1.2; have h9 := WOS.out; rcases h with (h | h) | h; exact h e; omega; omega)) v1.size))))
              clear v1 v2 hn4 hb4 hk4 LA CE3
              have CMC := Lib.hid (fun W (hk : Keep (fun _ => False) w W) vG vR (hG : Bys W (fun _ => True) vG (laidF c lt tl (secsF m tl tq (rcs FS k)) T)) (hR : Bys W (fun _ => True) vR (rcs FS k)) => rcame_any c (.slice Au nu cu) (fun _ => True) (laidF c lt tl (secsF m tl tq (rcs FS k)) T) vG (fun _ => True) m tl tq (rcs FS k) vR (fun _ => True) W (UU.out.1.same hk) hG hR LGL.out g1 m1 (by rw [← HNS.out]; omega) (by omega) (by omega) (by rw [LN.out k (Nat.le_refl _)]; omega) (by have := rcs_bytes HOK.out; rwa [← HNF.out] at this))
              unfold confV at CMC
              generalize laidF c lt tl (secsF m tl tq (rcs FS k)) T = gr at *
              generalize cameN c gr m tl tq (rcs FS k) = kk at *
              have hkk : kk ≤ k := CK.out
              obtain ⟨c0, c1, c2, c3, c4, cf⟩ := cells5 (HQ.out _ HV.out.1).1.k.1
              obtain ⟨r0, r1, r2, r3, rf⟩ := cells4 (HQ.out _ HV.out.1).2.1
              go_wp2_with fail
              with_reducible refine (CMC.out _ (HQ.out _ HV.out.1).1.keep _ _ (HV.out.2.2.2.1.mono (fun _ _ _ => trivial)) HV.out.2.1.fst).mono ?_
              rintro e w5 ⟨rfl, hb5⟩
              have H5 := Lib.hid (And.intro (HV.out.1.trans (Keep.of_below' hb5) (fun _ _ h => h.elim)) (And.intro (HV.out.2.1.same (Keep.of_below' hb5)) (And.intro (HV.out.2.2.1.same (Keep.of_below' hb5)) (HV.out.2.2.2.1.keep (Keep.of_below' hb5) (fun _ _ _ h => h)))))
              have B5 := Lib.hid (show wo.heap.size ≤ w5.heap.size ∧ p2 < w5.heap.size ∧ wc.heap.size ≤ w5.heap.size from ⟨by have h8 := hb5.size; have h9 := HV.out.2.2.2.2; have h10 := WOS.out; omega, ((HQ.out _ HV.out.1).1.to hb5).hp, H5.out.1.size⟩)
              clear hb5 HV CMC c0 c1 c2 c3 c4 cf r0 r1 r2 r3 rf
              obtain ⟨csr, e11, e12, e13⟩ := ((H5.out.2.1.1.list (B := wc.heap.size) (fun b h => h.1) (Nat.le_refl _)).bys).srcK hkk
              have E1 := Lib.hid (And.intro e11 (And.intro e12 e13))
              clear e11 e12 e13
              obtain ⟨us, g1', g2', g3'⟩ := H5.out.2.2.1.1
              have g2' : Own w5 (w.heap.size + 1) 29 1 (.slice Al nr dl) Rt.length ((Rt.zip us).flatMap (fun p => [p.2])) := g2'
              rw [zip_snd g1', ← HNR.out] at g2'
              have GG := Lib.hid (And.intro g1' (And.intro g2' g3'))
              clear g1' g2' g3'
              have crl : (kk : Int) ≤ (cr : Int) := by
                obtain ⟨A', c', e', hle, -⟩ := H5.out.2.1.fst.form
                injection e' with _ e2' e3'
                omega
              have kk0 : (0 : Int) ≤ (kk : Int) := by omega
              have TKL := Lib.hid (show ((rcs FS k).take kk).length = kk by rw [List.length_take, LN.out k (Nat.le_refl _)]; omega)
              go_wp2_with (at_builtin; refine wpList_append_gen _ rfl _ _ 25 25 rfl (w.heap.size + 1) 29 is _ 1 24 Try.underlying25 his hs0 hs1 hs2 rfl _ nr us rfl GG.out.2.1 _ kk csr rfl (E1.out.2.1 _ (Keep.refl _ _)) ?c7 ?c8 ?c9 ?_)
              case c7 => unfold maxLen; omega
              case c8 => omega
              case c9 => have := B5.out; have := (HQ.out _ H5.out.1).1.lt; omega
              intro v9 w9 ho9 hk9 hn9
              obtain ⟨A9, d9, rfl⟩ : ∃ A d, v9 = .slice A (nr + kk) d := by
                obtain ⟨A, d, e, _⟩ := ho9.form
                exact ⟨A, d, e⟩
              have H9 := Lib.hid (show AgW w w9 (.int .i64 c.log) (.int .i64 c.pages) (.int .i64 c.ents) (.int .i64 c.gens) (.slice Au nu cu) p1 p2 (.slice AF1 nF1 capF1) (.slice AF2 nF2 capF2) (.slice AT1 nT1 dT1) (.slice AT2 nT2 dT2) ∧ AlSt w w9 p1 p2 (.slice A9 (nr + kk) d9) (Rt ++ (rcs FS k).take kk) ∧ Bys w9 (fun b => ownB (.slice A9 (nr + kk) d9) ≠ some b) (.slice A4 nlt d4) gr from
                ⟨(HQ.out _ H5.out.1).1.keep_ hk9 (fun x e => ⟨by have := (OWN.out x e).1.1; omega, (OWN.out x e).2⟩),
                 ⟨NBX.pushes (us := us) (cs := csr) GG.out.1 (fun i x q hx hq => GG.out.2.2 i x q hx hq) E1.out.1 (fun i x q hx hq => By.mono (E1.out.2.2 i x q hx hq) (fun b _ h => ⟨trivial, fun e => by have h8 := (OWN.out b e).1.2; have h9 := HC.out.2.2.1.size; omega⟩)) (by rw [← HNR.out, TKL.out]; exact ho9) hk9 hn9,
                  fun e h => by
                    rcases hn9 e h with h2 | h2
                    · exact (OWN.out e h2).2
                    · have h8 := B5.out.2.1
                      have h9 := HC.out.1.lt
                      exact ⟨by omega, by omega⟩⟩,
                 ((H5.out.2.2.2.mono (G := fun b => ownB (.slice Al nr dl) ≠ some b ∧ b < w5.heap.size) (fun b hb h => ⟨h, hb⟩)).keep hk9 (fun b _ h e => h.1 e)).mono (fun b _ h e => by
                    rcases hn9 b e with h2 | h2
                    · exact h.1 h2
                    · have := h.2; omega)⟩)
              clear ho9 hk9 hn9 GG E1 H5
              go_wp2
              go_roundw
              case rel => exact ⟨τ + 1, gr, _, by omega, by go_num, Lib.hid ⟨H9.out.1, H9.out.2.1, H9.out.2.2, by have := AGN.out; rw [show (140737488355328 : Int) + ((τ + 1 : Nat) : Int) = 140737488355328 + (τ : Nat) + 1 by omega]; exact this⟩⟩
              case measure => simp [intOf]; omega
      · obtain rfl : τ = 2 := by omega
        obtain ⟨t, ht⟩ : ∃ t, t = scanF c lt 0 0 0 := ⟨_, rfl⟩
        rw [← ht] at SPt EA
        clear ht SCt TPt RTt ST hlt
        obtain ⟨Rt, tl, te, tq⟩ := t
        simp only at SPt EA
        have er : Rt = all := EA.out
        subst er
        have SM := Lib.hid (fun W x (F : Nat → Prop) (hx : Bys W F x Rt) (hk : Keep (fun _ => False) wo W) => show Calls Try.prog 29 #[x, .slice Al Rt.length dl] W fun e w' => e = .returned (.bool true) ∧ Keep (fun _ => False) W w' from by have := rsame17 _ _ x _ F (fun _ => True) W hx (hst.out.2.1.bys.keep hk (fun _ _ _ h => h)); rwa [decide_eq_true rfl] at this)
        clear EA
        obtain ⟨nr, hnr⟩ : ∃ n, n = Rt.length := ⟨_, rfl⟩
        obtain ⟨nlt, hnlt⟩ : ∃ n, n = lt.length := ⟨_, rfl⟩
        have HNR := Lib.hid hnr
        rw [← hnr] at SM ⊢
        rw [← hnlt] at SPt ⊢
        clear hnr hnlt
        obtain ⟨c0, c1, c2, c3, c4, cf⟩ := cells5 hst.out.1.k.1
        go_wp2_with fail
        with_reducible refine (SPt.out _ (Keep.refl _ _)).mono ?_
        rintro e w7 ⟨v7, rfl, hr7, hb7⟩
        obtain ⟨A7, d7, rfl⟩ : ∃ A d, v7 = .slice A nr d := by
          obtain ⟨A, d, e, -⟩ := hr7.form
          exact ⟨A, d, by rw [e, HNR.out]⟩
        have H7 := Lib.hid (And.intro hr7 (Keep.of_below' hb7))
        have W7 := Lib.hid (hst.out.1.to hb7)
        clear hr7 hb7 c0 c1 c2 c3 c4 cf
        have FD := fun (W : World) => run_tailRecs W A7 nr d7 tl te tq
        go_wp2_with fail
        with_reducible refine (SM.out _ _ _ H7.out.1 H7.out.2).mono ?_
        rintro e w8 ⟨rfl, hk8⟩
        have W8 := Lib.hid (W7.out.to hk8.to_below')
        clear hk8
        go_wp2_with fail
        with_reducible refine (LIV.out _).mono ?_
        rintro e w9 ⟨rfl, hb9⟩
        go_wp2
        go_ret
        exact ⟨rfl, (W8.out.to hb9).k.2⟩
end Go.Proofs.Ytfjgbnnjfapcmaa

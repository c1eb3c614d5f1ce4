/- The walk of vivariumlaw17.PartJoins: it returns true, old memory unchanged. -/
import Derived.Test.YtakchlaoimnnhaaPartL
import Derived.Test.YtakchlaoimnnhaaPart6
import Derived.Test.YtakchlaoimnnhaaPart8
import Derived.Test.YtakchlaoimnnhaaCells
namespace Go.Proofs.Ytakchlaoimnnhaa
open Go.RowKit
set_option maxRecDepth 100000
set_option linter.unusedVariables false

theorem joinB_len {R : List (List UInt8)} {m : Nat} (h : ∀ r ∈ R, r.length ≤ m) : (joinB R).length ≤ m * R.length := by
  unfold joinB
  induction R with
  | nil => simp
  | cons x R ih =>
    have h1 := ih (fun r hr => h r (List.mem_cons_of_mem _ hr))
    have h2 := h x (List.mem_cons_self ..)
    simp only [List.flatMap_cons, List.length_append, List.length_drop, List.length_cons]
    rw [Nat.mul_succ]
    omega
theorem headT_form (l : List UInt8) : ∃ a b c y, headT l = .tuple #[.int .i64 a, .int .i64 b, .int .i64 c, .bool y] := ⟨_, _, _, _, rfl⟩

set_option maxHeartbeats 4000000 in
theorem partJoins_walk (R : List (List UInt8)) (q : List UInt8) (u v : Value) (F G : Nat → Prop) (w : World) (hu : Bys w F u R) (hv : By w G v q) :
    Calls Try.prog 4 #[u, v] w fun e w' => e = .returned (.bool true) ∧ Below w.heap.size w w' := by
  have hu0 := hu
  have hv0 := hv
  obtain ⟨A, c, rfl, hRc, hcm, hat⟩ := hu.form
  obtain ⟨A2, c2, rfl, hqc, hcm2, _, _⟩ := hv
  clear hu
  by_cases hbig : 10 < R.length ∨ (R.length ≤ 10 ∧ 600 < q.length)
  · clear hu0 hv0 hat
    generalize q.length = len at *
    generalize R.length = lR at *
    rcases hbig with hbig | ⟨hb1, hb2⟩
    all_goals
      go_enter Try.func4, Try.ntmps4
      go_wp2_with (go_at_call 15; refine (live17 _).mono ?_; rintro e w4 ⟨rfl, hb4⟩)
      go_ret
      exact ⟨rfl, hb4⟩
  have hR10 : R.length ≤ 10 := by omega
  have hq600 : q.length ≤ 600 := by omega
  clear hbig
  have HM := Lib.hid (show (∀ k, k < R.length → (R.getD k []).length ≤ 600) → ∀ r ∈ R, r.length ≤ 600 from fun h r hr => by
    obtain ⟨i, hi, rfl⟩ := List.mem_iff_getElem.1 hr
    have := h i hi
    rwa [List.getD_eq_getElem?_getD, List.getElem?_eq_getElem hi, Option.getD_some] at this)
  have HB := Lib.hid (show (∀ k, k < R.length → (R.getD k []).length ≤ 600) → (joinB R).length ≤ 6000 from fun h => by
    have := joinB_len (HM.out h)
    omega)
  have PJ := Lib.hid (fun W (h : ∀ k, k < R.length → (R.getD k []).length ≤ 600) (hk : Keep (fun _ => False) w W) => pjoin_any R _ F W (hu0.keep hk (fun _ _ _ h => h)) (by have := HB.out h; omega) (by omega) (fun r hr => by have := HM.out h r hr; omega))
  have RJ := Lib.hid (fun W (h : ∀ k, k < R.length → (R.getD k []).length ≤ 600) (hk : Keep (fun _ => False) w W) => rjoin_any R _ F W (hu0.keep hk (fun _ _ _ h => h)) (by have := HB.out h; omega) (by omega))
  have PH := Lib.hid (fun W (hk : Keep (fun _ => False) w W) => phead_any q _ G W (hv0.keep hk (fun _ _ _ h => h)) (by omega))
  have RH := Lib.hid (fun W (hk : Keep (fun _ => False) w W) => rhead_any q _ G W (hv0.keep hk (fun _ _ _ h => h)))
  obtain ⟨p1, p2, p3, y, hh⟩ := headT_form q
  rw [hh] at PH RH
  clear hh
  have e1 : (p1 != p1) = false := by simp
  have e2 : (p2 != p2) = false := by simp
  have e3 : (p3 != p3) = false := by simp
  have e4 : (y != y) = false := by simp
  have LIV := Lib.hid live17
  obtain ⟨s, hs⟩ : ∃ s, s = (if joinOk R = true then firstSeq R else 0) := ⟨_, rfl⟩
  obtain ⟨bb, hbb⟩ : ∃ s, s = (if joinOk R = true then joinB R else []) := ⟨_, rfl⟩
  have JP := Lib.hid (show ∀ W e w', JoinPost W R e w' → ∃ A n c, e = .returned (.tuple #[.int .i64 s, .slice A n c, .bool (joinOk R)]) ∧ By w' (fun x => W.heap.size ≤ x) (.slice A n c) bb ∧ Below W.heap.size W w' from fun W e w' ⟨A, n, c, h1, h2, h3⟩ => by
    rw [← hs] at h1
    rw [← hbb] at h2
    exact ⟨A, n, c, h1, h2, h3⟩)
  have e5 : (s != s) = false := by simp
  have SM := Lib.hid (fun W a b Ga Gb (ha : By W Ga a bb) (hb : By W Gb b bb) => same_any bb bb a b Ga Gb W ha hb)
  rw [decide_eq_true rfl] at SM
  have SP := Lib.hid (show joinOk R = true → bb.length ≤ 6000 → ∀ W a Ga, By W Ga a bb → Calls Try.prog 16 #[.int .i64 s, a] W fun e w' => ∃ u, e = .returned u ∧ ListSt W.heap.size w' u R ∧ Below W.heap.size W w' from fun h1 h2 W a Ga ha => by
    have := psplit_any s bb a Ga W ha (by omega)
    have hp := (prog_iff.2 h1).2.2.2
    rw [if_pos h1] at hs hbb
    subst hs hbb
    rw [hp] at this
    exact this)
  have RS := Lib.hid (fun W a b Ga Gb (ha : Bys W Ga a R) (hb : Bys W Gb b R) => rsame17 R R a b Ga Gb W ha hb)
  rw [decide_eq_true rfl] at RS
  have HBB := Lib.hid (show joinOk R = true → (∀ k, k < R.length → (R.getD k []).length ≤ 600) → bb.length ≤ 6000 from fun h1 h2 => by rw [hbb, if_pos h1]; exact HB.out h2)
  have HA := Lib.hid hat
  have U0 := Lib.hid hu0
  clear hat hu0 hv0 HM HB hs hbb
  generalize joinOk R = ok at *
  unfold maxLen at hcm hcm2
  generalize hn : R.length = n at *
  generalize q.length = m at *
  go_enter Try.func4, Try.ntmps4
  go_wp2
  go_loopw [5] (fun i wr => ∃ (k d : Nat), k ≤ n ∧ i = .int .i64 k ∧ wr = w.drewN d ∧ Hid (∀ j, j < k → (R.getD j []).length ≤ 600)) (fun i _ => n - (intOf i).toNat)
  case atStart => exact ⟨0, 0, by omega, rfl, rfl, Lib.hid (fun j hj => by omega)⟩
  case round =>
    obtain ⟨k, d, hk, rfl, rfl, ht⟩ := hrel
    by_cases hlt : k < n
    · obtain ⟨b1, o1, u1, rfl, c1, y1⟩ := HA.out k hlt
      obtain ⟨A3, d3, rfl, _⟩ := y1
      have x1 : (w.drewN d).cell? ⟨b1, o1 + k, none⟩ = some (.slice A3 (R.getD k []).length d3) := c1
      have f0 : (0 : Int) ≤ (k : Int) := by omega
      have f1 : (k : Int) < (n : Int) := by omega
      have NX := Lib.hid (show (R.getD k []).length ≤ 600 → ∀ j, j < k + 1 → (R.getD j []).length ≤ 600 from fun h j hj => by
        rcases Nat.lt_or_eq_of_le (Nat.le_of_lt_succ hj) with h2 | rfl
        · exact ht.out j h2
        · exact h)
      clear PJ RJ SP RS HBB c1
      generalize (R.getD k []).length = n3 at *
      by_cases h6 : 600 < n3
      · go_wp2_with (go_at_call 15; refine (LIV.out _).mono ?_; rintro e w4 ⟨rfl, hb4⟩)
        go_ret
        exact ⟨rfl, (Keep.refl (fun _ => False) w |>.drewN d |>.to_below').trans hb4⟩
      · go_wp2
        go_roundw
        case rel => exact ⟨k + 1, _, by omega, by go_num, rfl, Lib.hid (NX.out (by omega))⟩
        case measure => simp [intOf]; omega
    · obtain rfl : k = n := by omega
      refine wp_world (S := fun w3 => Keep (fun _ => False) w w3) ((Keep.refl _ w).drewN d) ?_
      intro w0 hk0
      have K0 := Lib.hid hk0
      clear hk0
      cases ok
      all_goals
        go_wp2_with fail
        refine (PJ.out _ ht.out K0.out).mono ?_
        rintro e w1 hjp
        obtain ⟨A1, n1, d1, rfl, hy1, hb1⟩ := JP.out _ _ _ hjp
        have H1 := Lib.hid (And.intro hy1 (K0.out.trans (Keep.of_below' hb1) (fun _ _ h => h)))
        clear hjp hy1 hb1
        go_wp2_with fail
        refine (RJ.out _ ht.out H1.out.2).mono ?_
        rintro e w2 hjp
        obtain ⟨A4, n4, d4, rfl, hy4, hb4⟩ := JP.out _ _ _ hjp
        have H2 := Lib.hid (And.intro (H1.out.1.below hb4) (And.intro hy4 (H1.out.2.trans (Keep.of_below' hb4) (fun _ _ h => h))))
        clear hjp hy4 hb4 H1
        go_wp2_with fail
        refine (PH.out _ H2.out.2.2).mono ?_
        rintro e w3 ⟨rfl, hb3⟩
        have H3 := Lib.hid (And.intro (H2.out.1.below hb3) (And.intro (H2.out.2.1.below hb3) (H2.out.2.2.trans (Keep.of_below' hb3) (fun _ _ h => h))))
        clear hb3 H2
        go_wp2_with fail
        refine (RH.out _ H3.out.2.2).mono ?_
        rintro e w4 ⟨rfl, rfl⟩
        go_wp2_with fail
        refine (SM.out _ _ _ _ _ H3.out.1 H3.out.2.1).mono ?_
        rintro e w5 ⟨rfl, rfl⟩
      · go_wp2_with fail
        refine (LIV.out _).mono ?_
        rintro e w6 ⟨rfl, hb6⟩
        go_wp2
        go_ret
        exact ⟨rfl, H3.out.2.2.to_below'.trans (hb6.mono H3.out.2.2.size)⟩
      · go_wp2_with fail
        refine (SP.out trivial (HBB.out trivial ht.out) _ _ _ H3.out.1).mono ?_
        rintro e w6 ⟨u6, rfl, hl6, hb6⟩
        have H6 := Lib.hid (And.intro hl6 (H3.out.2.2.trans (Keep.of_below' hb6) (fun _ _ h => h)))
        clear hl6 hb6
        go_wp2_with fail
        refine (RS.out _ _ _ _ _ H6.out.1.bys (U0.out.keep H6.out.2 (fun _ _ _ h => h))).mono ?_
        rintro e w7 ⟨rfl, hk7⟩
        have K7 := Lib.hid (H6.out.2.trans hk7 (fun _ _ h => h))
        clear hk7
        go_wp2_with fail
        refine (LIV.out _).mono ?_
        rintro e w8 ⟨rfl, hb8⟩
        go_wp2
        go_ret
        exact ⟨rfl, K7.out.to_below'.trans (hb8.mono K7.out.size)⟩
end Go.Proofs.Ytakchlaoimnnhaa

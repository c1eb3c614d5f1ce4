/- Contracts of vivariumref16.Room, vivariumlaw18.full. -/
import Derived.Test.YtfjgbnnjfapcmaaScan5
namespace Go.Proofs.Ytfjgbnnjfapcmaa
open Go.RowKit
set_option maxRecDepth 100000
set_option linter.unusedVariables false
set_option linter.unusedSimpArgs false

set_option maxHeartbeats 1000000 in
theorem rroom_any (c : Cf) (u : Value) (F : Nat → Prop) (hd tl : Int) (w : World) (hu : CL w F u c.l) (hs : ∀ x ∈ c.l, x.nm.size ≤ 4611686018427387904) (hr : rightB c = true) (h0 : 0 ≤ hd) (h1 : hd ≤ 281474976710656) (h2 : hd ≤ tl) (h3 : tl ≤ hd + c.log) (h4 : tl ≤ 281474976710656) :
    Calls Try.prog 25 #[confV c u, .int .i64 hd, .int .i64 tl] w fun e w' => e = .returned (.int .i64 (hd + c.log - tl)) ∧ Below w.heap.size w w' := by
  have CK := Lib.hid (fun W (hk : Keep (fun _ => False) w W) => rright_any c u F W (hu.same hk) hs)
  have PL := Lib.hid (fun z W (a : 0 ≤ z) (b : z ≤ 281474976710656) => show Calls Try.prog 18 #[.int .i64 z] W fun e w' => e = .returned (.bool true) ∧ W = w' from by have := gplace_any z W; rwa [decide_eq_true ⟨a, b⟩] at this)
  have hsz : sizesOk c := (of_decide_eq_true hr).1
  obtain ⟨⟨g1, g2⟩, -⟩ := hsz
  rw [hr] at CK
  obtain ⟨Au, cu, rfl, -⟩ := hu
  unfold confV at *
  have t1 : ¬ tl < hd := by omega
  have t2 : ¬ hd + c.log < tl := by omega
  clear hr hs
  generalize c.log = z1 at *
  generalize c.pages = z2 at *
  generalize c.ents = z3 at *
  generalize c.gens = z4 at *
  generalize c.l.length = nu at *
  go_enter Try.func25, Try.ntmps25
  go_upto_region 1 with fail
  refine wp_world (S := fun X => KSt w X (.int .i64 z1) (.int .i64 z2) (.int .i64 z3) (.int .i64 z4) (.slice Au nu cu)) (KSt.mk_ w _ _ _ _ _) ?_
  intro X hX
  have HX := Lib.hid hX
  clear hX
  obtain ⟨c0, c1, c2, c3, c4, cf⟩ := cells5 HX.out.1
  go_wp2_with fail
  with_reducible refine (CK.out _ HX.out.keep).mono ?_
  rintro e w1 ⟨rfl, hb1⟩
  have H1 := Lib.hid (HX.out.below hb1)
  clear hb1 c0 c1 c2 c3 c4 cf HX
  obtain ⟨c0, c1, c2, c3, c4, cf⟩ := cells5 H1.out.1
  go_wp2_with (go_at_call 18; (with_reducible refine (PL.out _ _ (by omega) (by omega)).mono ?_); rintro e w' ⟨rfl, rfl⟩)
  go_ret
  exact ⟨rfl, H1.out.2⟩
theorem Bys.at_ {w : World} {F : Nat → Prop} {A : Option Addr} {n d : Nat} {R : List (List UInt8)} (h : Bys w F (.slice A n d) R) : ∀ k, k < n →
    ∃ b off A1 d1, A = some ⟨b, off, none⟩ ∧ w.cell? ⟨b, off + k, none⟩ = some (.slice A1 (R.getD k []).length d1) ∧ By w F (.slice A1 (R.getD k []).length d1) (R.getD k []) := fun k hk => by
  obtain ⟨A', c, e, _, _, hat⟩ := h.form
  injection e with e1 e2 e3
  subst e1 e2 e3
  obtain ⟨b, off, u, h1, h2, h3⟩ := hat k hk
  obtain ⟨A1, d1, rfl, -⟩ := id h3
  exact ⟨b, off, A1, d1, h1, h2, h3⟩
/-- As many sectors as a log has, not too many, and whole? -/
def fullB (c : Cf) (l : List (List UInt8)) : Bool := decide ((∀ s ∈ l, s.length = 512) ∧ (l.length : Int) = c.log ∧ l.length ≤ 20)
def whole512 (l : List (List UInt8)) (k : Nat) : Prop := ∀ i : Nat, i < k → (l.getD i []).length = 512
theorem whole512_next {l : List (List UInt8)} {k : Nat} (h : whole512 l k) (h1 : (l.getD k []).length = 512) : whole512 l (k + 1) := fun i hi => by
  by_cases e : i = k
  · subst e; exact h1
  · exact h i (by omega)
theorem whole512_all {l : List (List UInt8)} (h : whole512 l l.length) : ∀ s ∈ l, s.length = 512 := fun s hs => by
  obtain ⟨i, hi, rfl⟩ := List.getElem_of_mem hs
  have := h i hi
  rwa [List.getD_eq_getElem?_getD, List.getElem?_eq_getElem hi] at this
theorem fullB_no {c : Cf} {l : List (List UInt8)} {k : Nat} (hk : k < l.length) (h : (l.getD k []).length ≠ 512) : fullB c l = false := by
  refine decide_eq_false (fun h2 => h ?_)
  have := h2.1 (l[k]'hk) (List.getElem_mem hk)
  rwa [List.getD_eq_getElem?_getD, List.getElem?_eq_getElem hk]
set_option maxHeartbeats 1000000 in
theorem full_any (c : Cf) (u : Value) (F : Nat → Prop) (l : List (List UInt8)) (v : Value) (G : Nat → Prop) (w : World) (hu : CL w F u c.l) (hv : Bys w G v l) :
    Calls Try.prog 17 #[confV c u, v] w fun e w' => e = .returned (.bool (fullB c l)) ∧ Below w.heap.size w w' := by
  have HV := Lib.hid hv
  obtain ⟨A, cap, rfl, hlc, hcm, -⟩ := hv.form
  unfold maxLen at hcm
  obtain ⟨Au, cu, rfl, -⟩ := hu
  have NO := Lib.hid (fun k => @fullB_no c l k)
  have NX := Lib.hid (fun k => @whole512_next l k)
  have YES := Lib.hid (show whole512 l l.length → ∀ b, b = (decide ((l.length : Int) = c.log) && decide (l.length ≤ 20)) → b = fullB c l from fun h b hb => by
    rw [hb]; unfold fullB
    have h1 := whole512_all h
    by_cases a : (l.length : Int) = c.log <;> by_cases d : l.length ≤ 20 <;> simp [a, d]
    exact h1)
  unfold confV at *
  clear hv
  generalize fullB c l = r at *
  generalize c.log = z1 at *
  generalize c.pages = z2 at *
  generalize c.ents = z3 at *
  generalize c.gens = z4 at *
  generalize c.l.length = nu at *
  obtain ⟨n, hn⟩ : ∃ n, n = l.length := ⟨_, rfl⟩
  rw [← hn] at HV hlc NO YES ⊢
  clear hn
  go_enter Try.func17, Try.ntmps17
  go_upto_region 1 with fail
  refine wp_world (S := fun X => KSt w X (.int .i64 z1) (.int .i64 z2) (.int .i64 z3) (.int .i64 z4) (.slice Au nu cu)) (KSt.mk_ w _ _ _ _ _) ?_
  intro X hX
  have HX := Lib.hid (And.intro hX ((HV.out.keep hX.keep (fun _ _ _ h => h)).at_))
  clear hX HV
  go_wp2
  go_loopw [5] (fun i wr => ∃ k : Nat, k ≤ n ∧ i = .int .i64 k ∧ wr = X ∧ Hid (whole512 l k)) (fun i _ => n - (intOf i).toNat)
  case atStart => exact ⟨0, by omega, rfl, rfl, Lib.hid (fun i hi => absurd hi (by omega))⟩
  case round =>
    obtain ⟨k, hk, rfl, rfl, ht⟩ := hrel
    by_cases hlt : k < n
    · have f1 : (k : Int) < (n : Int) := by omega
      have f2 : (0 : Int) ≤ (k : Int) := by omega
      obtain ⟨b1, o1, A1, d1, rfl, x1, y1⟩ := HX.out.2 k hlt
      clear y1
      by_cases hq : (l.getD k []).length = 512
      · have T2 := Lib.hid (NX.out k ht.out hq)
        rw [hq] at x1
        go_wp2
        go_roundw
        case rel => exact ⟨k + 1, by omega, by first | rfl | trivial | go_num, by first | rfl | trivial, T2⟩
        case measure => simp [intOf]; omega
      · have T2 := Lib.hid (NO.out k hlt hq)
        generalize (l.getD k []).length = q at *
        have fq : ((q : Int) != 512) = true := by simp; omega
        clear hq
        go_wp2
        go_ret
        exact ⟨ret_bool T2.out.symm, HX.out.1.2⟩
    · obtain rfl : k = n := by omega
      have f1 : ¬ (k : Int) < (k : Int) := by omega
      have YS := Lib.hid (YES.out ht.out)
      obtain ⟨c0, c1, c2, c3, c4, cf⟩ := cells5 HX.out.1.1
      by_cases h1 : (k : Int) = z1
      · subst h1
        by_cases h2 : k ≤ 20
        · have t4 : (k : Int) ≤ 20 := by omega
          go_wp2
          go_ret
          exact ⟨ret_bool (YS.out true (by simp [h2])), HX.out.1.2⟩
        · have t4 : ¬ (k : Int) ≤ 20 := by omega
          go_wp2
          go_ret
          exact ⟨ret_bool (YS.out false (by simp; omega)), HX.out.1.2⟩
      · go_wp2
        go_ret
        exact ⟨ret_bool (YS.out false (by simp [h1])), HX.out.1.2⟩
end Go.Proofs.Ytfjgbnnjfapcmaa

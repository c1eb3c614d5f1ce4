/- Contracts of scan.Top, vivariumref18.Top, Much, vivariumref16.Place, Log. -/
import Derived.Test.YtfjgbnnjfapcmaaScanPl
import Derived.Test.YtfjgbnnjfapcmaaComp5
import Derived.Test.YtfjgbnnjfapcmaaSeal4
import Derived.RegionTactic
import Derived.OwnWalk
import Derived.Deep.RegionHeld3
namespace Go.Proofs.Ytfjgbnnjfapcmaa
open Go.RowKit
set_option maxRecDepth 100000
set_option linter.unusedVariables false
set_option linter.unusedSimpArgs false

theorem scantop_any (l : List (List UInt8)) (v : Value) (F : Nat → Prop) (w : World) (hv : Bys w F v l) :
    Calls Try.prog 31 #[v] w fun e w' => e = .returned (.int .i64 (topTo l l.length)) ∧ w = w' := by
  obtain ⟨A, c, rfl, hlc, hcm, hat⟩ := hv.form
  unfold maxLen at hcm
  have HA := Lib.hid hat
  have NX := Lib.hid (fun k (h : k < l.length) => topTo_next h)
  have Z0 := Lib.hid (topTo_zero l)
  clear hat hv
  obtain ⟨n, hn⟩ : ∃ n, n = l.length := ⟨_, rfl⟩
  rw [← hn] at HA NX hlc ⊢
  clear hn
  go_enter Try.func31, Try.ntmps31
  go_wp2
  go_loopw [3, 8] (fun s i wr => ∃ k : Nat, k ≤ n ∧ s = .int .i64 (topTo l k) ∧ i = .int .i64 k ∧ w = wr) (fun _ i _ => n - (intOf i).toNat)
  case atStart => exact ⟨0, by omega, by rw [Z0.out], rfl, rfl⟩
  case round =>
    obtain ⟨k, hk, rfl, rfl, rfl⟩ := hrel
    by_cases hlt : k < n
    · obtain ⟨b1, o1, u1, rfl, x1, y1⟩ := HA.out k hlt
      have E := Lib.hid (stop_any _ u1 F w y1)
      have NK := Lib.hid (NX.out k hlt)
      have f1 : (k : Int) < (n : Int) := by omega
      obtain ⟨A1, d1, rfl, -⟩ := y1
      generalize (l.getD k []).length = n1 at *
      generalize topZ (l.getD k []) = t1 at *
      generalize topTo l k = t0 at *
      rcases Int.lt_or_le t0 t1 with h | h
      · have NK2 := Lib.hid (show topTo l (k + 1) = t1 by rw [NK.out]; omega)
        clear NK
        go_wp2_with (go_at_call 52; refine E.out.mono ?_; rintro e w' ⟨rfl, rfl⟩)
        go_roundw
        case rel => exact ⟨k + 1, by omega, by rw [NK2.out], by go_num, by first | rfl | trivial⟩
        case measure => simp [intOf]; omega
      · have NK2 := Lib.hid (show topTo l (k + 1) = t0 by rw [NK.out]; omega)
        clear NK
        go_wp2_with (go_at_call 52; refine E.out.mono ?_; rintro e w' ⟨rfl, rfl⟩)
        go_roundw
        case rel => exact ⟨k + 1, by omega, by rw [NK2.out], by go_num, by first | rfl | trivial⟩
        case measure => simp [intOf]; omega
    · obtain rfl : k = n := by omega
      go_wp2
      go_ret
      exact ⟨rfl, rfl⟩
theorem rscantop_any (l : List (List UInt8)) (v : Value) (F : Nat → Prop) (w : World) (hv : Bys w F v l) :
    Calls Try.prog 20 #[v] w fun e w' => e = .returned (.int .i64 (topTo l l.length)) ∧ w = w' := by
  obtain ⟨A, c, rfl, hlc, hcm, hat⟩ := hv.form
  unfold maxLen at hcm
  have HA := Lib.hid hat
  have NX := Lib.hid (fun k (h : k < l.length) => topTo_next h)
  have Z0 := Lib.hid (topTo_zero l)
  clear hat hv
  obtain ⟨n, hn⟩ : ∃ n, n = l.length := ⟨_, rfl⟩
  rw [← hn] at HA NX hlc ⊢
  clear hn
  go_enter Try.func20, Try.ntmps20
  go_wp2
  go_loopw [3, 4] (fun s i wr => ∃ k : Nat, k ≤ n ∧ s = .int .i64 (topTo l k) ∧ i = .int .i64 k ∧ w = wr) (fun _ i _ => n - (intOf i).toNat)
  case atStart => exact ⟨0, by omega, by rw [Z0.out], rfl, rfl⟩
  case round =>
    obtain ⟨k, hk, rfl, rfl, rfl⟩ := hrel
    by_cases hlt : k < n
    · obtain ⟨b1, o1, u1, rfl, x1, y1⟩ := HA.out k hlt
      have E := Lib.hid (refTop_any _ u1 F w y1)
      have NK := Lib.hid (NX.out k hlt)
      have f1 : (k : Int) < (n : Int) := by omega
      obtain ⟨A1, d1, rfl, -⟩ := y1
      generalize (l.getD k []).length = n1 at *
      generalize topZ (l.getD k []) = t1 at *
      generalize topTo l k = t0 at *
      rcases Int.lt_or_le t0 t1 with h | h
      · have NK2 := Lib.hid (show topTo l (k + 1) = t1 by rw [NK.out]; omega)
        clear NK
        go_wp2_with (go_at_call 44; refine E.out.mono ?_; rintro e w' ⟨rfl, rfl⟩)
        go_roundw
        case rel => exact ⟨k + 1, by omega, by rw [NK2.out], by go_num, by first | rfl | trivial⟩
        case measure => simp [intOf]; omega
      · have NK2 := Lib.hid (show topTo l (k + 1) = t0 by rw [NK.out]; omega)
        have h2 : ¬ t0 < t1 := by omega
        clear NK
        go_wp2_with (go_at_call 44; refine E.out.mono ?_; rintro e w' ⟨rfl, rfl⟩)
        go_roundw
        case rel => exact ⟨k + 1, by omega, by rw [NK2.out], by go_num, by first | rfl | trivial⟩
        case measure => simp [intOf]; omega
    · obtain rfl : k = n := by omega
      have f1 : ¬ (k : Int) < (k : Int) := by omega
      go_wp2
      go_ret
      exact ⟨rfl, rfl⟩
/-- More than is asked? -/
def muchL (l : List (List UInt8)) : Bool := (l.take 50).any (fun s => decide (600 < s.length)) || decide (20 < l.length)
theorem muchL_no {l : List (List UInt8)} (h : muchL l = false) : l.length ≤ 20 ∧ ∀ s ∈ l, s.length ≤ 600 := by
  unfold muchL at h
  rw [Bool.or_eq_false_iff, decide_eq_false_iff_not, List.any_eq_false] at h
  refine ⟨by omega, fun s hs => ?_⟩
  have := h.1 s (by rw [List.take_of_length_le (by omega)]; exact hs)
  simpa using this
theorem muchL_any (l : List (List UInt8)) (v : Value) (F : Nat → Prop) (w : World) (h : Bys w F v l) :
    Calls Try.prog 8 #[v] w fun e w' => e = .returned (.bool (muchL l)) ∧ w = w' := by
  obtain ⟨A, c, rfl, hlc, hcm, hat⟩ := h.form
  unfold maxLen at hcm
  have HA := Lib.hid hat
  clear hat h
  obtain ⟨z, hz⟩ : ∃ z, z = muchL l := ⟨_, rfl⟩
  rw [← hz]
  obtain ⟨n, hn⟩ : ∃ n, n = l.length := ⟨_, rfl⟩
  rw [← hn] at HA hlc ⊢
  have HB := Lib.hid (show ∀ k, k < n → k < 50 → 600 < (l.getD k []).length → z = true from fun k h1 h2 h3 => by
    rw [hz, muchL, Bool.or_eq_true]
    have hx := List.getElem?_eq_getElem (l := l) (i := k) (by omega)
    rw [List.getD_eq_getElem?_getD, hx] at h3
    exact .inl (List.any_eq_true.2 ⟨l[k]'(by omega), List.mem_of_getElem? (i := k) (by rw [List.getElem?_take, if_pos h2]; exact hx), decide_eq_true h3⟩))
  have HE := Lib.hid (show ∀ k, (n ≤ k ∨ 50 ≤ k) → (l.take k).any (fun s => decide (600 < s.length)) = false → z = decide (20 < n) from fun k h1 h2 => by
    rw [hz, muchL, ← hn]
    have : (l.take 50).any (fun s => decide (600 < s.length)) = false := by
      rw [List.any_eq_false] at h2 ⊢
      intro x hx
      apply h2
      rcases h1 with h1 | h1
      · rw [List.take_of_length_le (by omega)]
        exact List.mem_of_mem_take hx
      · have : (l.take k).take 50 = l.take 50 := by rw [List.take_take, Nat.min_eq_left h1]
        rw [← this] at hx
        exact List.mem_of_mem_take hx
    rw [this, Bool.false_or])
  have HR := Lib.hid (show ∀ k, k < n → ¬ 600 < (l.getD k []).length → (l.take k).any (fun s => decide (600 < s.length)) = false → (l.take (k + 1)).any (fun s => decide (600 < s.length)) = false from fun k h1 h2 h3 => by
    have hx := List.getElem?_eq_getElem (l := l) (i := k) (by omega)
    rw [List.getD_eq_getElem?_getD, hx] at h2
    rw [List.take_add_one, List.any_append, h3, hx]
    simp only [Option.toList, List.any_cons, List.any_nil, Bool.or_false, Bool.false_or]
    exact decide_eq_false h2)
  clear hz hn
  go_enter Try.func8, Try.ntmps8
  go_wp2
  go_loopw [3] (fun i wr => ∃ k : Nat, k ≤ n ∧ i = .int .i64 k ∧ w = wr ∧ Hid ((l.take k).any (fun s => decide (600 < s.length)) = false)) (fun i _ => n - (intOf i).toNat)
  case atStart => exact ⟨0, by omega, rfl, rfl, Lib.hid rfl⟩
  case round =>
    obtain ⟨k, hk, rfl, rfl, ht⟩ := hrel
    by_cases hlt : k < n
    · have hi : (k : Int) < (n : Int) := by omega
      by_cases hh : k < 50
      · have hi2 : (k : Int) < 50 := by omega
        have h00 : (0 : Int) ≤ (k : Int) := by omega
        obtain ⟨b, off, u1, rfl, hx, hy⟩ := HA.out k hlt
        have B1 := HB.out k hlt hh
        have R1 := HR.out k hlt
        obtain ⟨A1, c1, rfl, -⟩ := hy
        generalize (l.getD k []).length = q1 at *
        by_cases c1 : 600 < q1
        · have Z := Lib.hid (B1 c1)
          have t1 : (600 : Int) < (q1 : Int) := by omega
          clear B1 R1
          go_wp2
          go_ret
          exact ⟨ret_bool Z.out.symm, rfl⟩
        have NT := Lib.hid (R1 c1 ht.out)
        have t1 : ¬ (600 : Int) < (q1 : Int) := by omega
        clear B1 R1
        go_wp2
        go_roundw
        case rel => exact ⟨k + 1, by omega, by first | rfl | trivial | go_num, by first | rfl | trivial, NT⟩
        case measure => simp [intOf]; omega
      · have hi2 : ¬ (k : Int) < 50 := by omega
        have Z := Lib.hid (HE.out k (by omega) ht.out)
        have t4 : (20 : Int) < (n : Int) := by omega
        have Z2 := Lib.hid (show z = true by rw [Z.out]; exact decide_eq_true (by omega))
        go_wp2
        go_ret
        exact ⟨ret_bool Z2.out.symm, rfl⟩
    · have hi : ¬ (k : Int) < (n : Int) := by omega
      have Z := Lib.hid (HE.out k (by omega) ht.out)
      by_cases h80 : 20 < n
      · have t4 : (20 : Int) < (n : Int) := by omega
        have Z2 := Lib.hid (show z = true by rw [Z.out]; exact decide_eq_true (by omega))
        go_wp2
        go_ret
        exact ⟨ret_bool Z2.out.symm, rfl⟩
      · have t4 : ¬ (20 : Int) < (n : Int) := by omega
        have Z2 := Lib.hid (show z = false by rw [Z.out]; exact decide_eq_false (by omega))
        go_wp2
        go_ret
        exact ⟨ret_bool Z2.out.symm, rfl⟩
theorem gplace_any (z : Int) (w : World) :
    Calls Try.prog 18 #[.int .i64 z] w fun e w' => e = .returned (.bool (decide (0 ≤ z ∧ z ≤ 281474976710656))) ∧ w = w' := by
  obtain ⟨q, hq⟩ : ∃ q, q = decide (0 ≤ z ∧ z ≤ 281474976710656) := ⟨_, rfl⟩
  rw [← hq]
  have HQ := Lib.hid hq
  clear hq
  by_cases h1 : 0 ≤ z <;> by_cases h2 : z ≤ 281474976710656
  all_goals
    go_enter Try.func18, Try.ntmps18
    go_wp2
    go_ret
    exact ⟨ret_bool (by rw [HQ.out] <;> first | rfl | exact (decide_eq_true (by omega)).symm | exact (decide_eq_false (by omega)).symm | exact decide_eq_false (by omega) | exact decide_eq_true (by omega)), rfl⟩
/-- Where a place lies on the disk. -/
def logF (c : Cf) (lsn : Int) : Int := if rightB c = true ∧ 0 ≤ lsn ∧ lsn ≤ 281474976710656 then 2 + lsn % c.log else -1
end Go.Proofs.Ytfjgbnnjfapcmaa
namespace Go.Proofs.Ytfjgbnnjfapcmaa
open Go.RowKit
set_option maxRecDepth 100000
set_option linter.unusedVariables false
set_option linter.unusedSimpArgs false

theorem sct_in {l : List (List UInt8)} {lsn g : Int} (hn : (l.length : Int) = g) (h0 : 0 ≤ lsn) (hg : 2 ≤ g) : ∃ k : Nat, lsn.tmod g = k ∧ k < l.length ∧ (lsn % g).toNat = k := by
  have h1 := Int.emod_nonneg lsn (show g ≠ 0 by omega)
  have h2 := Int.emod_lt_of_pos lsn (show 0 < g by omega)
  refine ⟨(lsn % g).toNat, ?_, by omega, rfl⟩
  rw [Int.tmod_eq_emod_of_nonneg h0]; omega
theorem cellsSeal : Try.prog.cellsOf 33 = 4 := by kernel_rfl
theorem sgot_no {s : List UInt8} (h : okS s = false) : gotS s = zeroS := by unfold gotS; rw [if_neg (by rw [h]; exact Bool.false_ne_true)]
theorem sgot_yes {s : List UInt8} (h : okS s = true) : gotS s = valOf s := if_pos h
/-- The two ways of a place. -/
theorem place_not {c : Cf} {l : List (List UInt8)} {lsn : Int} (h : placeB c l lsn = false) : hasB c l lsn = false ∧ hasF c l lsn = zeroS := by
  have h1 : hasB c l lsn = false := by unfold hasB; rw [h]; rfl
  exact ⟨h1, hasF_no h1⟩
theorem has_of {c : Cf} {l : List (List UInt8)} {lsn : Int} {s : List UInt8} (h : placeB c l lsn = true) (hs : sctAt c l lsn = s) : hasB c l lsn = (okS s && (decide ((valOf s).kd = 1) && decide ((valOf s).no = lsn))) := by
  unfold hasB; rw [h, Bool.true_and, hs]
/-- A layout in the first box, a seal in the second. -/
def HSt (w W : World) (a b c d u r0 r1 r2 r3 : Value) : Prop :=
  W.heap[w.heap.size]? = some (.cells #[a, b, c, d, u] 24 (0, 0)) ∧ W.heap[w.heap.size + 1]? = some (.cells #[r0, r1, r2, r3] 33 (0, 0)) ∧ Below w.heap.size w W
section
variable {w W W' : World} {a b c d u r0 r1 r2 r3 : Value}
theorem HSt.mk_ (w : World) (a b c d u r0 r1 r2 r3 : Value) : HSt w ((w.alloc (.cells #[a, b, c, d, u] 24)).alloc (.cells #[r0, r1, r2, r3] 33)) a b c d u r0 r1 r2 r3 :=
  ⟨(heap_alloc_old _ _ (by simp)).trans (heap_alloc_new w _), heap_alloc_at _ _ _ (by simp), ((Below.refl _ w).alloc (Nat.le_refl _) _).alloc (by simp) _⟩
theorem HSt.lt (h : HSt w W a b c d u r0 r1 r2 r3) : w.heap.size + 1 < W.heap.size := (Array.getElem?_eq_some_iff.1 h.2.1).1
theorem HSt.below (h : HSt w W a b c d u r0 r1 r2 r3) (hb : Below W.heap.size W W') : HSt w W' a b c d u r0 r1 r2 r3 :=
  have hl := h.lt
  ⟨(hb.block _ (by omega)).trans h.1, (hb.block _ hl).trans h.2.1, h.2.2.trans (hb.mono (by omega))⟩
theorem HSt.keep (h : HSt w W a b c d u r0 r1 r2 r3) : Keep (fun _ => False) w W := Keep.of_below' h.2.2
end
theorem HSt.zeroed {w W : World} {a b c d u r0 r1 r2 r3 : Value} (h : HSt w W a b c d u r0 r1 r2 r3) (v0 v1 v2 v3 : Value) : Below w.heap.size w ((((W.setCell ⟨w.heap.size + 1, 0, none⟩ v0).setCell ⟨w.heap.size + 1, 1, none⟩ v1).setCell ⟨w.heap.size + 1, 2, none⟩ v2).setCell ⟨w.heap.size + 1, 3, none⟩ v3) :=
  ((Keep.of_below h.2.2).trans (keepS4 _ _ _ _ _ _) (fun x _ e => by omega)).to_below (Nat.le_refl _)
/-- .. and what was got in a third. -/
def HGt (w W : World) (q : Nat) (a b c d u r0 r1 r2 r3 q0 q1 q2 q3 : Value) : Prop :=
  HSt w W a b c d u r0 r1 r2 r3 ∧ w.heap.size + 1 < q ∧ W.heap[q]? = some (.cells #[q0, q1, q2, q3] 33 (0, 0))
section
variable {w W W' : World} {q : Nat} {a b c d u r0 r1 r2 r3 q0 q1 q2 q3 : Value}
theorem HSt.got (h : HSt w W a b c d u r0 r1 r2 r3) (q0 q1 q2 q3 : Value) : HGt w (W.alloc (.cells #[q0, q1, q2, q3] 33)) W.heap.size a b c d u r0 r1 r2 r3 q0 q1 q2 q3 :=
  have hl := h.lt
  ⟨h.below ((Below.refl _ W).alloc (Nat.le_refl _) _), hl, heap_alloc_new W _⟩
end
set_option maxHeartbeats 4000000 in
theorem has_any (c : Cf) (u : Value) (F : Nat → Prop) (l : List (List UInt8)) (v : Value) (G : Nat → Prop) (lsn : Int) (w : World) (hu : CL w F u c.l) (hv : Bys w G v l) (hl : ∀ s ∈ l, s.length ≤ 1099511627776) :
    Calls Try.prog 12 #[confV c u, v, .int .i64 lsn] w (SealPost w (hasF c l lsn) (hasB c l lsn)) := by
  have CK := Lib.hid (fun W (hk : Keep (fun _ => False) w W) => ccheckF_any c u F W (hu.same hk))
  obtain ⟨A, cap, rfl, hlc, hcm, hat⟩ := hv.form
  unfold maxLen at hcm
  obtain ⟨Au, cu, rfl, hu1, hu2, -⟩ := hu
  have NP := Lib.hid (fun (h : ¬ (rightB c = true ∧ (l.length : Int) = c.log ∧ 0 ≤ lsn ∧ lsn ≤ 281474976710656)) => place_not (c := c) (l := l) (lsn := lsn) (by rw [Bool.eq_false_iff, Ne, placeB_iff]; exact h))
  by_cases hp : placeB c l lsn = true
  · obtain ⟨p1, p2, p3, p4⟩ := placeB_iff.1 hp
    have hsz : sizesOk c := (of_decide_eq_true p1).1
    obtain ⟨⟨g1, g2⟩, -⟩ := hsz
    obtain ⟨k, hk1, hk2, hk3⟩ := sct_in p2 p3 g1
    obtain ⟨b, o, x, rfl, hx, hy⟩ := hat k hk2
    have hs : sctAt c l lsn = l.getD k [] := by unfold sctAt; rw [hk3]
    have HO := Lib.hid (has_of hp hs)
    have HF := Lib.hid (show hasB c l lsn = true → hasF c l lsn = valOf (l.getD k []) from fun h => by rw [hasF_yes h, hs])
    have HN := Lib.hid (show hasB c l lsn = false → hasF c l lsn = zeroS from hasF_no)
    have hbd : (l.getD k []).length ≤ 1099511627776 := hl _ (by rw [List.getD_eq_getElem?_getD, List.getElem?_eq_getElem hk2]; exact List.getElem_mem _)
    have SG := Lib.hid (fun W (hk : Keep (fun _ => False) w W) => sget_any (l.getD k []) x G W (hy.keep hk (fun _ _ _ h => h)) hbd)
    have GN := Lib.hid (sgot_no (s := l.getD k []))
    have GY := Lib.hid (sgot_yes (s := l.getD k []))
    rw [show checkF c = 0 from if_pos p1] at CK
    have f2 : c.log = (l.length : Int) := p2.symm
    unfold confV at *
    rw [f2] at hk1 g1 g2 CK ⊢
    have f0 : ¬ lsn < 0 := by omega
    have f00 : ¬ 281474976710656 < lsn := by omega
    have f3 : ¬ (l.length : Int) = 0 := by omega
    have f5 : (0 : Int) ≤ (k : Int) := by omega
    have f6 : (k : Int) < (l.length : Int) := by omega
    have XC := Lib.hid hx
    obtain ⟨Ax, cx, rfl, -⟩ := hy
    clear hat hv hl hp p1 p2 hs hk3 NP hu1 f2 hbd
    generalize (l.getD k []).length = m at *
    generalize valOf (l.getD k []) = y at *
    generalize okS (l.getD k []) = ok at *
    generalize gotS (l.getD k []) = got at *
    generalize hasF c l lsn = hf at *
    generalize hasB c l lsn = hb at *
    generalize c.pages = z2 at *
    generalize c.ents = z3 at *
    generalize c.gens = z4 at *
    generalize c.l.length = nu at *
    generalize l.length = n at *
    clear l c
    go_enter Try.func12, Try.ntmps12
    go_upto_region 1 with fail
    refine wp_world (S := fun X => HSt w X _ _ _ _ _ _ _ _ _) (HSt.mk_ w _ _ _ _ _ _ _ _ _) ?_
    intro X hX
    have HX := Lib.hid hX
    clear hX
    obtain ⟨c0, c1, c2, c3, c4, cf⟩ := cells5 HX.out.1
    go_wp2_with fail
    refine (CK.out _ HX.out.keep).mono ?_
    rintro e w1 ⟨rfl, hb1⟩
    have H1 := Lib.hid (HX.out.below hb1)
    clear hb1 c0 c1 c2 c3 c4 cf
    obtain ⟨c0, c1, c2, c3, c4, cf⟩ := cells5 H1.out.1
    have x1 := H1.out.keep.cell (fun h => h) XC.out
    go_wp2_with fail
    refine (SG.out _ H1.out.keep).mono ?_
    rintro e w2 ⟨A2, n2, c2', rfl, hy2, hb2⟩
    have H2 := Lib.hid (H1.out.below hb2)
    have Y2 := Lib.hid (And.intro hy2 hb2)
    clear hy2 hb2 c0 c1 c2 c3 c4 cf x1
    go_upto_region 4 with fail
    refine wp_world (S := fun X => HGt w X w2.heap.size _ _ _ _ _ _ _ _ _ _ _ _ _ ∧ By X (fun b => w.heap.size ≤ b ∧ b ≠ w.heap.size + 1) (.slice A2 n2 c2') got.bd) ⟨H2.out.got _ _ _ _, (Y2.out.1.keep ((Keep.refl (fun _ => False) w2).alloc _) (fun _ _ _ h => h)).mono (fun b _ h => by have := H1.out.lt; omega)⟩ ?_
    rintro Y ⟨hY, hyb⟩
    have HY := Lib.hid hY
    have YB := Lib.hid hyb
    clear hY hyb
    obtain ⟨q0, q1, q2, q3, qf⟩ := cells4 HY.out.2.2
    obtain ⟨r0, r1, r2, r3, rf⟩ := cells4 HY.out.1.2.1
    have hzero := HSt.zeroed HY.out.1
    generalize hq : w2.heap.size = q at *
    rcases Bool.eq_false_or_eq_true ok with rfl | rfl
    · have eg := GY.out rfl
      subst eg
      by_cases k1 : got.kd = 1
      · by_cases k2 : got.no = lsn
        · have eb : hb = true := by rw [HO.out, decide_eq_true k1, decide_eq_true k2]; rfl
          have eh := HF.out eb
          subst eb eh
          go_wp2
          refine bodyPost_ret (results_seal rfl _ _ (w.heap.size + 1) _ _ _ _ rfl (stored4 HY.out.1.2.1 _ _ _ _) _ rfl) rfl ?_
          exact ⟨A2, n2, c2', by rw [k1, k2]; rfl, (YB.out.keep (keepS4 _ _ _ _ _ _) (fun b _ h e => h.2 e)).mono (fun b _ h => h.1), hzero _ _ _ _⟩
        · have eb : hb = false := by rw [HO.out, decide_eq_false k2, Bool.and_false, Bool.and_false]
          have eh := HN.out eb
          subst eb eh
          go_wp2
          refine bodyPost_ret (results_seal rfl _ _ (w.heap.size + 1) _ _ _ _ rfl (stored4 HY.out.1.2.1 _ _ _ _) _ rfl) rfl ?_
          exact ⟨none, 0, 0, rfl, By.nil _ _, hzero _ _ _ _⟩
      · have eb : hb = false := by rw [HO.out, decide_eq_false k1, Bool.false_and, Bool.and_false]
        have eh := HN.out eb
        subst eb eh
        go_wp2
        refine bodyPost_ret (results_seal rfl _ _ (w.heap.size + 1) _ _ _ _ rfl (stored4 HY.out.1.2.1 _ _ _ _) _ rfl) rfl ?_
        exact ⟨none, 0, 0, rfl, By.nil _ _, hzero _ _ _ _⟩
    · have eb : hb = false := by rw [HO.out]; rfl
      have eh := HN.out eb
      subst eb eh
      go_wp2
      refine bodyPost_ret (results_seal rfl _ _ (w.heap.size + 1) _ _ _ _ rfl (stored4 HY.out.1.2.1 _ _ _ _) _ rfl) rfl ?_
      exact ⟨none, 0, 0, rfl, By.nil _ _, hzero _ _ _ _⟩
  · obtain ⟨e1, e2⟩ := place_not (by simpa using hp : placeB c l lsn = false)
    rw [e1, e2]
    have hp2 : ¬ (rightB c = true ∧ (l.length : Int) = c.log ∧ 0 ≤ lsn ∧ lsn ≤ 281474976710656) := by rw [← placeB_iff]; exact hp
    have CF := Lib.hid (show checkF c = if rightB c = true then 0 else 1 from rfl)
    unfold confV at *
    generalize checkF c = ck at *
    generalize rightB c = rb at *
    generalize c.log = z1 at *
    generalize c.pages = z2 at *
    generalize c.ents = z3 at *
    generalize c.gens = z4 at *
    generalize c.l.length = nu at *
    generalize l.length = n at *
    clear hp e1 e2 hat hv NP hl
    by_cases hr : rb = true
    · have hc : ck = 0 := by rw [CF.out, if_pos hr]
      subst hr hc
      by_cases h1 : (n : Int) = z1
      · subst h1
        by_cases h2 : lsn < 0
        · go_enter Try.func12, Try.ntmps12
          (go_upto_region 1 with fail; refine wp_world (S := fun X => HSt w X _ _ _ _ _ _ _ _ _) (HSt.mk_ w _ _ _ _ _ _ _ _ _) ?_; intro X hX; have HX := Lib.hid hX; clear hX; obtain ⟨c0, c1, c2, c3, c4, cf⟩ := cells5 HX.out.1; go_wp2_with fail; refine (CK.out _ HX.out.keep).mono ?_; rintro e w1 ⟨rfl, hb1⟩; have H1 := Lib.hid (HX.out.below hb1); clear hb1 c0 c1 c2 c3 c4 cf; obtain ⟨c0, c1, c2, c3, c4, cf⟩ := cells5 H1.out.1; obtain ⟨r0, r1, r2, r3, rf⟩ := cells4 H1.out.2.1; go_wp2; refine bodyPost_ret (results_seal rfl _ _ (w.heap.size + 1) _ _ _ _ rfl (stored4 H1.out.2.1 _ _ _ _) _ rfl) rfl ?_; exact ⟨none, 0, 0, rfl, By.nil _ _, H1.out.zeroed _ _ _ _⟩)
        · have h3 : 281474976710656 < lsn := by
            rcases Int.lt_or_le 281474976710656 lsn with h | h
            · exact h
            · exact absurd ⟨rfl, rfl, by omega, h⟩ hp2
          go_enter Try.func12, Try.ntmps12
          (go_upto_region 1 with fail; refine wp_world (S := fun X => HSt w X _ _ _ _ _ _ _ _ _) (HSt.mk_ w _ _ _ _ _ _ _ _ _) ?_; intro X hX; have HX := Lib.hid hX; clear hX; obtain ⟨c0, c1, c2, c3, c4, cf⟩ := cells5 HX.out.1; go_wp2_with fail; refine (CK.out _ HX.out.keep).mono ?_; rintro e w1 ⟨rfl, hb1⟩; have H1 := Lib.hid (HX.out.below hb1); clear hb1 c0 c1 c2 c3 c4 cf; obtain ⟨c0, c1, c2, c3, c4, cf⟩ := cells5 H1.out.1; obtain ⟨r0, r1, r2, r3, rf⟩ := cells4 H1.out.2.1; go_wp2; refine bodyPost_ret (results_seal rfl _ _ (w.heap.size + 1) _ _ _ _ rfl (stored4 H1.out.2.1 _ _ _ _) _ rfl) rfl ?_; exact ⟨none, 0, 0, rfl, By.nil _ _, H1.out.zeroed _ _ _ _⟩)
      · go_enter Try.func12, Try.ntmps12
        (go_upto_region 1 with fail; refine wp_world (S := fun X => HSt w X _ _ _ _ _ _ _ _ _) (HSt.mk_ w _ _ _ _ _ _ _ _ _) ?_; intro X hX; have HX := Lib.hid hX; clear hX; obtain ⟨c0, c1, c2, c3, c4, cf⟩ := cells5 HX.out.1; go_wp2_with fail; refine (CK.out _ HX.out.keep).mono ?_; rintro e w1 ⟨rfl, hb1⟩; have H1 := Lib.hid (HX.out.below hb1); clear hb1 c0 c1 c2 c3 c4 cf; obtain ⟨c0, c1, c2, c3, c4, cf⟩ := cells5 H1.out.1; obtain ⟨r0, r1, r2, r3, rf⟩ := cells4 H1.out.2.1; go_wp2; refine bodyPost_ret (results_seal rfl _ _ (w.heap.size + 1) _ _ _ _ rfl (stored4 H1.out.2.1 _ _ _ _) _ rfl) rfl ?_; exact ⟨none, 0, 0, rfl, By.nil _ _, H1.out.zeroed _ _ _ _⟩)
    · have hc : ck = 1 := by rw [CF.out, if_neg hr]
      subst hc
      go_enter Try.func12, Try.ntmps12
      (go_upto_region 1 with fail; refine wp_world (S := fun X => HSt w X _ _ _ _ _ _ _ _ _) (HSt.mk_ w _ _ _ _ _ _ _ _ _) ?_; intro X hX; have HX := Lib.hid hX; clear hX; obtain ⟨c0, c1, c2, c3, c4, cf⟩ := cells5 HX.out.1; go_wp2_with fail; refine (CK.out _ HX.out.keep).mono ?_; rintro e w1 ⟨rfl, hb1⟩; have H1 := Lib.hid (HX.out.below hb1); clear hb1 c0 c1 c2 c3 c4 cf; obtain ⟨c0, c1, c2, c3, c4, cf⟩ := cells5 H1.out.1; obtain ⟨r0, r1, r2, r3, rf⟩ := cells4 H1.out.2.1; go_wp2; refine bodyPost_ret (results_seal rfl _ _ (w.heap.size + 1) _ _ _ _ rfl (stored4 H1.out.2.1 _ _ _ _) _ rfl) rfl ?_; exact ⟨none, 0, 0, rfl, By.nil _ _, H1.out.zeroed _ _ _ _⟩)
set_option maxHeartbeats 2000000 in
theorem glog_any (c : Cf) (u : Value) (F : Nat → Prop) (lsn : Int) (w : World) (hu : CL w F u c.l) (hs : ∀ x ∈ c.l, x.nm.size ≤ 4611686018427387904) (hr : rightB c = true) (h0 : 0 ≤ lsn) (h1 : lsn ≤ 281474976710656) :
    Calls Try.prog 41 #[confV c u, .int .i64 lsn] w fun e w' => e = .returned (.int .i64 (2 + lsn % c.log)) ∧ Below w.heap.size w w' := by
  have CK := Lib.hid (fun W (hk : Keep (fun _ => False) w W) => rright_any c u F W (hu.same hk) hs)
  have PL := Lib.hid (fun W => gplace_any lsn W)
  have hsz : sizesOk c := (of_decide_eq_true hr).1
  obtain ⟨⟨g1, g2⟩, -⟩ := hsz
  rw [decide_eq_true (show 0 ≤ lsn ∧ lsn ≤ 281474976710656 from ⟨h0, h1⟩)] at PL
  rw [hr] at CK
  obtain ⟨Au, cu, rfl, hu1, hu2, -⟩ := hu
  unfold confV at *
  have EM := Lib.hid (show lsn % c.log = lsn - lsn.tdiv c.log * c.log by rw [Int.tdiv_eq_ediv_of_nonneg h0, Int.mul_comm]; exact Int.emod_def lsn c.log)
  have q1 : 0 ≤ lsn.tdiv c.log := Int.tdiv_nonneg h0 (by omega)
  have q3 : 0 ≤ lsn.tdiv c.log * c.log := Int.mul_nonneg q1 (by omega)
  have q4 : lsn.tdiv c.log * c.log ≤ lsn := by
    have := Int.emod_nonneg lsn (show c.log ≠ 0 by omega)
    have := EM.out; omega
  have q2 : lsn.tdiv c.log ≤ lsn := by
    have : lsn.tdiv c.log * 1 ≤ lsn.tdiv c.log * c.log := Int.mul_le_mul_of_nonneg_left (by omega) q1
    omega
  clear hu1 hr hs
  generalize c.log = z1 at *
  generalize c.pages = z2 at *
  generalize c.ents = z3 at *
  generalize c.gens = z4 at *
  generalize c.l.length = nu at *
  rw [EM.out]
  have z0 : ¬ z1 = 0 := by omega
  have e1 : IntKind.i64.wrap (2 + lsn) = 2 + lsn := IntWalk.i64_in _ (by omega)
  have e2 : IntKind.i64.wrap (lsn.tdiv z1) = lsn.tdiv z1 := IntWalk.i64_in _ (by omega)
  have e3 : IntKind.i64.wrap (lsn.tdiv z1 * z1) = lsn.tdiv z1 * z1 := IntWalk.i64_in _ (by omega)
  have e4 : IntKind.i64.wrap (2 + lsn - lsn.tdiv z1 * z1) = 2 + lsn - lsn.tdiv z1 * z1 := IntWalk.i64_in _ (by omega)
  go_enter Try.func41, Try.ntmps41
  go_upto_region 1 with fail
  refine wp_world (S := fun X => X.heap[w.heap.size]? = some (.cells #[.int .i64 z1, .int .i64 z2, .int .i64 z3, .int .i64 z4, .slice Au nu cu] 24 (0, 0)) ∧ Below w.heap.size w X) ⟨heap_alloc_new w _, (Below.refl _ w).alloc (Nat.le_refl _) _⟩ ?_
  intro X hX
  have HX := Lib.hid hX
  clear hX
  obtain ⟨c0, c1, c2, c3, c4, cf⟩ := cells5 HX.out.1
  go_wp2_with fail
  refine (CK.out _ (Keep.of_below' HX.out.2)).mono ?_
  rintro e w1 ⟨rfl, hb1⟩
  have H1 := Lib.hid (And.intro ((hb1.block w.heap.size (Array.getElem?_eq_some_iff.1 HX.out.1).1).trans HX.out.1) (HX.out.2.trans (hb1.mono HX.out.2.size)))
  clear hb1 c0 c1 c2 c3 c4 cf
  obtain ⟨c0, c1, c2, c3, c4, cf⟩ := cells5 H1.out.1
  go_wp2_with (go_at_call 18; refine (PL.out _).mono ?_; rintro e w' ⟨rfl, rfl⟩)
  go_region
  go_wp2
  go_ret
  exact ⟨ret_int (by omega), H1.out.2.drew⟩
set_option maxHeartbeats 4000000 in
theorem rhas_any (c : Cf) (u : Value) (F : Nat → Prop) (l : List (List UInt8)) (v : Value) (G : Nat → Prop) (lsn : Int) (w : World) (hu : CL w F u c.l) (hv : Bys w G v l) (hs0 : ∀ x ∈ c.l, x.nm.size ≤ 4611686018427387904) :
    Calls Try.prog 13 #[confV c u, v, .int .i64 lsn] w (SealPost w (hasF c l lsn) (hasB c l lsn)) := by
  have CK := Lib.hid (fun W (hk : Keep (fun _ => False) w W) => rright_any c u F W (hu.same hk) hs0)
  have PL := Lib.hid (fun W => gplace_any lsn W)
  obtain ⟨A, cap, rfl, hlc, hcm, hat⟩ := hv.form
  unfold maxLen at hcm
  have hu9 := hu
  obtain ⟨Au, cu, rfl, hu1, hu2, -⟩ := hu
  have NP := Lib.hid (fun (h : ¬ (rightB c = true ∧ (l.length : Int) = c.log ∧ 0 ≤ lsn ∧ lsn ≤ 281474976710656)) => place_not (c := c) (l := l) (lsn := lsn) (by rw [Bool.eq_false_iff, Ne, placeB_iff]; exact h))
  by_cases hp : placeB c l lsn = true
  · obtain ⟨p1, p2, p3, p4⟩ := placeB_iff.1 hp
    have hsz : sizesOk c := (of_decide_eq_true p1).1
    obtain ⟨⟨g1, g2⟩, -⟩ := hsz
    obtain ⟨k, hk1, hk2, hk3⟩ := sct_in p2 p3 g1
    obtain ⟨b, o, x, rfl, hx, hy⟩ := hat k hk2
    have hs : sctAt c l lsn = l.getD k [] := by unfold sctAt; rw [hk3]
    have HO := Lib.hid (has_of hp hs)
    have HF := Lib.hid (show hasB c l lsn = true → hasF c l lsn = valOf (l.getD k []) from fun h => by rw [hasF_yes h, hs])
    have HN := Lib.hid (show hasB c l lsn = false → hasF c l lsn = zeroS from hasF_no)
    have hll : lsn % c.log = (k : Int) := by have := Int.emod_nonneg lsn (show c.log ≠ 0 by omega); omega
    have LG := Lib.hid (fun W (hk : Keep (fun _ => False) w W) => glog_any c _ F lsn W (hu9.same hk) hs0 p1 p3 p4)
    rw [hll] at LG
    have SG := Lib.hid (fun W (hk : Keep (fun _ => False) w W) => refGetS_any (l.getD k []) x G W (hy.keep hk (fun _ _ _ h => h)))
    have GN := Lib.hid (sgot_no (s := l.getD k []))
    have GY := Lib.hid (sgot_yes (s := l.getD k []))
    rw [p1] at CK
    rw [decide_eq_true (show 0 ≤ lsn ∧ lsn ≤ 281474976710656 from ⟨p3, p4⟩)] at PL
    have f2 : c.log = (l.length : Int) := p2.symm
    unfold confV at *
    rw [f2] at hk1 g1 g2 CK LG ⊢
    have f0 : ¬ lsn < 0 := by omega
    have f00 : ¬ 281474976710656 < lsn := by omega
    have f3 : ¬ (l.length : Int) = 0 := by omega
    have f5 : (0 : Int) ≤ (k : Int) := by omega
    have f6 : (k : Int) < (l.length : Int) := by omega
    have XC := Lib.hid hx
    obtain ⟨Ax, cx, rfl, -⟩ := hy
    have n2 : (2 : Int) ≤ (k : Int) + 2 := by omega
    have e1 : IntKind.i64.wrap (2 + (k : Int) - 2) = (k : Int) := by rw [IntWalk.i64_in _ (by omega)]; omega
    clear hat hv hu9 hs0 hll hp p1 p2 hs hk3 NP hu1 f2
    generalize (l.getD k []).length = m at *
    generalize valOf (l.getD k []) = y at *
    generalize okS (l.getD k []) = ok at *
    generalize gotS (l.getD k []) = got at *
    generalize hasF c l lsn = hf at *
    generalize hasB c l lsn = hb at *
    generalize c.pages = z2 at *
    generalize c.ents = z3 at *
    generalize c.gens = z4 at *
    generalize c.l.length = nu at *
    generalize l.length = n at *
    clear l c
    go_enter Try.func13, Try.ntmps13
    go_upto_region 1 with fail
    refine wp_world (S := fun X => HSt w X _ _ _ _ _ _ _ _ _) (HSt.mk_ w _ _ _ _ _ _ _ _ _) ?_
    intro X hX
    have HX := Lib.hid hX
    clear hX
    obtain ⟨c0, c1, c2, c3, c4, cf⟩ := cells5 HX.out.1
    go_wp2_with fail
    refine (CK.out _ HX.out.keep).mono ?_
    rintro e w1 ⟨rfl, hb1⟩
    have H1 := Lib.hid (HX.out.below hb1)
    clear hb1 c0 c1 c2 c3 c4 cf
    obtain ⟨c0, c1, c2, c3, c4, cf⟩ := cells5 H1.out.1
    have x1 := H1.out.keep.cell (fun h => h) XC.out
    clear x1
    go_wp2_with (go_at_call 18; refine (PL.out _).mono ?_; rintro e w' ⟨rfl, rfl⟩)
    refine (LG.out _ H1.out.keep).mono ?_
    rintro e w1b ⟨rfl, hb1b⟩
    have H1b := Lib.hid (H1.out.below hb1b)
    clear hb1b c0 c1 c2 c3 c4 cf H1
    have H1 := H1b
    clear H1b
    obtain ⟨c0, c1, c2, c3, c4, cf⟩ := cells5 H1.out.1
    have x1 := H1.out.keep.cell (fun h => h) XC.out
    go_wp2_with fail
    refine (SG.out _ H1.out.keep).mono ?_
    rintro e w2 ⟨A2, n2, c2', rfl, hy2, hb2⟩
    have H2 := Lib.hid (H1.out.below hb2)
    have Y2 := Lib.hid (And.intro hy2 hb2)
    clear hy2 hb2 c0 c1 c2 c3 c4 cf x1
    go_upto_region 4 with fail
    refine wp_world (S := fun X => HGt w X w2.heap.size _ _ _ _ _ _ _ _ _ _ _ _ _ ∧ By X (fun b => w.heap.size ≤ b ∧ b ≠ w.heap.size + 1) (.slice A2 n2 c2') got.bd) ⟨H2.out.got _ _ _ _, (Y2.out.1.keep ((Keep.refl (fun _ => False) w2).alloc _) (fun _ _ _ h => h)).mono (fun b _ h => by have := H1.out.lt; omega)⟩ ?_
    rintro Y ⟨hY, hyb⟩
    have HY := Lib.hid hY
    have YB := Lib.hid hyb
    clear hY hyb
    obtain ⟨q0, q1, q2, q3, qf⟩ := cells4 HY.out.2.2
    obtain ⟨r0, r1, r2, r3, rf⟩ := cells4 HY.out.1.2.1
    have hzero := HSt.zeroed HY.out.1
    generalize hq : w2.heap.size = q at *
    rcases Bool.eq_false_or_eq_true ok with rfl | rfl
    · have eg := GY.out rfl
      subst eg
      by_cases k1 : got.kd = 1
      · by_cases k2 : got.no = lsn
        · have eb : hb = true := by rw [HO.out, decide_eq_true k1, decide_eq_true k2]; rfl
          have eh := HF.out eb
          subst eb eh
          go_wp2
          refine bodyPost_ret (results_seal rfl _ _ (w.heap.size + 1) _ _ _ _ rfl (stored4 HY.out.1.2.1 _ _ _ _) _ rfl) rfl ?_
          exact ⟨A2, n2, c2', by rw [k1, k2]; rfl, (YB.out.keep (keepS4 _ _ _ _ _ _) (fun b _ h e => h.2 e)).mono (fun b _ h => h.1), hzero _ _ _ _⟩
        · have eb : hb = false := by rw [HO.out, decide_eq_false k2, Bool.and_false, Bool.and_false]
          have eh := HN.out eb
          subst eb eh
          go_wp2
          refine bodyPost_ret (results_seal rfl _ _ (w.heap.size + 1) _ _ _ _ rfl (stored4 HY.out.1.2.1 _ _ _ _) _ rfl) rfl ?_
          exact ⟨none, 0, 0, rfl, By.nil _ _, hzero _ _ _ _⟩
      · have eb : hb = false := by rw [HO.out, decide_eq_false k1, Bool.false_and, Bool.and_false]
        have eh := HN.out eb
        subst eb eh
        go_wp2
        refine bodyPost_ret (results_seal rfl _ _ (w.heap.size + 1) _ _ _ _ rfl (stored4 HY.out.1.2.1 _ _ _ _) _ rfl) rfl ?_
        exact ⟨none, 0, 0, rfl, By.nil _ _, hzero _ _ _ _⟩
    · have eb : hb = false := by rw [HO.out]; rfl
      have eh := HN.out eb
      subst eb eh
      go_wp2
      refine bodyPost_ret (results_seal rfl _ _ (w.heap.size + 1) _ _ _ _ rfl (stored4 HY.out.1.2.1 _ _ _ _) _ rfl) rfl ?_
      exact ⟨none, 0, 0, rfl, By.nil _ _, hzero _ _ _ _⟩
  · obtain ⟨e1, e2⟩ := place_not (by simpa using hp : placeB c l lsn = false)
    rw [e1, e2]
    have hp2 : ¬ (rightB c = true ∧ (l.length : Int) = c.log ∧ 0 ≤ lsn ∧ lsn ≤ 281474976710656) := by rw [← placeB_iff]; exact hp
    have PF := Lib.hid (fun (h : ¬ (0 ≤ lsn ∧ lsn ≤ 281474976710656)) => decide_eq_false h)
    unfold confV at *
    generalize rightB c = rb at *
    generalize c.log = z1 at *
    generalize c.pages = z2 at *
    generalize c.ents = z3 at *
    generalize c.gens = z4 at *
    generalize c.l.length = nu at *
    generalize l.length = n at *
    clear hp e1 e2 hat hv NP hu9 hs0
    by_cases hr : rb = true
    · subst hr
      by_cases h1 : (n : Int) = z1
      · subst h1
        rw [PF.out (fun h => hp2 ⟨rfl, rfl, h⟩)] at PL
        go_enter Try.func13, Try.ntmps13
        (go_upto_region 1 with fail; refine wp_world (S := fun X => HSt w X _ _ _ _ _ _ _ _ _) (HSt.mk_ w _ _ _ _ _ _ _ _ _) ?_; intro X hX; have HX := Lib.hid hX; clear hX; obtain ⟨c0, c1, c2, c3, c4, cf⟩ := cells5 HX.out.1; go_wp2_with fail; refine (CK.out _ HX.out.keep).mono ?_; rintro e w1 ⟨rfl, hb1⟩; have H1 := Lib.hid (HX.out.below hb1); clear hb1 c0 c1 c2 c3 c4 cf; obtain ⟨c0, c1, c2, c3, c4, cf⟩ := cells5 H1.out.1; obtain ⟨r0, r1, r2, r3, rf⟩ := cells4 H1.out.2.1; go_wp2_with (go_at_call 18; refine (PL.out _).mono ?_; rintro e w' ⟨rfl, rfl⟩); refine bodyPost_ret (results_seal rfl _ _ (w.heap.size + 1) _ _ _ _ rfl (stored4 H1.out.2.1 _ _ _ _) _ rfl) rfl ?_; exact ⟨none, 0, 0, rfl, By.nil _ _, H1.out.zeroed _ _ _ _⟩)
      · go_enter Try.func13, Try.ntmps13
        (go_upto_region 1 with fail; refine wp_world (S := fun X => HSt w X _ _ _ _ _ _ _ _ _) (HSt.mk_ w _ _ _ _ _ _ _ _ _) ?_; intro X hX; have HX := Lib.hid hX; clear hX; obtain ⟨c0, c1, c2, c3, c4, cf⟩ := cells5 HX.out.1; go_wp2_with fail; refine (CK.out _ HX.out.keep).mono ?_; rintro e w1 ⟨rfl, hb1⟩; have H1 := Lib.hid (HX.out.below hb1); clear hb1 c0 c1 c2 c3 c4 cf; obtain ⟨c0, c1, c2, c3, c4, cf⟩ := cells5 H1.out.1; obtain ⟨r0, r1, r2, r3, rf⟩ := cells4 H1.out.2.1; go_wp2_with (go_at_call 18; refine (PL.out _).mono ?_; rintro e w' ⟨rfl, rfl⟩); refine bodyPost_ret (results_seal rfl _ _ (w.heap.size + 1) _ _ _ _ rfl (stored4 H1.out.2.1 _ _ _ _) _ rfl) rfl ?_; exact ⟨none, 0, 0, rfl, By.nil _ _, H1.out.zeroed _ _ _ _⟩)
    · have hr2 : rb = false := by simpa using hr
      subst hr2
      go_enter Try.func13, Try.ntmps13
      (go_upto_region 1 with fail; refine wp_world (S := fun X => HSt w X _ _ _ _ _ _ _ _ _) (HSt.mk_ w _ _ _ _ _ _ _ _ _) ?_; intro X hX; have HX := Lib.hid hX; clear hX; obtain ⟨c0, c1, c2, c3, c4, cf⟩ := cells5 HX.out.1; go_wp2_with fail; refine (CK.out _ HX.out.keep).mono ?_; rintro e w1 ⟨rfl, hb1⟩; have H1 := Lib.hid (HX.out.below hb1); clear hb1 c0 c1 c2 c3 c4 cf; obtain ⟨c0, c1, c2, c3, c4, cf⟩ := cells5 H1.out.1; obtain ⟨r0, r1, r2, r3, rf⟩ := cells4 H1.out.2.1; go_wp2_with (go_at_call 18; refine (PL.out _).mono ?_; rintro e w' ⟨rfl, rfl⟩); refine bodyPost_ret (results_seal rfl _ _ (w.heap.size + 1) _ _ _ _ rfl (stored4 H1.out.2.1 _ _ _ _) _ rfl) rfl ?_; exact ⟨none, 0, 0, rfl, By.nil _ _, H1.out.zeroed _ _ _ _⟩)
end Go.Proofs.Ytfjgbnnjfapcmaa

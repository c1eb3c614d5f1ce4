/- The walk of vivariumlaw17.PartMixed: it returns true, old memory unchanged. -/
import Derived.Test.YtakchlaoimnnhaaPartL
import Derived.Test.YtakchlaoimnnhaaPartMA
import Derived.Test.YtakchlaoimnnhaaPartJoinsW
import Derived.Deep.RegionHeld3
import Derived.Deep.DeepCutAuto
namespace Go.Proofs.Ytakchlaoimnnhaa
open Go.RowKit
set_option maxRecDepth 100000
set_option linter.unusedVariables false

theorem pieces_short {s n : Nat} {b : List UInt8} {r : List UInt8} (h : r ∈ pieces s b n) : r.length ≤ 472 := by
  unfold pieces at h
  obtain ⟨i, _, rfl⟩ := List.mem_map.1 h
  rw [List.length_append, hdrB_len, chunk_len]; omega
theorem short_one (k n s : Nat) (b : List UInt8) : (hdrB k n s ++ chunk b k).length ≤ 472 := by
  rw [List.length_append, hdrB_len, chunk_len]; omega
theorem set_short {Z : List (List UInt8)} {i : Nat} {q : List UInt8} (h : ∀ r ∈ Z, r.length ≤ 472) (hq : q.length ≤ 472) : ∀ r ∈ Z.set i q, r.length ≤ 472 := fun r hr => by
  rcases List.mem_or_eq_of_mem_set hr with h1 | rfl
  · exact h r h1
  · exact hq
theorem cut_short {Z : List (List UInt8)} {i j : Nat} (h : ∀ r ∈ Z, r.length ≤ 472) : ∀ r ∈ Z.take i ++ Z.drop j, r.length ≤ 472 := fun r hr => by
  rcases List.mem_append.1 hr with h1 | h1
  · exact h r (List.mem_of_mem_take h1)
  · exact h r (List.mem_of_mem_drop h1)
theorem nojoin (Z : List (List UInt8)) (v : Value) (F : Nat → Prop) (W : World) (hv : Bys W F v Z) (hj : joinOk Z = false) (hs : ∀ r ∈ Z, r.length ≤ 472) (hl : Z.length ≤ 1024) :
    Calls Try.prog 19 #[v] W fun e w' => (∃ A n c, e = .returned (.tuple #[.int .i64 0, .slice A n c, .bool false])) ∧ Keep (fun _ => False) W w' := by
  refine (pjoin_any Z v F W hv (by have := joinB_len hs; omega) (by omega) (fun r hr => by have := hs r hr; omega)).mono ?_
  rintro e w' ⟨A, n, c, rfl, _, hb⟩
  rw [hj]
  exact ⟨⟨A, n, c, rfl⟩, Keep.of_below' hb⟩
theorem by_form {w : World} {F : Nat → Prop} {u : Value} {l : List UInt8} (h : By w F u l) : ∃ A n c, u = .slice A n c := by
  obtain ⟨A, c, rfl, _⟩ := h
  exact ⟨_, _, _, rfl⟩
theorem Own.setAt {w : World} {base n c g : Nat} {e : TypeId} {xs : List Value} (h : Own w base e 1 (.slice (some ⟨g, 0, none⟩) n c) n xs) (hn : 0 < n) (i : Nat) (u : Value) : Own (w.setCell ⟨g, i, none⟩ u) base e 1 (.slice (some ⟨g, 0, none⟩) n c) n (xs.set i u) := by
  obtain ⟨g', e1, _, _, _, _, h5⟩ := h.cells_ hn
  injection e1 with e1
  injection e1 with e1
  subst e1
  exact h5 i u
theorem wf_u16 {a : Int} (h : (Lit.int .u16 a).wf = true) : ∃ n : Nat, a = n ∧ n < 65536 := by
  have h1 : 0 ≤ a ∧ a ≤ 65535 := by simpa [Lit.wf, IntKind.min, IntKind.max, IntKind.signed, IntKind.bits] using h
  exact ⟨a.toNat, by omega, by omega⟩
theorem wf_u8n {a : Int} (h : (Lit.int .u8 a).wf = true) : ∃ n : Nat, a = n ∧ n < 256 := by
  have h1 := wf_u8 h
  exact ⟨a.toNat, by omega, by omega⟩
theorem need_2000 {n : Nat} (h : n ≤ 2000) : 1 ≤ need n ∧ need n ≤ 5 := by unfold need; split <;> omega

set_option maxHeartbeats 4000000 in
theorem partMixed_walk (a b : List UInt8) (va vb : Value) (s t k : Nat) (F G : Nat → Prop) (w : World) (ha : By w F va a) (hb : By w G vb b) (hs : s < 65536) (ht : t < 65536) (hk : k < 256) :
    Calls Try.prog 5 #[va, vb, .int .u16 s, .int .u16 t, .int .u8 k] w fun e w' => e = .returned (.bool true) ∧ Below w.heap.size w w' := by
  have ha0 := ha
  have hb0 := hb
  obtain ⟨A1, c1, rfl, -, hcm1, -, -⟩ := ha
  obtain ⟨A2, c2, rfl, -, hcm2, -, -⟩ := hb
  by_cases hbig : 2000 < a.length ∨ (a.length ≤ 2000 ∧ 2000 < b.length)
  · clear ha0 hb0
    generalize a.length = la at *
    generalize b.length = lb at *
    rcases hbig with hbig | ⟨hb1, hb2⟩
    all_goals
      go_enter Try.func5, Try.ntmps5
      go_wp2_with (go_at_call 15; refine (live17 _).mono ?_; rintro e w4 ⟨rfl, hb4⟩)
      go_ret
      exact ⟨rfl, hb4⟩
  have hal : a.length ≤ 2000 := by omega
  have hbl : b.length ≤ 2000 := by omega
  clear hbig
  obtain ⟨n, hn⟩ : ∃ n, need a.length = n := ⟨_, rfl⟩
  obtain ⟨m, hm⟩ : ∃ m, need b.length = m := ⟨_, rfl⟩
  obtain ⟨n1, n5⟩ := need_2000 hal
  obtain ⟨m1, m5⟩ := need_2000 hbl
  rw [hn] at n1 n5
  rw [hm] at m1 m5
  have SA := Lib.hid (psplit_any s a _ F w ha0 (by omega))
  have SB := Lib.hid (fun W (hk : Keep (fun _ => False) w W) => psplit_any t b _ G W (hb0.keep hk (fun _ _ _ h => h)) (by omega))
  rw [splitL_of (by omega) hn (by omega)] at SA
  rw [splitL_of (by omega) hm (by omega)] at SB
  have LIV := Lib.hid live17
  obtain ⟨is, his, hs0, hs1, hs2⟩ := info_parts info_bytes
  obtain ⟨i, hi⟩ : ∃ i, k % n = i := ⟨_, rfl⟩
  have hin : i < n := hi ▸ Nat.mod_lt _ (by omega)
  have hmod : Int.tmod (k : Int) (n : Int) = (i : Int) := by rw [← hi]; rfl
  have NL := Lib.hid (less_not (s := s) (b := a) (by omega) hin (by omega))
  have hn0 : ((n : Int) == 0) = false := by rw [beq_eq_false_iff_ne]; omega
  have hm0 : ((m : Int) == 0) = false := by rw [beq_eq_false_iff_ne]; omega
  clear ha0 hb0 hi hn hm
  generalize a.length = la at *
  generalize b.length = lb at *
  go_enter Try.func5, Try.ntmps5
  go_wp2_with fail
  refine SA.out.mono ?_
  rintro e w1 ⟨u1, rfl, hl1, hb1⟩
  obtain ⟨cs1, ho1, hz1⟩ := hl1.open_
  rw [pieces_len] at ho1
  obtain ⟨Ax, cx, rfl, -⟩ := ho1.form
  obtain ⟨gx, rfl, -⟩ := ho1.cells_ (by omega)
  have H1 := Lib.hid (And.intro ho1 (And.intro hz1 hb1))
  have hw01 := hb1.size
  clear ho1 hz1 hb1 hl1
  go_wp2_with fail
  refine (SB.out _ (Keep.of_below' H1.out.2.2)).mono ?_
  rintro e w2 ⟨u2, rfl, hl2, hb2⟩
  obtain ⟨cs2, ho2, hz2⟩ := hl2.open_
  rw [pieces_len] at ho2
  obtain ⟨Ay, cy, rfl, -⟩ := ho2.form
  obtain ⟨gy, rfl, -⟩ := ho2.cells_ (by omega)
  have K12 := Lib.hid (Keep.of_below' hb2)
  have H2 := Lib.hid (And.intro (And.intro (H1.out.1.keep K12.out (fun _ _ h => h)) (H1.out.2.1.keep K12.out (fun _ _ _ h => h))) (And.intro (And.intro ho2 hz2) ((Keep.of_below' H1.out.2.2).trans K12.out (fun _ _ h => h))))
  clear ho2 hz2 hb2 hl2 H1 K12
  go_upto_region 7 with fail
  go_cut [14, 15, 16] (fun _ _ l wc => l = .bool false ∧ Keep (fun _ => False) w2 wc)
  case first =>
    have S1 := Lib.hid (fun W (hk : Keep (fun _ => False) w2 W) => src_take H2.out.1.1 H2.out.1.2 (Nat.le_of_lt hin) hk)
    have hncx : n ≤ cx := by obtain ⟨_, _, _, e, h, _⟩ := H2.out.1.1; injection e with e1 e2 e3; omega
    have p1 : (0 : Int) ≤ (i : Int) := by omega
    have p2 : (i : Int) ≤ (cx : Int) := by omega
    have p3 : (0 : Int) ≤ (i : Int) + 1 := by omega
    have p4 : (i : Int) + 1 ≤ (n : Int) := by omega
    have p5 : (n : Int) ≤ (cx : Int) := by omega
    have pw : IntKind.i64.wrap ((i : Int) + 1) = (i : Int) + 1 := IntWalk.i64_in _ (by omega)
    have pt : ((i : Int) + 1).toNat = i + 1 := by omega
    by_cases hc : cx = i + 1
    · have hni : n = i + 1 := by omega
      have hdr : cs1.drop (i + 1) = [] := List.drop_eq_nil_of_le (by have := H2.out.1.1.1; omega)
      have NOJ := Lib.hid (fun W v (h : Own W w2.heap.size 22 1 v (i + (n - (i + 1))) ([] ++ cs1.take i ++ cs1.drop (i + 1))) (hb : Below w2.heap.size w2 W) => nojoin ((pieces s a n).take i ++ (pieces s a n).drop (i + 1)) v (fun b => w.heap.size ≤ b) W
        ((((H2.out.1.2.take i).append (H2.out.1.2.drop (i + 1))).keep (Keep.of_below' hb) (fun _ _ _ h => h)).bys (by
          have hl := h.sl
          rw [List.nil_append] at hl
          rw [List.length_append, List.length_take, List.length_drop, pieces_len, show min i n + (n - (i + 1)) = i + (n - (i + 1)) by omega]
          exact hl) (fun b _ h => by have := H2.out.2.2.size; omega)) NL.out (cut_short (fun _ h => pieces_short h)) (by rw [List.length_append, List.length_take, List.length_drop, pieces_len]; omega))
      rw [hc] at S1
      have p2a : (i : Int) ≤ (i : Int) + 1 := by omega
      have p2b : (i : Int) ≤ ((i + 1 : Nat) : Int) := by omega
      have p5a : (n : Int) ≤ (i : Int) + 1 := by omega
      have p5b : (n : Int) ≤ ((i + 1 : Nat) : Int) := by omega
      have S2 := Lib.hid (show ∀ W A c', Src Try.prog 1 24 (.slice A (n - (i + 1)) c') (n - (i + 1)) (cs1.drop (i + 1)) W from fun W A c' => by rw [hdr, show n - (i + 1) = 0 by omega]; exact src_none)
      clear SA SB LIV hdr hni
      go_region_held3 (fun _ => True) (trivial) (first
        | (go_at_call 19; refine (NOJ.out _ _ HG.out.1 HG.out.2).mono ?_; rintro e w7 ⟨⟨A7, n7, c7, rfl⟩, hk7⟩)
        | (refine step_append_gen _ (by rfl) (.tmp 57) (.tmp 60) _ _ rfl w2.heap.size 22 is _ 1 24 Try.underlying24 his hs0 hs1 hs2 rfl (.slice (some ⟨w2.heap.size, 0, none⟩) 0 0) 0 [] (by rfl) (by exact Own.none_ _ _ _ _ _) _ i _ (by rfl) (S1.out _ (by exact (by repeat first | exact Keep.refl _ _ | refine Keep.alloc ?_ _ | refine Keep.drew ?_ | refine Keep.drewN ?_ _))) (by unfold maxLen; omega) (by omega) (by simp) ?_; intro v5 w5 ho5 hk5 _; obtain ⟨A5, c5, rfl, -⟩ := ho5.form; have HF := Lib.hid (And.intro ho5 (show Keep (fun _ => False) w2 w5 from Keep.trans (by exact (by repeat first | exact Keep.refl _ _ | refine Keep.alloc ?_ _ | refine Keep.drew ?_ | refine Keep.drewN ?_ _)) hk5 (fun x _ h => by simp [ownB] at h))); clear ho5 hk5)
        | (refine step_append_gen _ (by rfl) (.tmp 61) (.tmp 65) _ _ rfl w2.heap.size 22 is _ 1 24 Try.underlying24 his hs0 hs1 hs2 rfl _ (0 + i) ([] ++ cs1.take i) (by rfl) (by exact HF.out.1) _ (n - (i + 1)) (cs1.drop (i + 1)) (by rfl) (by exact S2.out _ _ _) (by unfold maxLen; omega) (by omega) (by exact HF.out.2.size) ?_; intro v6 w6 ho6 hk6 _; obtain ⟨A6, c6, rfl, -⟩ := ho6.form; have HG := Lib.hid (And.intro (show Own w6 w2.heap.size 22 1 (.slice A6 (i + (n - (i + 1))) c6) (i + (n - (i + 1))) ([] ++ cs1.take i ++ cs1.drop (i + 1)) by simpa only [Nat.zero_add] using ho6) (append_below0 HF.out.2.to_below' HF.out.1 hk6)); clear ho6 hk6) | fail)
      go_wp2_with fail
      subst hc
      go_meet
      exact ⟨rfl, (Keep.of_below' HG.out.2).trans hk7 (fun _ _ h => h)⟩
    · have hcx : i + 1 < cx := by omega
      have NOJ := Lib.hid (fun W v (h : Own W w2.heap.size 22 1 v (i + (n - (i + 1))) ([] ++ cs1.take i ++ cs1.drop (i + 1))) (hb : Below w2.heap.size w2 W) => nojoin ((pieces s a n).take i ++ (pieces s a n).drop (i + 1)) v (fun b => w.heap.size ≤ b) W
        ((((H2.out.1.2.take i).append (H2.out.1.2.drop (i + 1))).keep (Keep.of_below' hb) (fun _ _ _ h => h)).bys (by
          have hl := h.sl
          rw [List.nil_append] at hl
          rw [List.length_append, List.length_take, List.length_drop, pieces_len, show min i n + (n - (i + 1)) = i + (n - (i + 1)) by omega]
          exact hl) (fun b _ h => by have := H2.out.2.2.size; omega)) NL.out (cut_short (fun _ h => pieces_short h)) (by rw [List.length_append, List.length_take, List.length_drop, pieces_len]; omega))
      have S2 := Lib.hid (fun W c' (hk : Keep (fun _ => False) w2 W) => src_drop (c' := c') H2.out.1.1 H2.out.1.2 (show i + 1 ≤ n from hin) hk)
      clear SA SB LIV
      go_region_held3 (fun _ => True) (trivial) (first
        | (go_at_call 19; refine (NOJ.out _ _ HG.out.1 HG.out.2).mono ?_; rintro e w7 ⟨⟨A7, n7, c7, rfl⟩, hk7⟩)
        | (refine step_append_gen _ (by rfl) (.tmp 57) (.tmp 60) _ _ rfl w2.heap.size 22 is _ 1 24 Try.underlying24 his hs0 hs1 hs2 rfl (.slice (some ⟨w2.heap.size, 0, none⟩) 0 0) 0 [] (by rfl) (by exact Own.none_ _ _ _ _ _) _ i _ (by rfl) (S1.out _ (by exact (by repeat first | exact Keep.refl _ _ | refine Keep.alloc ?_ _ | refine Keep.drew ?_ | refine Keep.drewN ?_ _))) (by unfold maxLen; omega) (by omega) (by simp) ?_; intro v5 w5 ho5 hk5 _; obtain ⟨A5, c5, rfl, -⟩ := ho5.form; have HF := Lib.hid (And.intro ho5 (show Keep (fun _ => False) w2 w5 from Keep.trans (by exact (by repeat first | exact Keep.refl _ _ | refine Keep.alloc ?_ _ | refine Keep.drew ?_ | refine Keep.drewN ?_ _)) hk5 (fun x _ h => by simp [ownB] at h))); clear ho5 hk5)
        | (refine step_append_gen _ (by rfl) (.tmp 61) (.tmp 65) _ _ rfl w2.heap.size 22 is _ 1 24 Try.underlying24 his hs0 hs1 hs2 rfl _ (0 + i) ([] ++ cs1.take i) (by rfl) (by exact HF.out.1) _ (n - (i + 1)) (cs1.drop (i + 1)) (by first | rfl | (simp [Act.eval]; omega)) (S2.out _ (cx - (i + 1)) (by exact HF.out.2)) (by unfold maxLen; omega) (by omega) (by exact HF.out.2.size) ?_; intro v6 w6 ho6 hk6 _; obtain ⟨A6, c6, rfl, -⟩ := ho6.form; have HG := Lib.hid (And.intro (show Own w6 w2.heap.size 22 1 (.slice A6 (i + (n - (i + 1))) c6) (i + (n - (i + 1))) ([] ++ cs1.take i ++ cs1.drop (i + 1)) by simpa only [Nat.zero_add] using ho6) (append_below0 HF.out.2.to_below' HF.out.1 hk6)); clear ho6 hk6) | fail)
      go_wp2_with fail
      go_meet
      exact ⟨rfl, (Keep.of_below' HG.out.2).trans hk7 (fun _ _ h => h)⟩
  case rest =>
    obtain ⟨rfl, hk3⟩ := hcut
    have K3 := Lib.hid (H2.out.2.2.trans hk3 (fun _ _ h => h))
    have H3 := Lib.hid (And.intro (And.intro (H2.out.1.1.keep hk3 (fun _ _ h => h)) (H2.out.1.2.keep hk3 (fun _ _ _ h => h))) (And.intro (H2.out.2.1.1.keep hk3 (fun _ _ h => h)) (H2.out.2.1.2.keep hk3 (fun _ _ _ h => h))))
    clear hk3 H2 SA SB NL
    obtain ⟨r, hr⟩ : ∃ r, r = decide (i < m ∧ (s ≠ t ∨ n ≠ m) ∧ 1 < n) := ⟨_, rfl⟩
    have R := Lib.hid hr
    clear hr
    go_upto_region 10 with fail
    go_cut [92] (fun v wx => v = .bool r ∧ wx = wc)
    case first =>
      clear hmod hn0 hm0
      by_cases h1 : i < m
      · by_cases h2 : s = t
        · subst h2
          have e2 : ((s : Int) != (s : Int)) = false := by simp
          by_cases h3 : n = m
          · subst h3
            have e3 : ((n : Int) != (n : Int)) = false := by simp
            obtain rfl : r = false := by rw [R.out]; simp
            go_wp2_with fail
            go_meet
            exact ⟨by first | rfl | exact congrArg Value.bool (decide_eq_true (by omega)) | exact congrArg Value.bool (decide_eq_false (by omega)), rfl⟩
          · have e3 : ((n : Int) != (m : Int)) = true := by simp; omega
            clear h3
            by_cases h4 : 1 < n
            · obtain rfl : r = true := by rw [R.out]; simp at e3; simp; omega
              go_wp2_with fail
              go_meet
              exact ⟨by first | rfl | exact congrArg Value.bool (decide_eq_true (by omega)) | exact congrArg Value.bool (decide_eq_false (by omega)), rfl⟩
            · obtain rfl : r = false := by rw [R.out]; simp; omega
              go_wp2_with fail
              go_meet
              exact ⟨by first | rfl | exact congrArg Value.bool (decide_eq_true (by omega)) | exact congrArg Value.bool (decide_eq_false (by omega)), rfl⟩
        · have e2 : ((s : Int) != (t : Int)) = true := by simp; omega
          by_cases h4 : 1 < n
          · obtain rfl : r = true := by rw [R.out]; simp; omega
            clear h2
            go_wp2_with fail
            go_meet
            exact ⟨by first | rfl | exact congrArg Value.bool (decide_eq_true (by omega)) | exact congrArg Value.bool (decide_eq_false (by omega)), rfl⟩
          · obtain rfl : r = false := by rw [R.out]; simp; omega
            clear h2
            go_wp2_with fail
            go_meet
            exact ⟨by first | rfl | exact congrArg Value.bool (decide_eq_true (by omega)) | exact congrArg Value.bool (decide_eq_false (by omega)), rfl⟩
      · obtain rfl : r = false := by rw [R.out]; simp; omega
        go_wp2_with fail
        go_meet
        exact ⟨by first | rfl | exact congrArg Value.bool (decide_eq_true (by omega)) | exact congrArg Value.bool (decide_eq_false (by omega)), rfl⟩
    case rest =>
      obtain ⟨rfl, rfl⟩ := hcut
      go_upto_if 92 with fail
      go_cut [] (fun wx => Keep (fun _ => False) wc wx)
      case first =>
        cases r
        · go_wp2_with fail
          go_meet
          exact Keep.refl _ _
        · obtain ⟨him, hst, hn1⟩ := of_decide_eq_true R.out.symm
          obtain ⟨uy, huy, hby⟩ := H3.out.2.2.2 i _ (pieces_at him)
          obtain ⟨Au, nu, cu, rfl⟩ := by_form hby
          have NM := Lib.hid (mixed_not (a := a) (b := b) (by omega) (by omega) hin him (by omega) (by omega) hn1 hst)
          clear hst R
          have S1 := Lib.hid (fun W (hk : Keep (fun _ => False) wc W) => src_all H3.out.1.1 H3.out.1.2 hk)
          have HY := Lib.hid (And.intro hby huy)
          clear hby huy
          go_wp2_with (first | (at_builtin; refine wpList_append_gen _ rfl _ _ _ _ rfl wc.heap.size 22 is _ 1 24 Try.underlying24 his hs0 hs1 hs2 rfl (.slice (some ⟨wc.heap.size, 0, none⟩) 0 0) 0 [] (by rfl) (by exact Own.none_ _ _ _ _ _) _ n _ (by rfl) (S1.out _ (by exact (by repeat first | exact Keep.refl _ _ | refine Keep.alloc ?_ _ | refine Keep.drew ?_ | refine Keep.drewN ?_ _))) (by unfold maxLen; omega) (by omega) (by simp) ?_))
          intro v5 w5 ho5 hk5 _
          obtain ⟨A5, c5, rfl, -⟩ := ho5.form
          have ho5' : Own w5 wc.heap.size 22 1 (.slice A5 n c5) n cs1 := by simpa using ho5
          have K5 := Lib.hid (show Keep (fun _ => False) wc w5 from Keep.trans (by exact (by repeat first | exact Keep.refl _ _ | refine Keep.alloc ?_ _ | refine Keep.drew ?_ | refine Keep.drewN ?_ _)) hk5 (fun x _ h => by simp [ownB] at h))
          clear hk5 ho5
          obtain ⟨g5, rfl, hg5, -, hr5, hf5, hs5⟩ := ho5'.cells_ (by omega)
          clear ho5'
          obtain ⟨uo, huo, -⟩ := H3.out.1.2.2 i _ (pieces_at hin)
          have x6 := hr5 i uo huo
          clear huo hr5
          have f5 := hf5 i
          have HS5 := Lib.hid (hs5 i (.slice Au nu cu))
          clear hf5 hs5
          obtain ⟨g0, e0, -, -, hr0, -, -⟩ := H3.out.2.1.cells_ (by omega)
          injection e0 with e0
          injection e0 with e0
          subst e0
          have x5 := K5.out.cell (fun h => h) (hr0 i (.slice Au nu cu) HY.out.2)
          clear hr0
          have f1 : (0 : Int) ≤ (i : Int) := by omega
          have f2 : (i : Int) < (m : Int) := by omega
          have f3 : (i : Int) < (n : Int) := by omega
          have K6 := Lib.hid (show Keep (fun _ => False) wc (w5.setCell ⟨g5, i, none⟩ (.slice Au nu cu)) from K5.out.setCell (.inl hg5) _)
          have NJ := Lib.hid (nojoin _ _ (fun b => w.heap.size ≤ b) _ (((H3.out.1.2.keep K6.out (fun _ _ _ h => h)).set ((HY.out.1.keep K6.out (fun _ _ _ h => h)).mono (fun b _ h => by omega)) i).bys (by rw [List.length_set, pieces_len]; exact HS5.out.sl) (fun b _ h => by have := K3.out.size; omega)) NM.out (set_short (fun _ h => pieces_short h) (short_one _ _ _ _)) (by rw [List.length_set, pieces_len]; omega))
          clear hg5
          go_wp2_with fail
          refine NJ.out.mono ?_
          rintro e w7 ⟨⟨A7, n7, c7, rfl⟩, hk7⟩
          go_wp2_with fail
          go_meet
          exact K6.out.trans hk7 (fun _ _ h => h)
      case rest =>
        clear R
        have K4 := Lib.hid (K3.out.trans hcut (fun _ _ h => h))
        have H4 := Lib.hid (And.intro (H3.out.1.1.keep hcut (fun _ _ h => h)) (H3.out.1.2.keep hcut (fun _ _ _ h => h)))
        clear hcut H3 K3
        by_cases hn1 : 1 < n
        · obtain ⟨j, hj⟩ : ∃ j, (i + 1) % n = j := ⟨_, rfl⟩
          have hjn : j < n := hj ▸ Nat.mod_lt _ (by omega)
          have hij : i ≠ j := by
            rcases Nat.lt_or_ge (i + 1) n with h | h
            · rw [Nat.mod_eq_of_lt h] at hj; omega
            · rw [show i + 1 = n by omega, Nat.mod_self] at hj; omega
          have hmod2 : Int.tmod ((i : Int) + 1) (n : Int) = (j : Int) := by rw [← hj]; rfl
          have TM := Lib.hid (turned_not (s := s) (a := a) (by omega) hin hjn hij (by omega))
          obtain ⟨ui, hui, hbi⟩ := H4.out.2.2 i _ (pieces_at hin)
          obtain ⟨Ai, ni, ci, rfl⟩ := by_form hbi
          obtain ⟨uj, huj, hbj⟩ := H4.out.2.2 j _ (pieces_at hjn)
          obtain ⟨Aj, nj, cj, rfl⟩ := by_form hbj
          have HU := Lib.hid (And.intro (And.intro hui huj) (And.intro hbi hbj))
          have S1 := Lib.hid (fun W (hk : Keep (fun _ => False) wc W) => src_all H4.out.1 H4.out.2 hk)
          clear hj hui huj hbi hbj
          go_wp2_with (first | (at_builtin; refine wpList_append_gen _ rfl _ _ _ _ rfl wc.heap.size 22 is _ 1 24 Try.underlying24 his hs0 hs1 hs2 rfl (.slice (some ⟨wc.heap.size, 0, none⟩) 0 0) 0 [] (by rfl) (by exact Own.none_ _ _ _ _ _) _ n _ (by rfl) (S1.out _ (by exact (by repeat first | exact Keep.refl _ _ | refine Keep.alloc ?_ _ | refine Keep.drew ?_ | refine Keep.drewN ?_ _))) (by unfold maxLen; omega) (by omega) (by simp) ?_))
          intro v5 w5 ho5 hk5 _
          obtain ⟨A5, c5, rfl, -⟩ := ho5.form
          have ho5' : Own w5 wc.heap.size 22 1 (.slice A5 n c5) n cs1 := by simpa using ho5
          have K5 := Lib.hid (show Keep (fun _ => False) wc w5 from Keep.trans (by exact (by repeat first | exact Keep.refl _ _ | refine Keep.alloc ?_ _ | refine Keep.drew ?_ | refine Keep.drewN ?_ _)) hk5 (fun x _ h => by simp [ownB] at h))
          clear hk5 ho5
          obtain ⟨g5, rfl, hg5, -, hr5, hf5, -⟩ := ho5'.cells_ (by omega)
          have y1 := hr5 i _ HU.out.1.1
          have y2 := hr5 j _ HU.out.1.2
          have z1 := hf5 i
          have z2 := hf5 j
          obtain ⟨g0, e0, -, hg0, hr0, -, -⟩ := H4.out.1.cells_ (by omega)
          injection e0 with e0
          injection e0 with e0
          subst e0
          have x1 := K5.out.cell (fun h => h) (hr0 i _ HU.out.1.1)
          have x2 := K5.out.cell (fun h => h) (hr0 j _ HU.out.1.2)
          have hgg : g5 ≠ gx := by omega
          have HO5 := Lib.hid ho5'
          have HG5 := Lib.hid hg5
          clear hr5 hf5 hr0 ho5' hg5 hg0
          have f1 : (0 : Int) ≤ (i : Int) := by omega
          have f2 : (i : Int) < (n : Int) := by omega
          have f3 : (0 : Int) ≤ (j : Int) := by omega
          have f4 : (j : Int) < (n : Int) := by omega
          have pw : IntKind.i64.wrap ((i : Int) + 1) = (i : Int) + 1 := IntWalk.i64_in _ (by omega)
          go_upto_region 19 with fail
          obtain ⟨W0, hW0⟩ : ∃ W0, W0 = wc := ⟨_, rfl⟩
          subst hW0
          go_cut [] (fun wx => Own wx W0.heap.size 22 1 (.slice (some ⟨g5, 0, none⟩) n c5) n ((cs1.set i (.slice Aj nj cj)).set j (.slice Ai ni ci)) ∧ Keep (fun _ => False) W0 wx)
          case first =>
            go_region
            go_wp2_with fail
            go_meet
            exact ⟨(((HO5.out.setAt (by omega) i _).setAt (by omega) j _).drew), (((K5.out.setCell (.inl HG5.out) _).setCell (.inl HG5.out) _).drew)⟩
          case rest =>
            obtain ⟨ho6, hk6⟩ := hcut
            have K6 := Lib.hid hk6
            clear hmod2 hmod pw x1 x2 y1 y2 z1 z2
            have NJ := Lib.hid (nojoin _ _ (fun b => w.heap.size ≤ b) wc ((((H4.out.2.keep hk6 (fun _ _ _ h => h)).set (HU.out.2.2.keep hk6 (fun _ _ _ h => h)) i).set (HU.out.2.1.keep hk6 (fun _ _ _ h => h)) j).bys (by rw [List.length_set, List.length_set, pieces_len]; exact ho6.sl) (fun b _ h => by have := K4.out.size; omega)) TM.out (set_short (set_short (fun _ h => pieces_short h) (short_one _ _ _ _)) (short_one _ _ _ _)) (by rw [List.length_set, List.length_set, pieces_len]; omega))
            clear ho6 hk6
            go_wp2_with fail
            refine NJ.out.mono ?_
            rintro e w7 ⟨⟨A7, n7, c7, rfl⟩, hk7⟩
            have K7 := Lib.hid (K4.out.trans (K6.out.trans hk7 (fun _ _ h => h)) (fun _ _ h => h))
            clear hk7
            go_wp2_with fail
            refine (LIV.out _).mono ?_
            rintro e w8 ⟨rfl, hb8⟩
            go_wp2
            go_ret
            exact ⟨rfl, K7.out.to_below'.trans (hb8.mono K7.out.size)⟩
        · go_wp2_with fail
          refine (LIV.out _).mono ?_
          rintro e w8 ⟨rfl, hb8⟩
          go_wp2
          go_ret
          exact ⟨rfl, K4.out.to_below'.trans (hb8.mono K4.out.size)⟩
end Go.Proofs.Ytakchlaoimnnhaa

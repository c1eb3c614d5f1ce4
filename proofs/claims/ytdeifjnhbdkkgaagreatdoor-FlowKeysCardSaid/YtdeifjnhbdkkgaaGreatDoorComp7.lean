/- Contract of comp.Put. -/
import Derived.Test.YtdeifjnhbdkkgaaGreatDoorComp1
import Derived.Test.YtdeifjnhbdkkgaaGreatDoorLe1
import Derived.Test.YtdeifjnhbdkkgaaGreatDoorCmdP
import Derived.Deep.RegionHeld3
namespace Go.Proofs.YtdeifjnhbdkkgaaGreatDoor
open Go.RowKit
set_option maxRecDepth 100000
set_option linter.unusedVariables false

def numsB (c : Cf) (k : Nat) : List UInt8 := ([c.log, c.pages, c.ents, c.gens].take k).flatMap (fun z => leB (word z) 4)
def compB (x : Cp) : List UInt8 := textB (sb x.nm) ++ leB (word x.sz) 1
def compsB (l : List Cp) (k : Nat) : List UInt8 := (l.take k).flatMap compB
/-- A layout's bytes. -/
def confB (c : Cf) : List UInt8 := (numsB c 4 ++ leB (word (c.l.length : Nat)) 1) ++ compsB c.l c.l.length
theorem numsB_len (c : Cf) (k : Nat) : (numsB c k).length ≤ 16 := by
  unfold numsB
  have h : ∀ (l : List Int), (l.flatMap (fun z => leB (word z) 4)).length = l.length * 4 := by
    intro l
    induction l with
    | nil => rfl
    | cons x l ih => rw [List.flatMap_cons, List.length_append, ih, leB_len, List.length_cons]; omega
  rw [h, List.length_take]
  simp only [List.length_cons, List.length_nil]
  omega
theorem compB_len (x : Cp) : (compB x).length ≤ 65538 := by
  unfold compB
  have := textB_len (sb x.nm)
  rw [List.length_append, leB_len]
  omega
theorem compsB_len (l : List Cp) (k : Nat) : (compsB l k).length ≤ k * 65538 := by
  unfold compsB
  have h : ∀ (l : List Cp), (l.flatMap compB).length ≤ l.length * 65538 := by
    intro l
    induction l with
    | nil => simp
    | cons x l ih =>
      rw [List.flatMap_cons, List.length_append, List.length_cons]
      have := compB_len x
      omega
  have h1 := h (l.take k)
  have h2 : (l.take k).length ≤ k := by rw [List.length_take]; omega
  exact Nat.le_trans h1 (Nat.mul_le_mul_right _ h2)
theorem compsB_next {l : List Cp} {k : Nat} (hk : k < l.length) : compsB l (k + 1) = (compsB l k ++ textB (sb (nmAt l k))) ++ leB (word (szAt l k)) 1 := by
  unfold compsB
  have hx := List.getElem?_eq_getElem hk
  have e : [l[k]].flatMap compB = compB l[k] := by rw [List.flatMap_cons, List.flatMap_nil, List.append_nil]
  rw [List.take_add_one, hx, Option.toList_some, List.flatMap_append, e, nmAt_of hx, szAt_of hx, List.append_assoc]
  generalize (l.take k).flatMap compB = z
  unfold compB
  rfl
theorem putTextP (l : List UInt8) (v : Value) (F : Nat → Prop) (s : ByteArray) (w : World) (hv : By w F v l) (hn : l.length ≤ 17592186044416) (hs : s.size ≤ 9223372036854775807) :
    Calls Tryz.prog 43 #[v, .string s] w (BytesPost w (l ++ textB (sb s))) :=
  (putText_any l v F s w hv hn hs).mono fun e w' ⟨u, he, ho, hb⟩ => by
    obtain ⟨A, c, rfl, _⟩ := ho.form
    exact ⟨A, _, c, he, sl_by ho.sl, hb⟩
set_option maxHeartbeats 8000000 in
theorem cputF_any (c : Cf) (u : Value) (F : Nat → Prop) (w : World) (hu : CL w F u c.l) (h40 : c.l.length ≤ 1000) (hs : ∀ x ∈ c.l, x.nm.size ≤ 9223372036854775807) :
    Calls Tryz.prog 24 #[confV c u] w (BytesPost w (confB c)) := by
  have hu0 := hu
  obtain ⟨A, cap, rfl, hnc, hcm, -⟩ := hu
  obtain ⟨n, hn⟩ : ∃ n, n = c.l.length := ⟨_, rfl⟩
  have HN := Lib.hid hn
  have B0 := Lib.hid (BF.first hu0)
  have HS := Lib.hid (show ∀ k, k < n → (nmAt c.l k).size ≤ 9223372036854775807 from fun k hk => by
    have hx := List.getElem?_eq_getElem (l := c.l) (i := k) (by omega)
    rw [nmAt_of hx]
    exact hs _ (List.getElem_mem _))
  have CB := Lib.hid (show confB c = (numsB c 4 ++ leB (word (n : Nat)) 1) ++ compsB c.l n from by rw [hn]; rfl)
  have NL := Lib.hid (numsB_len c)
  have E0 := Lib.hid (show numsB c 0 = [] from rfl)
  have E1 := Lib.hid (show numsB c 1 = numsB c 0 ++ leB (word c.log) (wideN 4) from by simp [numsB]; rfl)
  have E2 := Lib.hid (show numsB c 2 = numsB c 1 ++ leB (word c.pages) (wideN 4) from by simp [numsB]; rfl)
  have E3 := Lib.hid (show numsB c 3 = numsB c 2 ++ leB (word c.ents) (wideN 4) from by simp [numsB]; rfl)
  have E4 := Lib.hid (show numsB c 4 = numsB c 3 ++ leB (word c.gens) (wideN 4) from by simp [numsB]; rfl)
  unfold confV
  rw [← hn] at hnc hu0 B0 h40 ⊢
  rw [CB.out]
  clear hn hs CB
  generalize numsB c = nB at *
  obtain ⟨log, pages, ents, gens, l⟩ := c
  simp only at hnc hu0 B0 HN HS h40 E1 E2 E3 E4 ⊢
  go_enter Tryz.func24, Tryz.ntmps24
  go_upto_region 1 with fail
  refine wp_world (S := BF w F ⟨log, pages, ents, gens, l⟩ (.slice A n cap)) B0.out ?_
  intro X hX
  have HX := Lib.hid hX
  clear hX hu0 B0
  obtain ⟨x0, x1, x2, x3, x4, xf⟩ := cells5 HX.out.1
  go_upto_region 3 with fail
  refine wp_world (S := fun Y => Y.heap[X.heap.size]? = some (.cells #[.int .i64 log, .int .i64 pages, .int .i64 ents, .int .i64 gens] 3 (0, 0)) ∧ Keep (fun _ => False) X Y) ⟨heap_alloc_new X _, (Keep.refl _ X).alloc _⟩ ?_
  intro Y hY
  have HY := Lib.hid hY
  clear hY x0 x1 x2 x3 x4 xf
  have SZ0 := Lib.hid (show w.heap.size ≤ Y.heap.size from Nat.le_trans HX.out.2.2.size HY.out.2.size)
  generalize X.heap.size = Q at *
  go_loopw [3, 18] (fun t i wr => ∃ k : Nat, k ≤ 4 ∧ i = .int .i64 k ∧ (∃ A n c, t = .slice A n c ∧ Hid (By wr (fun b => w.heap.size ≤ b) (.slice A n c) (nB k) ∧ Keep (fun _ => False) Y wr))) (fun _ i _ => 4 - (intOf i).toNat)
  case atStart => exact ⟨0, by omega, rfl, none, 0, 0, rfl, Lib.hid ⟨by rw [E0.out]; exact By.nil _ _, Keep.refl _ Y⟩⟩
  case round =>
    obtain ⟨k, hk, rfl, A0, n0, c0, rfl, ht⟩ := hrel
    obtain ⟨y0, y1, y2, y3, yf⟩ := cells4 ((ht.out.2.block _ (Array.getElem?_eq_some_iff.1 HY.out.1).1 (fun h => h)).trans HY.out.1)
    rcases (show k = 0 ∨ k = 1 ∨ k = 2 ∨ k = 3 ∨ k = 4 by omega) with rfl | rfl | rfl | rfl | rfl
    · go_wp2_with fail
      with_reducible refine (putP _ _ _ 4 log _ ht.out.1 (by have := NL.out 0; omega)).mono ?_
      rintro e w1 ⟨A1, n1, c1, rfl, hy1, hb1⟩
      rw [← E1.out] at hy1
      have NT := Lib.hid (And.intro (hy1.mono (G := fun b => w.heap.size ≤ b) (fun b _ h => Nat.le_trans SZ0.out (Nat.le_trans ht.out.2.size h))) (ht.out.2.trans (Keep.of_below' hb1) (fun _ _ h => h)))
      clear hy1 hb1
      go_wp2
      go_roundw
      case rel => exact ⟨1, by omega, by first | rfl | trivial | go_num, A1, n1, c1, rfl, NT⟩
      case measure => simp [intOf]
    · go_wp2_with fail
      with_reducible refine (putP _ _ _ 4 pages _ ht.out.1 (by have := NL.out 1; omega)).mono ?_
      rintro e w1 ⟨A1, n1, c1, rfl, hy1, hb1⟩
      rw [← E2.out] at hy1
      have NT := Lib.hid (And.intro (hy1.mono (G := fun b => w.heap.size ≤ b) (fun b _ h => Nat.le_trans SZ0.out (Nat.le_trans ht.out.2.size h))) (ht.out.2.trans (Keep.of_below' hb1) (fun _ _ h => h)))
      clear hy1 hb1
      go_wp2
      go_roundw
      case rel => exact ⟨2, by omega, by first | rfl | trivial | go_num, A1, n1, c1, rfl, NT⟩
      case measure => simp [intOf]
    · go_wp2_with fail
      with_reducible refine (putP _ _ _ 4 ents _ ht.out.1 (by have := NL.out 2; omega)).mono ?_
      rintro e w1 ⟨A1, n1, c1, rfl, hy1, hb1⟩
      rw [← E3.out] at hy1
      have NT := Lib.hid (And.intro (hy1.mono (G := fun b => w.heap.size ≤ b) (fun b _ h => Nat.le_trans SZ0.out (Nat.le_trans ht.out.2.size h))) (ht.out.2.trans (Keep.of_below' hb1) (fun _ _ h => h)))
      clear hy1 hb1
      go_wp2
      go_roundw
      case rel => exact ⟨3, by omega, by first | rfl | trivial | go_num, A1, n1, c1, rfl, NT⟩
      case measure => simp [intOf]
    · go_wp2_with fail
      with_reducible refine (putP _ _ _ 4 gens _ ht.out.1 (by have := NL.out 3; omega)).mono ?_
      rintro e w1 ⟨A1, n1, c1, rfl, hy1, hb1⟩
      rw [← E4.out] at hy1
      have NT := Lib.hid (And.intro (hy1.mono (G := fun b => w.heap.size ≤ b) (fun b _ h => Nat.le_trans SZ0.out (Nat.le_trans ht.out.2.size h))) (ht.out.2.trans (Keep.of_below' hb1) (fun _ _ h => h)))
      clear hy1 hb1
      go_wp2
      go_roundw
      case rel => exact ⟨4, by omega, by first | rfl | trivial | go_num, A1, n1, c1, rfl, NT⟩
      case measure => simp [intOf]
    · clear y0 y1 y2 y3 yf E0 E1 E2 E3 E4
      have K2 := Lib.hid (HY.out.2.trans ht.out.2 (fun _ _ h => h))
      obtain ⟨x0, x1, x2, x3, x4, xf⟩ := cells5 ((K2.out.block _ (Array.getElem?_eq_some_iff.1 HX.out.1).1 (fun h => h)).trans HX.out.1)
      go_wp2_with fail
      with_reducible refine (putP _ _ _ 1 (n : Nat) _ ht.out.1 (by have := NL.out 4; omega)).mono ?_
      rintro e w1 ⟨A1, n1, c1, rfl, hy1, hb1⟩
      have H1 := Lib.hid (And.intro (hy1.mono (G := fun b => w.heap.size ≤ b) (fun b _ h => Nat.le_trans SZ0.out (Nat.le_trans ht.out.2.size h))) (K2.out.trans (Keep.of_below' hb1) (fun _ _ h => h)))
      clear hy1 hb1 K2 ht x0 x1 x2 x3 x4 xf
      obtain ⟨x0, x1, x2, x3, x4, xf⟩ := cells5 ((H1.out.2.block _ (Array.getElem?_eq_some_iff.1 HX.out.1).1 (fun h => h)).trans HX.out.1)
      obtain ⟨L0, hL0⟩ : ∃ L0, L0 = nB 4 ++ leB (word (n : Nat)) (wideN 1) := ⟨_, rfl⟩
      have LL := Lib.hid (show L0.length ≤ 24 by rw [hL0, List.length_append, leB_len]; have := NL.out 4; have := (wideN_in 1).2; omega)
      have HL0 := Lib.hid hL0
      rw [← hL0] at H1
      clear hL0
      go_wp2
      go_loopw [3, 34] (fun t i wr => ∃ k : Nat, k ≤ n ∧ i = .int .i64 k ∧ (∃ A n c, t = .slice A n c ∧ Hid (By wr (fun b => w.heap.size ≤ b) (.slice A n c) (L0 ++ compsB l k) ∧ Keep (fun _ => False) X wr))) (fun _ i _ => n - (intOf i).toNat)
      case atStart => exact ⟨0, by omega, rfl, A1, n1, c1, rfl, Lib.hid ⟨by rw [show L0 ++ compsB l 0 = L0 from List.append_nil _]; exact H1.out.1, H1.out.2⟩⟩
      case round =>
        obtain ⟨k, hk, rfl, A2, n2, c2, rfl, ht⟩ := hrel
        by_cases hlt : k < n
        · have hi : (k : Int) < (n : Int) := by omega
          obtain ⟨b, off, rfl, -, e1, e2⟩ := CL.at_ (HX.out.2.1.same ht.out.2) hlt
          have CN := Lib.hid (compsB_next (l := l) (k := k) (by have := HN.out; omega))
          have CL1 := Lib.hid (show (L0 ++ compsB l k).length ≤ 65538024 by have := LL.out; have := compsB_len l k; rw [List.length_append]; omega)
          have HSK := HS.out k hlt
          generalize nmAt l k = nm at *
          generalize szAt l k = sz at *
          have TL := Lib.hid (textB_len (sb nm))
          have PT := Lib.hid (fun (W : World) (hy : By W (fun b => w.heap.size ≤ b) (.slice A2 n2 c2) (L0 ++ compsB l k)) => putTextP _ _ _ nm W hy (by have := CL1.out; omega) HSK)
          go_upto_region 11 with fail
          refine wp_world (S := fun Z => (Z.heap[wr.heap.size]? = some (.cells #[.string nm, .int .i64 sz] 97 (0, 0)) ∧ By Z (fun b => w.heap.size ≤ b) (.slice A2 n2 c2) (L0 ++ compsB l k)) ∧ Keep (fun _ => False) X Z) ⟨⟨heap_alloc_new wr _, ht.out.1.keep ((Keep.refl (fun _ => False) wr).alloc _) (fun _ _ _ h => h)⟩, ht.out.2.alloc _⟩ ?_
          intro Z hZ
          have HZ := Lib.hid hZ
          clear hZ e1 e2 ht HSK
          generalize wr.heap.size = P at *
          obtain ⟨z0, z1, zf⟩ := cells2 HZ.out.1.1
          have CE := Lib.hid (show ∀ W', Keep (fun _ => False) Z W' → (W'.cell? ⟨P, 0, none⟩ = some (.string nm) ∧ W'.cell? ⟨P, 1, none⟩ = some (.int .i64 sz) ∧ Keep (fun _ => False) Z W') from fun W' hk => ⟨hk.cell (fun h => h) z0, hk.cell (fun h => h) z1, hk⟩)
          go_region_held3 (fun W' => W'.cell? ⟨P, 0, none⟩ = some (.string nm) ∧ W'.cell? ⟨P, 1, none⟩ = some (.int .i64 sz) ∧ Keep (fun _ => False) Z W') (exact CE.out _ (by exact (by repeat first | assumption | exact Keep.refl _ _ | refine Keep.alloc ?_ _ | refine Keep.drew ?_ | refine Keep.drewN ?_ _ | refine Keep.setCell ?_ (.inl (by first | omega | (simp; done) | (simp; omega))) _)))
            (first
              | (go_at_call 43; (with_reducible refine (PT.out _ (by exact HZ.out.1.2.keep (by repeat first | assumption | exact Keep.refl _ _ | refine Keep.alloc ?_ _ | refine Keep.drew ?_ | refine Keep.drewN ?_ _ | refine Keep.setCell ?_ (.inl (by first | omega | (simp; done) | (simp; omega))) _) (fun _ _ _ h => h))).mono ?_); rintro e w3 ⟨A3, n3, c3, rfl, hy3, hb3⟩; have hk3 : Keep (fun _ => False) Z w3 := Keep.trans (T := fun _ => False) (by exact (by repeat first | assumption | exact Keep.refl _ _ | refine Keep.alloc ?_ _ | refine Keep.drew ?_ | refine Keep.drewN ?_ _ | refine Keep.setCell ?_ (.inl (by first | omega | (simp; done) | (simp; omega))) _)) (Keep.of_below' hb3) (fun _ _ h => h); have PN := Lib.hid (show ∀ W', Keep (fun _ => False) w3 W' → Calls Tryz.prog 42 #[.slice A3 n3 c3, .int .i64 1, .int .i64 sz] W' (BytesPost W' (((L0 ++ compsB l k) ++ textB (sb nm)) ++ leB (word sz) (wideN 1))) from fun W' hk => putP _ _ _ 1 sz W' (hy3.keep hk (fun _ _ _ h => h)) (by have := CL1.out; have := TL.out; rw [List.length_append]; omega)); clear hy3 hb3)
              | (go_at_call 42; (with_reducible refine (PN.out _ (by exact (by repeat first | assumption | exact Keep.refl _ _ | refine Keep.alloc ?_ _ | refine Keep.drew ?_ | refine Keep.drewN ?_ _ | refine Keep.setCell ?_ (.inl (by first | omega | (simp; done) | (simp; omega))) _))).mono ?_); rintro e w4 ⟨A4, n4, c4, rfl, hy4, hb4⟩; have hk4 : Keep (fun _ => False) Z w4 := Keep.trans (T := fun _ => False) (by exact (by repeat first | assumption | exact Keep.refl _ _ | refine Keep.alloc ?_ _ | refine Keep.drew ?_ | refine Keep.drewN ?_ _ | refine Keep.setCell ?_ (.inl (by first | omega | (simp; done) | (simp; omega))) _)) (Keep.of_below' hb4) (fun _ _ h => h); have H4 := Lib.hid (hy4.mono (G := fun b => w.heap.size ≤ b) (fun b _ h => Nat.le_trans (Nat.le_trans HX.out.2.2.size HZ.out.2.size) (Nat.le_trans hk3.size h))); clear hy4 hb4)
              | fail)
          have EQ : ((L0 ++ compsB l k) ++ textB (sb nm)) ++ leB (word sz) (wideN 1) = L0 ++ compsB l (k + 1) := by rw [CN.out, List.append_assoc, List.append_assoc, List.append_assoc]; rfl
          have NT := Lib.hid (And.intro (EQ ▸ H4.out) (HZ.out.2.trans hk4 (fun _ _ h => h)))
          clear EQ hk4 hk3 H4 PN CE z0 z1 zf
          go_wp2
          go_roundw
          case rel => exact ⟨k + 1, by omega, by go_num, A4, n4, c4, rfl, NT⟩
          case measure => simp [intOf]; omega
        · have hi : ¬ (k : Int) < (n : Int) := by omega
          obtain rfl : k = n := by omega
          go_wp2
          go_ret
          refine ⟨A2, n2, c2, rfl, ?_, HX.out.2.2.trans (ht.out.2.to_below'.mono HX.out.2.2.size)⟩
          have hf := ht.out.1
          rw [HL0.out, List.append_assoc] at hf
          exact hf
end Go.Proofs.YtdeifjnhbdkkgaaGreatDoor

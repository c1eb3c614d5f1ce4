/- Contracts of scan.One, vivariumref18.One. -/
import Derived.Test.YtfjgbnnjfapcmaaScan1
import Derived.Test.YtfjgbnnjfapcmaaPart5
import Derived.Test.YtfjgbnnjfapcmaaFrm6
import Derived.Test.YtfjgbnnjfapcmaaScr1
namespace Go.Proofs.Ytfjgbnnjfapcmaa
open Go.RowKit
set_option maxRecDepth 100000
set_option linter.unusedVariables false
set_option linter.unusedSimpArgs false

theorem By.oneCell {w : World} {F : Nat → Prop} {u : Value} {l : List UInt8} (h : By w F u l) : u.oneCell' = true := by
  obtain ⟨A, c, rfl, -⟩ := h
  rfl
/-- Slices of bytes, as a shape. -/
def bsN : Nst (List UInt8) Value where
  cells := fun p => [p.2]
  m := 1
  pos := Nat.one_pos
  len := fun _ => rfl
  inn := fun w F l u => By w F u l
  one := fun h u hu => by
    obtain rfl : u = _ := by simpa using hu
    exact h.oneCell
  keep := fun h hk hs => By.keep h hk hs
  mono := fun h hf => By.mono h hf
theorem zip_snd {α β : Type} : ∀ {R : List α} {us : List β}, us.length = R.length → (R.zip us).flatMap (fun p => [p.2]) = us
  | [], [], _ => rfl
  | a :: R, b :: us, h => by rw [List.zip_cons_cons, List.flatMap_cons, zip_snd (by simpa using h)]; rfl
  | [], _ :: _, h => by simp at h
  | _ :: _, [], h => by simp at h
theorem NB.bys {B : Nat} {e : TypeId} {w : World} {u : Value} {R : List (List UInt8)} (h : NB bsN B e w u R) : Bys w (fun _ => True) u R := by
  obtain ⟨us, h1, h2, h3⟩ := h
  have h2 : Own w B e 1 u R.length ((R.zip us).flatMap (fun p => [p.2])) := h2
  rw [zip_snd h1] at h2
  refine ⟨us, h2.sl.mono (fun _ _ _ => trivial), fun i r hr => ?_⟩
  have hi : i < us.length := by rw [h1]; exact (List.getElem?_eq_some_iff.1 hr).1
  exact ⟨us[i], List.getElem?_eq_getElem hi, By.mono (h3 i r _ hr (List.getElem?_eq_getElem hi)) (fun _ _ _ => trivial)⟩
/-- A literal of one. -/
theorem NB.one_ {B : Nat} {e : TypeId} {w : World} {F : Nat → Prop} {x : Value} {r : List UInt8} (hx : By w F x r) (hB : B ≤ w.heap.size) : NB bsN B e (w.alloc (.cells #[x] e)) (.slice (some ⟨w.heap.size, 0, none⟩) 1 1) [r] := by
  refine ⟨[x], rfl, Own.made w #[x] 1 1 hB (Nat.le_refl _) (by decide) rfl, fun i y v hy hv => ?_⟩
  match i, hy, hv with
  | 0, hy, hv =>
    obtain rfl : r = y := by simpa using hy
    obtain rfl : x = v := by simpa using hv
    exact By.keep (By.mono (G := fun b => ownB (.slice (some ⟨w.heap.size, 0, none⟩) 1 1) ≠ some b) hx (fun b hb _ e => by simp [ownB] at e; omega)) ((Keep.refl (fun _ => False) w).alloc _) (fun _ _ _ h => h)
/-- What is told of a record. -/
def OneP (w : World) (c : Cf) (l : List (List UInt8)) (lsn ep sq most : Int) (e : Ending) (w' : World) : Prop :=
  ∃ A n cc, e = .returned (.tuple #[.slice A n cc, .int .i64 (if recB c l lsn ep sq most = true then (cntF c l lsn : Int) else 0), .int .i64 (if recB c l lsn ep sq most = true then (hasF c l lsn).ep else 0), .bool (recB c l lsn ep sq most)]) ∧
    By w' (fun b => w.heap.size ≤ b) (.slice A n cc) (if recB c l lsn ep sq most = true then recF c l lsn else []) ∧ Below w.heap.size w w'
section
variable {w w' : World} {c : Cf} {l : List (List UInt8)} {lsn ep sq most : Int}
theorem one_no (h : recB c l lsn ep sq most = false) (hb : Below w.heap.size w w') : OneP w c l lsn ep sq most (.returned (.tuple #[.slice none 0 0, .int .i64 0, .int .i64 0, .bool false])) w' :=
  ⟨none, 0, 0, by rw [h]; rfl, by rw [h]; exact By.nil _ _, hb⟩
theorem one_yes {A : Option Addr} {n cc : Nat} {z : Int} (h : recB c l lsn ep sq most = true) (hz : z = cntF c l lsn) (hy : By w' (fun b => w.heap.size ≤ b) (.slice A n cc) (recF c l lsn)) (hb : Below w.heap.size w w') : OneP w c l lsn ep sq most (.returned (.tuple #[.slice A n cc, .int .i64 z, .int .i64 (hasF c l lsn).ep, .bool true])) w' :=
  ⟨A, n, cc, by rw [h, hz]; rfl, by rw [if_pos h]; exact hy, hb⟩
theorem rec_start (h : startB c l lsn ep sq most = false) : recB c l lsn ep sq most = false := by unfold recB; rw [h]; rfl
theorem rec_all {k : Nat} (hk : k < cntF c l lsn) (h : ¬ (hasB c l (lsn + k) = true ∧ (hasF c l (lsn + k)).ep = (hasF c l lsn).ep)) : recB c l lsn ep sq most = false := by
  rw [Bool.eq_false_iff, Ne, recB_iff]; exact fun h2 => h (h2.2.1 k hk)
theorem rec_join (h : joinOk (pcs c l lsn (cntF c l lsn)) = false) : recB c l lsn ep sq most = false := by
  rw [Bool.eq_false_iff, Ne, recB_iff, h]; exact fun h2 => Bool.false_ne_true h2.2.2.1
theorem rec_get (h : (getFr (recF c l lsn)).2 ≠ 0) : recB c l lsn ep sq most = false := by
  rw [Bool.eq_false_iff, Ne, recB_iff]; exact fun h2 => h h2.2.2.2
end
theorem join_cases {w w' : World} {R : List (List UInt8)} {e : Ending} (h : JoinPost w R e w') :
    (joinOk R = true ∧ ∃ A n c, e = .returned (.tuple #[.int .i64 (firstSeq R), .slice A n c, .bool true]) ∧ By w' (fun b => w.heap.size ≤ b) (.slice A n c) (joinB R) ∧ Below w.heap.size w w') ∨
    (joinOk R = false ∧ ∃ A n c, e = .returned (.tuple #[.int .i64 0, .slice A n c, .bool false]) ∧ By w' (fun b => w.heap.size ≤ b) (.slice A n c) [] ∧ Below w.heap.size w w') := by
  obtain ⟨A, n, c, rfl, hy, hb⟩ := h
  by_cases hj : joinOk R = true
  · rw [if_pos hj] at hy
    exact .inl ⟨hj, A, n, c, by rw [if_pos hj, hj], hy, hb⟩
  · rw [if_neg hj] at hy
    have hj2 : joinOk R = false := by simpa using hj
    exact .inr ⟨hj2, A, n, c, by rw [if_neg hj, hj2], hy, hb⟩
/-- A layout in the first box, a seal in block q. -/
def OSt (w W : World) (q : Nat) (a b c d u q0 q1 q2 q3 : Value) : Prop :=
  W.heap[w.heap.size]? = some (.cells #[a, b, c, d, u] 24 (0, 0)) ∧ w.heap.size < q ∧ W.heap[q]? = some (.cells #[q0, q1, q2, q3] 33 (0, 0)) ∧ Below w.heap.size w W
section
variable {w W W' : World} {q : Nat} {a b c d u q0 q1 q2 q3 : Value}
theorem OSt.lt (h : OSt w W q a b c d u q0 q1 q2 q3) : q < W.heap.size := (Array.getElem?_eq_some_iff.1 h.2.2.1).1
theorem OSt.keep_ {S : Nat → Prop} (h : OSt w W q a b c d u q0 q1 q2 q3) (hk : Keep S W W') (hS : ∀ x, S x → q < x) : OSt w W' q a b c d u q0 q1 q2 q3 :=
  have hl := h.lt
  have h1 := h.2.1
  ⟨(hk.block _ (by omega) (fun hs => by have := hS _ hs; omega)).trans h.1, h.2.1, (hk.block _ hl (fun hs => by have := hS _ hs; omega)).trans h.2.2.1, ((Keep.of_below h.2.2.2).trans hk (fun x _ hs => by have := hS _ hs; omega)).to_below (Nat.le_refl _)⟩
theorem OSt.below (h : OSt w W q a b c d u q0 q1 q2 q3) (hb : Below W.heap.size W W') : OSt w W' q a b c d u q0 q1 q2 q3 := h.keep_ (Keep.of_below' hb) (fun _ h => h.elim)
theorem OSt.keep (h : OSt w W q a b c d u q0 q1 q2 q3) : Keep (fun _ => False) w W := Keep.of_below' h.2.2.2
end
/-- A layout in the first box. -/
def KSt (w W : World) (a b c d u : Value) : Prop := W.heap[w.heap.size]? = some (.cells #[a, b, c, d, u] 24 (0, 0)) ∧ Below w.heap.size w W
section
variable {w W W' : World} {a b c d u : Value}
theorem KSt.mk_ (w : World) (a b c d u : Value) : KSt w (w.alloc (.cells #[a, b, c, d, u] 24)) a b c d u := ⟨heap_alloc_new w _, (Below.refl _ w).alloc (Nat.le_refl _) _⟩
theorem KSt.lt (h : KSt w W a b c d u) : w.heap.size < W.heap.size := (Array.getElem?_eq_some_iff.1 h.1).1
theorem KSt.below (h : KSt w W a b c d u) (hb : Below W.heap.size W W') : KSt w W' a b c d u :=
  ⟨(hb.block _ h.lt).trans h.1, h.2.trans (hb.mono h.2.size)⟩
theorem KSt.keep (h : KSt w W a b c d u) : Keep (fun _ => False) w W := Keep.of_below' h.2
theorem KSt.got (h : KSt w W a b c d u) (q0 q1 q2 q3 : Value) : OSt w (W.alloc (.cells #[q0, q1, q2, q3] 33)) W.heap.size a b c d u q0 q1 q2 q3 :=
  have h2 := h.below ((Below.refl _ W).alloc (Nat.le_refl _) _)
  ⟨h2.1, h.lt, heap_alloc_new W _, h2.2⟩
end
set_option maxHeartbeats 8000000 in
theorem one_any (c : Cf) (u : Value) (F : Nat → Prop) (l : List (List UInt8)) (v : Value) (G : Nat → Prop) (lsn ep sq most : Int) (w : World) (hu : CL w F u c.l) (hv : Bys w G v l) (hl : ∀ s ∈ l, s.length ≤ 1099511627776) :
    Calls Try.prog 10 #[confV c u, v, .int .i64 lsn, .int .i64 ep, .int .i64 sq, .int .i64 most] w (OneP w c l lsn ep sq most) := by
  have HS := Lib.hid (fun W (hk : Keep (fun _ => False) w W) => has_any c u F l v G lsn W (hu.same hk) (hv.keep hk (fun _ _ _ h => h)) hl)
  have HK := Lib.hid (fun (k : Nat) W (hk : Keep (fun _ => False) w W) => has_any c u F l v G (lsn + k) W (hu.same hk) (hv.keep hk (fun _ _ _ h => h)) hl)
  obtain ⟨ib, hib, hb0, hb1, hb2⟩ := info_parts info_bytes
  obtain ⟨A, cap, rfl, -⟩ := hv.form
  obtain ⟨Au, cu, rfl, -⟩ := hu
  have NO := Lib.hid (fun w' (hb : Below w.heap.size w w') (h : recB c l lsn ep sq most = false) => one_no h hb)
  have RS := Lib.hid (@rec_start c l lsn ep sq most)
  have SI := Lib.hid (@startB_iff c l lsn ep sq most)
  have hfb := hasF_bd c l lsn
  have PH := Lib.hid (fun W x G (h : By W G x (hasF c l lsn).bd) => phead_any (hasF c l lsn).bd x G W h (by omega))
  by_cases hh : hasB c l lsn = true
  · rw [hh] at HS
    by_cases he : ep ≤ (hasF c l lsn).ep
    · by_cases ho : headOk (hasF c l lsn).bd = true
      · rw [headT_yes ho] at PH
        by_cases hpl : hPlace (hasF c l lsn).bd = 0
        · by_cases hsq : hSeq (hasF c l lsn).bd = sq
          · by_cases hco : (hCount (hasF c l lsn).bd : Int) ≤ most
            · have SB := Lib.hid (SI.out.2 ⟨hh, he, ho, hpl, hsq, hco⟩)
              have hcnt := of_decide_eq_true ho
              obtain ⟨-, -, n1, n2, -⟩ := hcnt
              have hpla := (placeB_iff.1 (hasB_iff.1 hh).1).2.2
              obtain ⟨l0, l1⟩ := hpla
              have P1 := Lib.hid (pcs_one c l lsn)
              have PN := Lib.hid (fun k => pcs_next c l lsn k)
              have PL := Lib.hid (fun k => pcs_len c l lsn k)
              have AL1 := Lib.hid (allTo_one hh)
              have ALN := Lib.hid (fun k => @allTo_next c l lsn k)
              have RA := Lib.hid (fun k => @rec_all c l lsn ep sq most k)
              have RJ := Lib.hid (@rec_join c l lsn ep sq most)
              have RG := Lib.hid (@rec_get c l lsn ep sq most)
              have RY := Lib.hid (show allTo c l lsn (cntF c l lsn) → joinOk (pcs c l lsn (cntF c l lsn)) = true → (getFr (recF c l lsn)).2 = 0 → recB c l lsn ep sq most = true from fun a b d => recB_iff.2 ⟨SB.out, a, b, d⟩)
              have YES := Lib.hid (fun w' A n cc z => @one_yes w w' c l lsn ep sq most A n cc z)
              have hjl := join_pcs_le c l lsn (cntF c l lsn)
              have hcf : cntF c l lsn = hCount (hasF c l lsn).bd := rfl
              have JN := Lib.hid (fun W u (h : Bys W (fun _ => True) u (pcs c l lsn (cntF c l lsn))) => pjoin_any (pcs c l lsn (cntF c l lsn)) u (fun _ => True) W h (by omega) (by rw [pcs_len]; omega) (fun r hr => by have := pcs_le r hr; omega))
              have FG := Lib.hid (fun W u G (h : By W G u (recF c l lsn)) => fget_any (recF c l lsn) u G W h (by unfold recF; omega))
              have hrec : joinB (pcs c l lsn (cntF c l lsn)) = recF c l lsn := rfl
              have HREC := Lib.hid hrec
              rw [← hcf] at PH n1 n2 hco
              have fp : ((hPlace (hasF c l lsn).bd : Nat) : Int) = 0 := by omega
              have fco : ¬ most < (cntF c l lsn : Int) := by omega
              rw [hsq] at PH
              have f1 : IntKind.i64.wrap (lsn + 0) = lsn + 0 := IntWalk.i64_in _ (by omega)
              clear hpl hsq hco hcf hrec hjl hh ho
              generalize ((hPlace (hasF c l lsn).bd : Nat) : Int) = pl at *
              subst fp
              generalize cntF c l lsn = n at *
              generalize recF c l lsn = b at *
              have he2 : ¬ (hasF c l lsn).ep < ep := by omega
              generalize hasF c l lsn = hf at *
              unfold confV at *
              generalize l.length = nl at *
              generalize c.l.length = nu at *
              clear hv he RS SI hfb f1
              go_enter Try.func10, Try.ntmps10
              go_upto_region 1 with fail
              refine wp_world (S := fun X => KSt w X _ _ _ _ _) (KSt.mk_ w _ _ _ _ _) ?_
              intro X hX
              have HX := Lib.hid hX
              clear hX
              obtain ⟨c0, c1, c2, c3, c4, cf⟩ := cells5 HX.out.1
              go_wp2_with fail
              refine (HS.out _ HX.out.keep).mono ?_
              rintro e w1 ⟨A1, n1, d1, rfl, hy1, hb1⟩
              have H1 := Lib.hid (HX.out.below hb1)
              have Y1 := Lib.hid (And.intro hy1 hb1)
              clear hb1 hy1 c0 c1 c2 c3 c4 cf
              go_upto_region 2 with fail
              refine wp_world (S := fun X => OSt w X w1.heap.size _ _ _ _ _ _ _ _ _ ∧ By X (fun b => w.heap.size ≤ b) (.slice A1 n1 d1) hf.bd) ⟨H1.out.got _ _ _ _, By.mono (By.keep Y1.out.1 ((Keep.refl (fun _ => False) w1).alloc _) (fun _ _ _ h => h)) (fun b _ h => Nat.le_trans HX.out.2.size h)⟩ ?_
              rintro Y ⟨hY, hyb⟩
              have HY := Lib.hid hY
              have YB := Lib.hid hyb
              clear hY hyb H1 Y1
              generalize w1.heap.size = q at *
              obtain ⟨q0, q1, q2, q3, qf⟩ := cells4 HY.out.2.2.1
              go_wp2_with fail
              refine (PH.out _ _ _ YB.out).mono ?_
              rintro e w2 ⟨rfl, hb2⟩
              have H2 := Lib.hid (HY.out.below hb2)
              have Y2 := Lib.hid (By.below YB.out hb2)
              clear hb2 q0 q1 q2 q3 qf
              obtain ⟨q0, q1, q2, q3, qf⟩ := cells4 H2.out.2.2.1
              go_wp2
              have NB1 := Lib.hid (show NB bsN (q + 1) 29 (w2.alloc (.cells #[.slice A1 n1 d1] 29)) (.slice (some ⟨w2.heap.size, 0, none⟩) 1 1) (pcs c l lsn 1) by rw [P1.out]; exact NB.one_ Y2.out (by have := H2.out.lt; omega))
              have O1 := Lib.hid (H2.out.below ((Below.refl _ w2).alloc (Nat.le_refl _) (.cells #[.slice A1 n1 d1] 29)))
              have L2 := Lib.hid H2.out.lt
              go_loopw [13, 19, 20] (fun s13 s i wr => ∃ k : Nat, 1 ≤ k ∧ k ≤ n ∧ s13 = .int .i64 n ∧ i = .int .i64 k ∧ Hid (OSt w wr q (.int .i64 c.log) (.int .i64 c.pages) (.int .i64 c.ents) (.int .i64 c.gens) (.slice Au nu cu) (.int .i64 hf.ep) (.int .i64 hf.no) (.int .i64 hf.kd) (.slice A1 n1 d1) ∧ NB bsN (q + 1) 29 wr s (pcs c l lsn k) ∧ allTo c l lsn k)) (fun _ _ i _ => n - (intOf i).toNat)
              case atStart => exact ⟨1, by omega, by omega, rfl, rfl, Lib.hid ⟨O1.out, NB1.out, AL1.out⟩⟩
              case round =>
                obtain ⟨k, hk0, hk, rfl, rfl, hst⟩ := hrel
                obtain ⟨Ap, cp, es⟩ := hst.out.2.1.form
                rw [PL.out] at es
                subst es
                obtain ⟨c0, c1, c2, c3, c4, cf⟩ := cells5 hst.out.1.1
                obtain ⟨q0, q1, q2, q3, qf⟩ := cells4 hst.out.1.2.2.1
                by_cases hlt : k < n
                · have f1 : (k : Int) < (n : Int) := by omega
                  have e1 : IntKind.i64.wrap (lsn + (k : Int)) = lsn + (k : Int) := IntWalk.i64_in _ (by omega)
                  go_wp2_with fail
                  refine (HK.out k _ hst.out.1.keep).mono ?_
                  rintro e w3 ⟨A3, n3, d3, rfl, hy3, hb3⟩
                  have H3 := Lib.hid (And.intro (hst.out.1.below hb3) (And.intro (hst.out.2.1.same (Keep.of_below' hb3)) (And.intro hy3 hb3)))
                  have OL := Lib.hid (fun e (h : ownB (.slice Ap k cp) = some e) => hst.out.2.1.own_lt h)
                  clear hy3 hb3 c0 c1 c2 c3 c4 cf q0 q1 q2 q3 qf
                  have RAK := Lib.hid (RA.out k hlt)
                  have ALK := Lib.hid (ALN.out k hst.out.2.2)
                  have PNK := Lib.hid (PN.out k)
                  generalize hasB c l (lsn + (k : Int)) = hb at *
                  generalize hasF c l (lsn + (k : Int)) = y at *
                  go_upto_region 12 with fail
                  refine wp_world (S := fun X => OSt w X q (.int .i64 c.log) (.int .i64 c.pages) (.int .i64 c.ents) (.int .i64 c.gens) (.slice Au nu cu) (.int .i64 hf.ep) (.int .i64 hf.no) (.int .i64 hf.kd) (.slice A1 n1 d1) ∧ NB bsN (q + 1) 29 X (.slice Ap k cp) (pcs c l lsn k) ∧ By X (fun b => wr.heap.size ≤ b) (.slice A3 n3 d3) y.bd ∧ X.heap[w3.heap.size]? = some (.cells #[.int .i64 y.ep, .int .i64 y.no, .int .i64 y.kd, .slice A3 n3 d3] 33 (0, 0))) ⟨H3.out.1.below ((Below.refl _ w3).alloc (Nat.le_refl _) _), H3.out.2.1.same ((Keep.refl _ w3).alloc _), By.keep H3.out.2.2.1 ((Keep.refl (fun _ => False) w3).alloc _) (fun _ _ _ h => h), heap_alloc_new w3 _⟩ ?_
                  rintro Z ⟨z1, z2, z3, z4⟩
                  have HZ := Lib.hid (And.intro z1 (And.intro z2 (And.intro z3 z4)))
                  obtain ⟨q0, q1, q2, q3, qf⟩ := cells4 z1.2.2.1
                  obtain ⟨y0, y1, y2, y3, yf⟩ := cells4 z4
                  clear z1 z2 z3 z4
                  generalize w3.heap.size = g at *
                  rcases Bool.eq_false_or_eq_true hb with rfl | rfl
                  · by_cases he3 : y.ep = hf.ep
                    · have fe : (y.ep != hf.ep) = false := by simpa using he3
                      have ALK2 := Lib.hid (ALK.out rfl he3)
                      clear he3 RAK ALK
                      go_wp2_with (at_builtin; refine wpList_push rfl _ _ _ rfl bsN (q + 1) 29 ib _ 24 Try.underlying25 hib hb0 hb1 hb2 rfl _ (pcs c l lsn k) k (PL.out k) rfl (HZ.out.2.1.same ((Keep.refl _ Z).alloc _)) Z.heap.size 1 y.bd (.slice A3 n3 d3) rfl (lit_cells Z _ _) ((By.keep HZ.out.2.2.1 ((Keep.refl (fun _ => False) Z).alloc _) (fun _ _ _ h => h)).mono (fun b _ h e => by have := (OL.out b e).2; omega)) ?c1 ?c2 ?c3 ?_)
                      case c1 => unfold maxLen; omega
                      case c2 => omega
                      case c3 => have := HZ.out.1.lt; simp; omega
                      intro A5 c5 w5 hn5 hk5
                      have H5 := Lib.hid (And.intro ((HZ.out.1.below ((Below.refl _ Z).alloc (Nat.le_refl _) _)).keep_ hk5 (fun x hx => by have := (OL.out x hx).1; omega)) (And.intro hn5 ALK2.out))
                      clear hn5 hk5 q0 q1 q2 q3 qf y0 y1 y2 y3 yf
                      go_wp2
                      go_roundw
                      case rel => exact ⟨k + 1, by omega, by omega, rfl, by go_num, by rw [PNK.out]; exact Lib.hid H5.out⟩
                      case measure => simp [intOf]; omega
                    · have fe : (y.ep != hf.ep) = true := by simpa using he3
                      have NR := Lib.hid (RAK.out (fun h => he3 h.2))
                      clear he3 RAK ALK
                      go_wp2
                      refine bodyPost_ret (res4 rfl _ _ _) rfl ?_
                      exact NO.out _ HZ.out.1.2.2.2 NR.out
                  · have NR := Lib.hid (RAK.out (fun h => Bool.false_ne_true h.1))
                    clear RAK ALK
                    go_wp2
                    refine bodyPost_ret (res4 rfl _ _ _) rfl ?_
                    exact NO.out _ HZ.out.1.2.2.2 NR.out
                · obtain rfl : k = n := by omega
                  have f1 : ¬ (k : Int) < (k : Int) := by omega
                  go_wp2_with fail
                  refine (JN.out _ _ hst.out.2.1.bys).mono ?_
                  rintro e w4 h4
                  rcases join_cases h4 with ⟨hj, A4, n4, d4, rfl, hy4, hb4⟩ | ⟨hj, A4, n4, d4, rfl, hy4, hb4⟩
                  · have H4 := Lib.hid (And.intro (hst.out.1.below hb4) (By.mono (HREC.out ▸ hy4) (fun b _ h => Nat.le_trans hst.out.1.2.2.2.size h)))
                    have JT := Lib.hid hj
                    clear h4 hj hy4 hb4 c0 c1 c2 c3 c4 cf q0 q1 q2 q3 qf
                    go_wp2_with fail
                    refine (FG.out _ _ _ H4.out.2).mono ?_
                    rintro e w6 ⟨A6, d6, rfl, -, hb6⟩
                    have H6 := Lib.hid (And.intro (H4.out.1.below hb6) (By.below H4.out.2 hb6))
                    clear hb6
                    obtain ⟨q0, q1, q2, q3, qf⟩ := cells4 H6.out.1.2.2.1
                    by_cases hz : (getFr b).2 = 0
                    · have YE := Lib.hid (RY.out hst.out.2.2 JT.out hz)
                      rw [hz]
                      generalize (getFr b).1.length = n6 at *
                      go_wp2_with go_region
                      refine bodyPost_ret (res4 rfl _ _ _) rfl ?_
                      exact YES.out _ A4 n4 d4 _ YE.out rfl H6.out.2 H6.out.1.2.2.2.drew
                    · have NR := Lib.hid (RG.out hz)
                      generalize (getFr b).2 = zz at *
                      generalize (getFr b).1.length = n6 at *
                      go_wp2
                      refine bodyPost_ret (res4 rfl _ _ _) rfl ?_
                      exact NO.out _ H6.out.1.2.2.2 NR.out
                  · have NR := Lib.hid (RJ.out hj)
                    have B4 := Lib.hid (hst.out.1.below hb4)
                    clear h4 hj hy4 hb4 c0 c1 c2 c3 c4 cf q0 q1 q2 q3 qf
                    go_wp2
                    refine bodyPost_ret (res4 rfl _ _ _) rfl ?_
                    exact NO.out _ B4.out.2.2.2 NR.out
            · have NR := Lib.hid (RS.out (by rw [Bool.eq_false_iff, Ne, SI.out]; exact fun h => hco h.2.2.2.2.2))
              have he2 : ¬ (hasF c l lsn).ep < ep := by omega
              have fp : ((hPlace (hasF c l lsn).bd : Nat) : Int) = 0 := by omega
              have fc : most < ((hCount (hasF c l lsn).bd : Nat) : Int) := by omega
              clear hpl hco
              generalize ((hPlace (hasF c l lsn).bd : Nat) : Int) = pl at *
              generalize ((hCount (hasF c l lsn).bd : Nat) : Int) = nc at *
              subst fp
              generalize hSeq (hasF c l lsn).bd = zs at *
              generalize hasF c l lsn = hf at *
              unfold confV at *
              generalize l.length = nl at *
              generalize c.l.length = nu at *
              clear hv hh he HK RS SI hfb
              go_enter Try.func10, Try.ntmps10
              go_upto_region 1 with fail
              refine wp_world (S := fun X => KSt w X _ _ _ _ _) (KSt.mk_ w _ _ _ _ _) ?_
              intro X hX
              have HX := Lib.hid hX
              clear hX
              obtain ⟨c0, c1, c2, c3, c4, cf⟩ := cells5 HX.out.1
              go_wp2_with fail
              refine (HS.out _ HX.out.keep).mono ?_
              rintro e w1 ⟨A1, n1, d1, rfl, hy1, hb1⟩
              have H1 := Lib.hid (HX.out.below hb1)
              have Y1 := Lib.hid (And.intro hy1 hb1)
              clear hb1 hy1 c0 c1 c2 c3 c4 cf
              go_upto_region 2 with fail
              refine wp_world (S := fun X => OSt w X w1.heap.size _ _ _ _ _ _ _ _ _ ∧ By X (fun b => w.heap.size ≤ b) (.slice A1 n1 d1) hf.bd) ⟨H1.out.got _ _ _ _, By.mono (By.keep Y1.out.1 ((Keep.refl (fun _ => False) w1).alloc _) (fun _ _ _ h => h)) (fun b _ h => Nat.le_trans HX.out.2.size h)⟩ ?_
              rintro Y ⟨hY, hyb⟩
              have HY := Lib.hid hY
              have YB := Lib.hid hyb
              clear hY hyb H1 Y1
              generalize w1.heap.size = q at *
              obtain ⟨q0, q1, q2, q3, qf⟩ := cells4 HY.out.2.2.1
              go_wp2_with fail
              refine (PH.out _ _ _ YB.out).mono ?_
              rintro e w2 ⟨rfl, hb2⟩
              have H2 := Lib.hid (HY.out.below hb2)
              have Y2 := Lib.hid (By.below YB.out hb2)
              clear hb2 q0 q1 q2 q3 qf
              obtain ⟨q0, q1, q2, q3, qf⟩ := cells4 H2.out.2.2.1
              go_wp2
              refine bodyPost_ret (res4 rfl _ _ _) rfl ?_
              exact NO.out _ H2.out.2.2.2 NR.out
          · have NR := Lib.hid (RS.out (by rw [Bool.eq_false_iff, Ne, SI.out]; exact fun h => hsq h.2.2.2.2.1))
            have he2 : ¬ (hasF c l lsn).ep < ep := by omega
            have fp : ((hPlace (hasF c l lsn).bd : Nat) : Int) = 0 := by omega
            clear hpl
            generalize ((hPlace (hasF c l lsn).bd : Nat) : Int) = pl at *
            generalize ((hCount (hasF c l lsn).bd : Nat) : Int) = nc at *
            subst fp
            generalize hSeq (hasF c l lsn).bd = zs at *
            have fz : (zs != sq) = true := by simpa using hsq
            clear hsq
            generalize hasF c l lsn = hf at *
            unfold confV at *
            generalize l.length = nl at *
            generalize c.l.length = nu at *
            clear hv hh he HK RS SI hfb
            go_enter Try.func10, Try.ntmps10
            go_upto_region 1 with fail
            refine wp_world (S := fun X => KSt w X _ _ _ _ _) (KSt.mk_ w _ _ _ _ _) ?_
            intro X hX
            have HX := Lib.hid hX
            clear hX
            obtain ⟨c0, c1, c2, c3, c4, cf⟩ := cells5 HX.out.1
            go_wp2_with fail
            refine (HS.out _ HX.out.keep).mono ?_
            rintro e w1 ⟨A1, n1, d1, rfl, hy1, hb1⟩
            have H1 := Lib.hid (HX.out.below hb1)
            have Y1 := Lib.hid (And.intro hy1 hb1)
            clear hb1 hy1 c0 c1 c2 c3 c4 cf
            go_upto_region 2 with fail
            refine wp_world (S := fun X => OSt w X w1.heap.size _ _ _ _ _ _ _ _ _ ∧ By X (fun b => w.heap.size ≤ b) (.slice A1 n1 d1) hf.bd) ⟨H1.out.got _ _ _ _, By.mono (By.keep Y1.out.1 ((Keep.refl (fun _ => False) w1).alloc _) (fun _ _ _ h => h)) (fun b _ h => Nat.le_trans HX.out.2.size h)⟩ ?_
            rintro Y ⟨hY, hyb⟩
            have HY := Lib.hid hY
            have YB := Lib.hid hyb
            clear hY hyb H1 Y1
            generalize w1.heap.size = q at *
            obtain ⟨q0, q1, q2, q3, qf⟩ := cells4 HY.out.2.2.1
            go_wp2_with fail
            refine (PH.out _ _ _ YB.out).mono ?_
            rintro e w2 ⟨rfl, hb2⟩
            have H2 := Lib.hid (HY.out.below hb2)
            have Y2 := Lib.hid (By.below YB.out hb2)
            clear hb2 q0 q1 q2 q3 qf
            obtain ⟨q0, q1, q2, q3, qf⟩ := cells4 H2.out.2.2.1
            go_wp2
            refine bodyPost_ret (res4 rfl _ _ _) rfl ?_
            exact NO.out _ H2.out.2.2.2 NR.out
        · have NR := Lib.hid (RS.out (by rw [Bool.eq_false_iff, Ne, SI.out]; exact fun h => hpl h.2.2.2.1))
          have he2 : ¬ (hasF c l lsn).ep < ep := by omega
          have fp : ¬ ((hPlace (hasF c l lsn).bd : Nat) : Int) = 0 := by omega
          clear hpl
          generalize ((hPlace (hasF c l lsn).bd : Nat) : Int) = pl at *
          generalize ((hCount (hasF c l lsn).bd : Nat) : Int) = nc at *
          generalize hSeq (hasF c l lsn).bd = zs at *
          generalize hasF c l lsn = hf at *
          unfold confV at *
          generalize l.length = nl at *
          generalize c.l.length = nu at *
          clear hv hh he HK RS SI hfb
          go_enter Try.func10, Try.ntmps10
          go_upto_region 1 with fail
          refine wp_world (S := fun X => KSt w X _ _ _ _ _) (KSt.mk_ w _ _ _ _ _) ?_
          intro X hX
          have HX := Lib.hid hX
          clear hX
          obtain ⟨c0, c1, c2, c3, c4, cf⟩ := cells5 HX.out.1
          go_wp2_with fail
          refine (HS.out _ HX.out.keep).mono ?_
          rintro e w1 ⟨A1, n1, d1, rfl, hy1, hb1⟩
          have H1 := Lib.hid (HX.out.below hb1)
          have Y1 := Lib.hid (And.intro hy1 hb1)
          clear hb1 hy1 c0 c1 c2 c3 c4 cf
          go_upto_region 2 with fail
          refine wp_world (S := fun X => OSt w X w1.heap.size _ _ _ _ _ _ _ _ _ ∧ By X (fun b => w.heap.size ≤ b) (.slice A1 n1 d1) hf.bd) ⟨H1.out.got _ _ _ _, By.mono (By.keep Y1.out.1 ((Keep.refl (fun _ => False) w1).alloc _) (fun _ _ _ h => h)) (fun b _ h => Nat.le_trans HX.out.2.size h)⟩ ?_
          rintro Y ⟨hY, hyb⟩
          have HY := Lib.hid hY
          have YB := Lib.hid hyb
          clear hY hyb H1 Y1
          generalize w1.heap.size = q at *
          obtain ⟨q0, q1, q2, q3, qf⟩ := cells4 HY.out.2.2.1
          go_wp2_with fail
          refine (PH.out _ _ _ YB.out).mono ?_
          rintro e w2 ⟨rfl, hb2⟩
          have H2 := Lib.hid (HY.out.below hb2)
          have Y2 := Lib.hid (By.below YB.out hb2)
          clear hb2 q0 q1 q2 q3 qf
          obtain ⟨q0, q1, q2, q3, qf⟩ := cells4 H2.out.2.2.1
          go_wp2
          refine bodyPost_ret (res4 rfl _ _ _) rfl ?_
          exact NO.out _ H2.out.2.2.2 NR.out
      · have ho2 : headOk (hasF c l lsn).bd = false := by simpa using ho
        have NR := Lib.hid (RS.out (by rw [Bool.eq_false_iff, Ne, SI.out]; exact fun h => ho h.2.2.1))
        rw [headT_no ho2] at PH
        have he2 : ¬ (hasF c l lsn).ep < ep := by omega
        generalize hasF c l lsn = hf at *
        unfold confV at *
        generalize l.length = nl at *
        generalize c.l.length = nu at *
        clear hv hh he HK RS SI hfb
        go_enter Try.func10, Try.ntmps10
        go_upto_region 1 with fail
        refine wp_world (S := fun X => KSt w X _ _ _ _ _) (KSt.mk_ w _ _ _ _ _) ?_
        intro X hX
        have HX := Lib.hid hX
        clear hX
        obtain ⟨c0, c1, c2, c3, c4, cf⟩ := cells5 HX.out.1
        go_wp2_with fail
        refine (HS.out _ HX.out.keep).mono ?_
        rintro e w1 ⟨A1, n1, d1, rfl, hy1, hb1⟩
        have H1 := Lib.hid (HX.out.below hb1)
        have Y1 := Lib.hid (And.intro hy1 hb1)
        clear hb1 hy1 c0 c1 c2 c3 c4 cf
        go_upto_region 2 with fail
        refine wp_world (S := fun X => OSt w X w1.heap.size _ _ _ _ _ _ _ _ _ ∧ By X (fun b => w.heap.size ≤ b) (.slice A1 n1 d1) hf.bd) ⟨H1.out.got _ _ _ _, By.mono (By.keep Y1.out.1 ((Keep.refl (fun _ => False) w1).alloc _) (fun _ _ _ h => h)) (fun b _ h => Nat.le_trans HX.out.2.size h)⟩ ?_
        rintro Y ⟨hY, hyb⟩
        have HY := Lib.hid hY
        have YB := Lib.hid hyb
        clear hY hyb H1 Y1
        generalize w1.heap.size = q at *
        obtain ⟨q0, q1, q2, q3, qf⟩ := cells4 HY.out.2.2.1
        go_wp2_with fail
        refine (PH.out _ _ _ YB.out).mono ?_
        rintro e w2 ⟨rfl, hb2⟩
        have H2 := Lib.hid (HY.out.below hb2)
        have Y2 := Lib.hid (By.below YB.out hb2)
        clear hb2 q0 q1 q2 q3 qf
        obtain ⟨q0, q1, q2, q3, qf⟩ := cells4 H2.out.2.2.1
        go_wp2
        refine bodyPost_ret (res4 rfl _ _ _) rfl ?_
        exact NO.out _ H2.out.2.2.2 NR.out
    · have NR := Lib.hid (RS.out (by rw [Bool.eq_false_iff, Ne, SI.out]; exact fun h => he h.2.1))
      have he2 : (hasF c l lsn).ep < ep := by omega
      generalize hasF c l lsn = hf at *
      unfold confV at *
      generalize l.length = nl at *
      generalize c.l.length = nu at *
      clear hv hh he HK RS SI hfb
      go_enter Try.func10, Try.ntmps10
      go_upto_region 1 with fail
      refine wp_world (S := fun X => KSt w X _ _ _ _ _) (KSt.mk_ w _ _ _ _ _) ?_
      intro X hX
      have HX := Lib.hid hX
      clear hX
      obtain ⟨c0, c1, c2, c3, c4, cf⟩ := cells5 HX.out.1
      go_wp2_with fail
      refine (HS.out _ HX.out.keep).mono ?_
      rintro e w1 ⟨A1, n1, d1, rfl, hy1, hb1⟩
      have H1 := Lib.hid (HX.out.below hb1)
      have Y1 := Lib.hid (And.intro hy1 hb1)
      clear hb1 hy1 c0 c1 c2 c3 c4 cf
      go_upto_region 2 with fail
      refine wp_world (S := fun X => OSt w X w1.heap.size _ _ _ _ _ _ _ _ _ ∧ By X (fun b => w.heap.size ≤ b) (.slice A1 n1 d1) hf.bd) ⟨H1.out.got _ _ _ _, By.mono (By.keep Y1.out.1 ((Keep.refl (fun _ => False) w1).alloc _) (fun _ _ _ h => h)) (fun b _ h => Nat.le_trans HX.out.2.size h)⟩ ?_
      rintro Y ⟨hY, hyb⟩
      have HY := Lib.hid hY
      have YB := Lib.hid hyb
      clear hY hyb H1 Y1
      generalize w1.heap.size = q at *
      obtain ⟨q0, q1, q2, q3, qf⟩ := cells4 HY.out.2.2.1
      go_wp2
      refine bodyPost_ret (res4 rfl _ _ _) rfl ?_
      exact NO.out _ HY.out.2.2.2 NR.out
  · have hh2 : hasB c l lsn = false := by simpa using hh
    have NR := Lib.hid (RS.out (by rw [Bool.eq_false_iff, Ne, SI.out]; exact fun h => hh h.1))
    rw [hh2] at HS
    generalize hasF c l lsn = hf at *
    unfold confV at *
    generalize l.length = nl at *
    generalize c.l.length = nu at *
    clear hv hh hh2 HK RS SI PH hfb
    go_enter Try.func10, Try.ntmps10
    go_upto_region 1 with fail
    refine wp_world (S := fun X => KSt w X _ _ _ _ _) (KSt.mk_ w _ _ _ _ _) ?_
    intro X hX
    have HX := Lib.hid hX
    clear hX
    obtain ⟨c0, c1, c2, c3, c4, cf⟩ := cells5 HX.out.1
    go_wp2_with fail
    refine (HS.out _ HX.out.keep).mono ?_
    rintro e w1 ⟨A1, n1, d1, rfl, hy1, hb1⟩
    have H1 := Lib.hid (HX.out.below hb1)
    have Y1 := Lib.hid hy1
    clear hb1 hy1 c0 c1 c2 c3 c4 cf
    go_wp2
    refine bodyPost_ret (res4 rfl _ _ _) rfl ?_
    exact NO.out _ (H1.out.2.alloc H1.out.2.size _) NR.out
end Go.Proofs.Ytfjgbnnjfapcmaa
namespace Go.Proofs.Ytfjgbnnjfapcmaa
open Go.RowKit
set_option maxRecDepth 100000
set_option linter.unusedVariables false
set_option linter.unusedSimpArgs false

set_option maxHeartbeats 8000000 in
theorem rone_any (c : Cf) (u : Value) (F : Nat → Prop) (l : List (List UInt8)) (v : Value) (G : Nat → Prop) (lsn ep sq most : Int) (w : World) (hu : CL w F u c.l) (hv : Bys w G v l) (hs : ∀ x ∈ c.l, x.nm.size ≤ 4611686018427387904) :
    Calls Try.prog 11 #[confV c u, v, .int .i64 lsn, .int .i64 ep, .int .i64 sq, .int .i64 most] w (OneP w c l lsn ep sq most) := by
  have HS := Lib.hid (fun W (hk : Keep (fun _ => False) w W) => rhas_any c u F l v G lsn W (hu.same hk) (hv.keep hk (fun _ _ _ h => h)) hs)
  have HK := Lib.hid (fun (k : Nat) W (hk : Keep (fun _ => False) w W) => rhas_any c u F l v G (lsn + k) W (hu.same hk) (hv.keep hk (fun _ _ _ h => h)) hs)
  clear hs
  obtain ⟨ib, hib, hb0, hb1, hb2⟩ := info_parts info_bytes
  obtain ⟨A, cap, rfl, -⟩ := hv.form
  obtain ⟨Au, cu, rfl, -⟩ := hu
  have NO := Lib.hid (fun w' (hb : Below w.heap.size w w') (h : recB c l lsn ep sq most = false) => one_no h hb)
  have RS := Lib.hid (@rec_start c l lsn ep sq most)
  have SI := Lib.hid (@startB_iff c l lsn ep sq most)
  have hfb := hasF_bd c l lsn
  have PH := Lib.hid (fun W x G (h : By W G x (hasF c l lsn).bd) => show Calls Try.prog 35 #[x] W fun e w' => e = .returned (headT (hasF c l lsn).bd) ∧ Below W.heap.size W w' from (rhead_any (hasF c l lsn).bd x G W h).mono (by rintro e w' ⟨rfl, rfl⟩; exact ⟨rfl, Below.refl _ _⟩))
  by_cases hh : hasB c l lsn = true
  · rw [hh] at HS
    by_cases ho : headOk (hasF c l lsn).bd = true
    · rw [headT_yes ho] at PH
      by_cases he : ep ≤ (hasF c l lsn).ep
      · by_cases hpl : hPlace (hasF c l lsn).bd = 0
        · by_cases hsq : hSeq (hasF c l lsn).bd = sq
          · by_cases hco : (hCount (hasF c l lsn).bd : Int) ≤ most
            · have SB := Lib.hid (SI.out.2 ⟨hh, he, ho, hpl, hsq, hco⟩)
              have hcnt := of_decide_eq_true ho
              obtain ⟨-, -, n1, n2, -⟩ := hcnt
              have hpla := (placeB_iff.1 (hasB_iff.1 hh).1).2.2
              obtain ⟨l0, l1⟩ := hpla
              have PN := Lib.hid (fun k => pcs_next c l lsn k)
              have PL := Lib.hid (fun k => pcs_len c l lsn k)
              have AL0 := Lib.hid (allTo_zero c l lsn)
              have FG0 := Lib.hid (fun W u G (h : By W G u []) => rfget_any [] u G W h (by simp))
              have ALN := Lib.hid (fun k => @allTo_next c l lsn k)
              have RA := Lib.hid (fun k => @rec_all c l lsn ep sq most k)
              have RJ := Lib.hid (@rec_join c l lsn ep sq most)
              have RG := Lib.hid (@rec_get c l lsn ep sq most)
              have RY := Lib.hid (show allTo c l lsn (cntF c l lsn) → joinOk (pcs c l lsn (cntF c l lsn)) = true → (getFr (recF c l lsn)).2 = 0 → recB c l lsn ep sq most = true from fun a b d => recB_iff.2 ⟨SB.out, a, b, d⟩)
              have YES := Lib.hid (fun w' A n cc z => @one_yes w w' c l lsn ep sq most A n cc z)
              have hjl := join_pcs_le c l lsn (cntF c l lsn)
              have hcf : cntF c l lsn = hCount (hasF c l lsn).bd := rfl
              have JN := Lib.hid (fun W u (h : Bys W (fun _ => True) u (pcs c l lsn (cntF c l lsn))) => rjoin_any (pcs c l lsn (cntF c l lsn)) u (fun _ => True) W h (by omega) (by rw [pcs_len]; omega))
              have FG := Lib.hid (fun W u G (h : By W G u (recF c l lsn)) => rfget_any (recF c l lsn) u G W h (by unfold recF; omega))
              have hrec : joinB (pcs c l lsn (cntF c l lsn)) = recF c l lsn := rfl
              have HREC := Lib.hid hrec
              rw [← hcf] at PH n1 n2 hco
              have fp : ((hPlace (hasF c l lsn).bd : Nat) : Int) = 0 := by omega
              have fco : ¬ most < (cntF c l lsn : Int) := by omega
              rw [hsq] at PH
              have f1 : IntKind.i64.wrap (lsn + 0) = lsn + 0 := IntWalk.i64_in _ (by omega)
              clear hpl hsq hco hcf hrec hjl hh ho
              generalize ((hPlace (hasF c l lsn).bd : Nat) : Int) = pl at *
              subst fp
              generalize cntF c l lsn = n at *
              generalize recF c l lsn = b at *
              have he2 : ¬ (hasF c l lsn).ep < ep := by omega
              generalize hasF c l lsn = hf at *
              unfold confV at *
              generalize l.length = nl at *
              generalize c.l.length = nu at *
              clear hv he RS SI hfb f1
              go_enter Try.func11, Try.ntmps11
              go_upto_region 1 with fail
              refine wp_world (S := fun X => KSt w X _ _ _ _ _) (KSt.mk_ w _ _ _ _ _) ?_
              intro X hX
              have HX := Lib.hid hX
              clear hX
              obtain ⟨c0, c1, c2, c3, c4, cf⟩ := cells5 HX.out.1
              go_wp2_with fail
              refine (HS.out _ HX.out.keep).mono ?_
              rintro e w1 ⟨A1, n1, d1, rfl, hy1, hb1⟩
              have H1 := Lib.hid (HX.out.below hb1)
              have Y1 := Lib.hid (And.intro hy1 hb1)
              clear hb1 hy1 c0 c1 c2 c3 c4 cf
              go_upto_region 2 with fail
              refine wp_world (S := fun X => OSt w X w1.heap.size _ _ _ _ _ _ _ _ _ ∧ By X (fun b => w.heap.size ≤ b) (.slice A1 n1 d1) hf.bd) ⟨H1.out.got _ _ _ _, By.mono (By.keep Y1.out.1 ((Keep.refl (fun _ => False) w1).alloc _) (fun _ _ _ h => h)) (fun b _ h => Nat.le_trans HX.out.2.size h)⟩ ?_
              rintro Y ⟨hY, hyb⟩
              have HY := Lib.hid hY
              have YB := Lib.hid hyb
              clear hY hyb H1 Y1
              generalize w1.heap.size = q at *
              obtain ⟨q0, q1, q2, q3, qf⟩ := cells4 HY.out.2.2.1
              go_wp2_with fail
              refine (PH.out _ _ _ YB.out).mono ?_
              rintro e w2 ⟨rfl, hb2⟩
              have H2 := Lib.hid (HY.out.below hb2)
              have Y2 := Lib.hid (By.below YB.out hb2)
              clear hb2 q0 q1 q2 q3 qf
              obtain ⟨q0, q1, q2, q3, qf⟩ := cells4 H2.out.2.2.1
              go_wp2
              go_loopw [22, 23] (fun s i wr => ∃ k : Nat, k ≤ n ∧ i = .int .i64 k ∧ Hid (OSt w wr q (.int .i64 c.log) (.int .i64 c.pages) (.int .i64 c.ents) (.int .i64 c.gens) (.slice Au nu cu) (.int .i64 hf.ep) (.int .i64 hf.no) (.int .i64 hf.kd) (.slice A1 n1 d1) ∧ NB bsN (q + 1) 29 wr s (pcs c l lsn k) ∧ allTo c l lsn k)) (fun _ i _ => n - (intOf i).toNat)
              case atStart => exact ⟨0, by omega, rfl, Lib.hid ⟨H2.out, by exact NB.nil _ _ _ _, AL0.out⟩⟩
              case round =>
                obtain ⟨k, hk, rfl, hst⟩ := hrel
                obtain ⟨Ap, cp, es⟩ := hst.out.2.1.form
                rw [PL.out] at es
                subst es
                obtain ⟨c0, c1, c2, c3, c4, cf⟩ := cells5 hst.out.1.1
                obtain ⟨q0, q1, q2, q3, qf⟩ := cells4 hst.out.1.2.2.1
                by_cases hlt : k < n
                · have f1 : (k : Int) < (n : Int) := by omega
                  have e1 : IntKind.i64.wrap (lsn + (k : Int)) = lsn + (k : Int) := IntWalk.i64_in _ (by omega)
                  go_wp2_with fail
                  refine (HK.out k _ hst.out.1.keep).mono ?_
                  rintro e w3 ⟨A3, n3, d3, rfl, hy3, hb3⟩
                  have H3 := Lib.hid (And.intro (hst.out.1.below hb3) (And.intro (hst.out.2.1.same (Keep.of_below' hb3)) (And.intro hy3 hb3)))
                  have OL := Lib.hid (fun e (h : ownB (.slice Ap k cp) = some e) => hst.out.2.1.own_lt h)
                  clear hy3 hb3 c0 c1 c2 c3 c4 cf q0 q1 q2 q3 qf
                  have RAK := Lib.hid (RA.out k hlt)
                  have ALK := Lib.hid (ALN.out k hst.out.2.2)
                  have PNK := Lib.hid (PN.out k)
                  generalize hasB c l (lsn + (k : Int)) = hb at *
                  generalize hasF c l (lsn + (k : Int)) = y at *
                  go_upto_region 10 with fail
                  refine wp_world (S := fun X => OSt w X q (.int .i64 c.log) (.int .i64 c.pages) (.int .i64 c.ents) (.int .i64 c.gens) (.slice Au nu cu) (.int .i64 hf.ep) (.int .i64 hf.no) (.int .i64 hf.kd) (.slice A1 n1 d1) ∧ NB bsN (q + 1) 29 X (.slice Ap k cp) (pcs c l lsn k) ∧ By X (fun b => wr.heap.size ≤ b) (.slice A3 n3 d3) y.bd ∧ X.heap[w3.heap.size]? = some (.cells #[.int .i64 y.ep, .int .i64 y.no, .int .i64 y.kd, .slice A3 n3 d3] 33 (0, 0))) ⟨H3.out.1.below ((Below.refl _ w3).alloc (Nat.le_refl _) _), H3.out.2.1.same ((Keep.refl _ w3).alloc _), By.keep H3.out.2.2.1 ((Keep.refl (fun _ => False) w3).alloc _) (fun _ _ _ h => h), heap_alloc_new w3 _⟩ ?_
                  rintro Z ⟨z1, z2, z3, z4⟩
                  have HZ := Lib.hid (And.intro z1 (And.intro z2 (And.intro z3 z4)))
                  obtain ⟨q0, q1, q2, q3, qf⟩ := cells4 z1.2.2.1
                  obtain ⟨y0, y1, y2, y3, yf⟩ := cells4 z4
                  clear z1 z2 z3 z4
                  generalize w3.heap.size = g at *
                  rcases Bool.eq_false_or_eq_true hb with rfl | rfl
                  · by_cases he3 : y.ep = hf.ep
                    · have fe : (y.ep != hf.ep) = false := by simpa using he3
                      have ALK2 := Lib.hid (ALK.out rfl he3)
                      clear he3 RAK ALK
                      go_wp2_with (at_builtin; refine wpList_push rfl _ _ _ rfl bsN (q + 1) 29 ib _ 24 Try.underlying25 hib hb0 hb1 hb2 rfl _ (pcs c l lsn k) k (PL.out k) rfl (HZ.out.2.1.same ((Keep.refl _ Z).alloc _)) Z.heap.size 1 y.bd (.slice A3 n3 d3) rfl (lit_cells Z _ _) ((By.keep HZ.out.2.2.1 ((Keep.refl (fun _ => False) Z).alloc _) (fun _ _ _ h => h)).mono (fun b _ h e => by have := (OL.out b e).2; omega)) ?c1 ?c2 ?c3 ?_)
                      case c1 => unfold maxLen; omega
                      case c2 => omega
                      case c3 => have := HZ.out.1.lt; simp; omega
                      intro A5 c5 w5 hn5 hk5
                      have H5 := Lib.hid (And.intro ((HZ.out.1.below ((Below.refl _ Z).alloc (Nat.le_refl _) _)).keep_ hk5 (fun x hx => by have := (OL.out x hx).1; omega)) (And.intro hn5 ALK2.out))
                      clear hn5 hk5 q0 q1 q2 q3 qf y0 y1 y2 y3 yf
                      go_wp2
                      go_roundw
                      case rel => exact ⟨k + 1, by omega, by go_num, by rw [PNK.out]; exact Lib.hid H5.out⟩
                      case measure => simp [intOf]; omega
                    · have fe : (y.ep != hf.ep) = true := by simpa using he3
                      have NR := Lib.hid (RAK.out (fun h => he3 h.2))
                      clear he3 RAK ALK
                      go_wp2
                      refine bodyPost_ret (res4 rfl _ _ _) rfl ?_
                      exact NO.out _ HZ.out.1.2.2.2 NR.out
                  · have NR := Lib.hid (RAK.out (fun h => Bool.false_ne_true h.1))
                    clear RAK ALK
                    go_wp2
                    refine bodyPost_ret (res4 rfl _ _ _) rfl ?_
                    exact NO.out _ HZ.out.1.2.2.2 NR.out
                · obtain rfl : k = n := by omega
                  have f1 : ¬ (k : Int) < (k : Int) := by omega
                  go_wp2_with fail
                  refine (JN.out _ _ hst.out.2.1.bys).mono ?_
                  rintro e w4 h4
                  rcases join_cases h4 with ⟨hj, A4, n4, d4, rfl, hy4, hb4⟩ | ⟨hj, A4, n4, d4, rfl, hy4, hb4⟩
                  · have H4 := Lib.hid (And.intro (hst.out.1.below hb4) (By.mono (HREC.out ▸ hy4) (fun b _ h => Nat.le_trans hst.out.1.2.2.2.size h)))
                    have JT := Lib.hid hj
                    clear h4 hj hy4 hb4 c0 c1 c2 c3 c4 cf q0 q1 q2 q3 qf
                    go_wp2_with fail
                    refine (FG.out _ _ _ H4.out.2).mono ?_
                    rintro e w6 ⟨A6, d6, rfl, -, hb6⟩
                    have H6 := Lib.hid (And.intro (H4.out.1.below hb6) (By.below H4.out.2 hb6))
                    clear hb6
                    obtain ⟨q0, q1, q2, q3, qf⟩ := cells4 H6.out.1.2.2.1
                    by_cases hz : (getFr b).2 = 0
                    · have YE := Lib.hid (RY.out hst.out.2.2 JT.out hz)
                      rw [hz]
                      generalize (getFr b).1.length = n6 at *
                      go_wp2_with go_region
                      refine bodyPost_ret (res4 rfl _ _ _) rfl ?_
                      exact YES.out _ A4 n4 d4 _ YE.out rfl H6.out.2 H6.out.1.2.2.2.drew
                    · have NR := Lib.hid (RG.out hz)
                      generalize (getFr b).2 = zz at *
                      generalize (getFr b).1.length = n6 at *
                      go_wp2
                      refine bodyPost_ret (res4 rfl _ _ _) rfl ?_
                      exact NO.out _ H6.out.1.2.2.2 NR.out
                  · have NR := Lib.hid (RJ.out hj)
                    have B4 := Lib.hid (And.intro (hst.out.1.below hb4) hy4)
                    clear h4 hj hy4 hb4 c0 c1 c2 c3 c4 cf q0 q1 q2 q3 qf
                    go_wp2_with fail
                    refine (FG0.out _ _ _ B4.out.2).mono ?_
                    rintro e w6 ⟨A6, d6, rfl, -, hb6⟩
                    have H6 := Lib.hid (B4.out.1.below hb6)
                    clear hb6
                    generalize (getFr []).2 = zz at *
                    generalize (getFr []).1.length = n6 at *
                    go_wp2
                    refine bodyPost_ret (res4 rfl _ _ _) rfl ?_
                    exact NO.out _ H6.out.2.2.2 NR.out
            · have NR := Lib.hid (RS.out (by rw [Bool.eq_false_iff, Ne, SI.out]; exact fun h => hco h.2.2.2.2.2))
              have fp : ((hPlace (hasF c l lsn).bd : Nat) : Int) = 0 := by omega
              have fc : most < ((hCount (hasF c l lsn).bd : Nat) : Int) := by omega
              rw [hsq] at PH
              clear hpl hco hsq
              have he2 : ¬ (hasF c l lsn).ep < ep := by omega
              generalize ((hPlace (hasF c l lsn).bd : Nat) : Int) = pl at *
              generalize ((hCount (hasF c l lsn).bd : Nat) : Int) = nc at *
              subst fp
              generalize hasF c l lsn = hf at *
              unfold confV at *
              generalize l.length = nl at *
              generalize c.l.length = nu at *
              clear hv HK RS SI hfb
              go_enter Try.func11, Try.ntmps11
              go_upto_region 1 with fail
              refine wp_world (S := fun X => KSt w X _ _ _ _ _) (KSt.mk_ w _ _ _ _ _) ?_
              intro X hX
              have HX := Lib.hid hX
              clear hX
              obtain ⟨c0, c1, c2, c3, c4, cf⟩ := cells5 HX.out.1
              go_wp2_with fail
              refine (HS.out _ HX.out.keep).mono ?_
              rintro e w1 ⟨A1, n1, d1, rfl, hy1, hb1⟩
              have H1 := Lib.hid (HX.out.below hb1)
              have Y1 := Lib.hid (And.intro hy1 hb1)
              clear hb1 hy1 c0 c1 c2 c3 c4 cf
              go_upto_region 2 with fail
              refine wp_world (S := fun X => OSt w X w1.heap.size _ _ _ _ _ _ _ _ _ ∧ By X (fun b => w.heap.size ≤ b) (.slice A1 n1 d1) hf.bd) ⟨H1.out.got _ _ _ _, By.mono (By.keep Y1.out.1 ((Keep.refl (fun _ => False) w1).alloc _) (fun _ _ _ h => h)) (fun b _ h => Nat.le_trans HX.out.2.size h)⟩ ?_
              rintro Y ⟨hY, hyb⟩
              have HY := Lib.hid hY
              have YB := Lib.hid hyb
              clear hY hyb H1 Y1
              generalize w1.heap.size = q at *
              obtain ⟨q0, q1, q2, q3, qf⟩ := cells4 HY.out.2.2.1
              go_wp2_with fail
              refine (PH.out _ _ _ YB.out).mono ?_
              rintro e w2 ⟨rfl, hb2⟩
              have H2 := Lib.hid (HY.out.below hb2)
              have Y2 := Lib.hid (By.below YB.out hb2)
              clear hb2 q0 q1 q2 q3 qf
              obtain ⟨q0, q1, q2, q3, qf⟩ := cells4 H2.out.2.2.1
              go_wp2
              refine bodyPost_ret (res4 rfl _ _ _) rfl ?_
              exact NO.out _ H2.out.2.2.2 NR.out
          · have NR := Lib.hid (RS.out (by rw [Bool.eq_false_iff, Ne, SI.out]; exact fun h => hsq h.2.2.2.2.1))
            have fp : ((hPlace (hasF c l lsn).bd : Nat) : Int) = 0 := by omega
            have fz : (hSeq (hasF c l lsn).bd != sq) = true := by simpa using hsq
            clear hpl hsq
            have he2 : ¬ (hasF c l lsn).ep < ep := by omega
            generalize ((hPlace (hasF c l lsn).bd : Nat) : Int) = pl at *
            generalize ((hCount (hasF c l lsn).bd : Nat) : Int) = nc at *
            generalize hSeq (hasF c l lsn).bd = zs at *
            subst fp
            generalize hasF c l lsn = hf at *
            unfold confV at *
            generalize l.length = nl at *
            generalize c.l.length = nu at *
            clear hv HK RS SI hfb
            go_enter Try.func11, Try.ntmps11
            go_upto_region 1 with fail
            refine wp_world (S := fun X => KSt w X _ _ _ _ _) (KSt.mk_ w _ _ _ _ _) ?_
            intro X hX
            have HX := Lib.hid hX
            clear hX
            obtain ⟨c0, c1, c2, c3, c4, cf⟩ := cells5 HX.out.1
            go_wp2_with fail
            refine (HS.out _ HX.out.keep).mono ?_
            rintro e w1 ⟨A1, n1, d1, rfl, hy1, hb1⟩
            have H1 := Lib.hid (HX.out.below hb1)
            have Y1 := Lib.hid (And.intro hy1 hb1)
            clear hb1 hy1 c0 c1 c2 c3 c4 cf
            go_upto_region 2 with fail
            refine wp_world (S := fun X => OSt w X w1.heap.size _ _ _ _ _ _ _ _ _ ∧ By X (fun b => w.heap.size ≤ b) (.slice A1 n1 d1) hf.bd) ⟨H1.out.got _ _ _ _, By.mono (By.keep Y1.out.1 ((Keep.refl (fun _ => False) w1).alloc _) (fun _ _ _ h => h)) (fun b _ h => Nat.le_trans HX.out.2.size h)⟩ ?_
            rintro Y ⟨hY, hyb⟩
            have HY := Lib.hid hY
            have YB := Lib.hid hyb
            clear hY hyb H1 Y1
            generalize w1.heap.size = q at *
            obtain ⟨q0, q1, q2, q3, qf⟩ := cells4 HY.out.2.2.1
            go_wp2_with fail
            refine (PH.out _ _ _ YB.out).mono ?_
            rintro e w2 ⟨rfl, hb2⟩
            have H2 := Lib.hid (HY.out.below hb2)
            have Y2 := Lib.hid (By.below YB.out hb2)
            clear hb2 q0 q1 q2 q3 qf
            obtain ⟨q0, q1, q2, q3, qf⟩ := cells4 H2.out.2.2.1
            go_wp2
            refine bodyPost_ret (res4 rfl _ _ _) rfl ?_
            exact NO.out _ H2.out.2.2.2 NR.out
        · have NR := Lib.hid (RS.out (by rw [Bool.eq_false_iff, Ne, SI.out]; exact fun h => hpl h.2.2.2.1))
          have fp : 0 < ((hPlace (hasF c l lsn).bd : Nat) : Int) := by omega
          clear hpl
          have he2 : ¬ (hasF c l lsn).ep < ep := by omega
          generalize ((hPlace (hasF c l lsn).bd : Nat) : Int) = pl at *
          generalize ((hCount (hasF c l lsn).bd : Nat) : Int) = nc at *
          generalize hSeq (hasF c l lsn).bd = zs at *
          generalize hasF c l lsn = hf at *
          unfold confV at *
          generalize l.length = nl at *
          generalize c.l.length = nu at *
          clear hv HK RS SI hfb
          go_enter Try.func11, Try.ntmps11
          go_upto_region 1 with fail
          refine wp_world (S := fun X => KSt w X _ _ _ _ _) (KSt.mk_ w _ _ _ _ _) ?_
          intro X hX
          have HX := Lib.hid hX
          clear hX
          obtain ⟨c0, c1, c2, c3, c4, cf⟩ := cells5 HX.out.1
          go_wp2_with fail
          refine (HS.out _ HX.out.keep).mono ?_
          rintro e w1 ⟨A1, n1, d1, rfl, hy1, hb1⟩
          have H1 := Lib.hid (HX.out.below hb1)
          have Y1 := Lib.hid (And.intro hy1 hb1)
          clear hb1 hy1 c0 c1 c2 c3 c4 cf
          go_upto_region 2 with fail
          refine wp_world (S := fun X => OSt w X w1.heap.size _ _ _ _ _ _ _ _ _ ∧ By X (fun b => w.heap.size ≤ b) (.slice A1 n1 d1) hf.bd) ⟨H1.out.got _ _ _ _, By.mono (By.keep Y1.out.1 ((Keep.refl (fun _ => False) w1).alloc _) (fun _ _ _ h => h)) (fun b _ h => Nat.le_trans HX.out.2.size h)⟩ ?_
          rintro Y ⟨hY, hyb⟩
          have HY := Lib.hid hY
          have YB := Lib.hid hyb
          clear hY hyb H1 Y1
          generalize w1.heap.size = q at *
          obtain ⟨q0, q1, q2, q3, qf⟩ := cells4 HY.out.2.2.1
          go_wp2_with fail
          refine (PH.out _ _ _ YB.out).mono ?_
          rintro e w2 ⟨rfl, hb2⟩
          have H2 := Lib.hid (HY.out.below hb2)
          have Y2 := Lib.hid (By.below YB.out hb2)
          clear hb2 q0 q1 q2 q3 qf
          obtain ⟨q0, q1, q2, q3, qf⟩ := cells4 H2.out.2.2.1
          go_wp2
          refine bodyPost_ret (res4 rfl _ _ _) rfl ?_
          exact NO.out _ H2.out.2.2.2 NR.out
      · have NR := Lib.hid (RS.out (by rw [Bool.eq_false_iff, Ne, SI.out]; exact fun h => he h.2.1))
        have he3 : (hasF c l lsn).ep < ep := by omega
        generalize ((hPlace (hasF c l lsn).bd : Nat) : Int) = pl at *
        generalize ((hCount (hasF c l lsn).bd : Nat) : Int) = nc at *
        generalize hSeq (hasF c l lsn).bd = zs at *
        generalize hasF c l lsn = hf at *
        unfold confV at *
        generalize l.length = nl at *
        generalize c.l.length = nu at *
        clear hv HK RS SI hfb
        go_enter Try.func11, Try.ntmps11
        go_upto_region 1 with fail
        refine wp_world (S := fun X => KSt w X _ _ _ _ _) (KSt.mk_ w _ _ _ _ _) ?_
        intro X hX
        have HX := Lib.hid hX
        clear hX
        obtain ⟨c0, c1, c2, c3, c4, cf⟩ := cells5 HX.out.1
        go_wp2_with fail
        refine (HS.out _ HX.out.keep).mono ?_
        rintro e w1 ⟨A1, n1, d1, rfl, hy1, hb1⟩
        have H1 := Lib.hid (HX.out.below hb1)
        have Y1 := Lib.hid (And.intro hy1 hb1)
        clear hb1 hy1 c0 c1 c2 c3 c4 cf
        go_upto_region 2 with fail
        refine wp_world (S := fun X => OSt w X w1.heap.size _ _ _ _ _ _ _ _ _ ∧ By X (fun b => w.heap.size ≤ b) (.slice A1 n1 d1) hf.bd) ⟨H1.out.got _ _ _ _, By.mono (By.keep Y1.out.1 ((Keep.refl (fun _ => False) w1).alloc _) (fun _ _ _ h => h)) (fun b _ h => Nat.le_trans HX.out.2.size h)⟩ ?_
        rintro Y ⟨hY, hyb⟩
        have HY := Lib.hid hY
        have YB := Lib.hid hyb
        clear hY hyb H1 Y1
        generalize w1.heap.size = q at *
        obtain ⟨q0, q1, q2, q3, qf⟩ := cells4 HY.out.2.2.1
        go_wp2_with fail
        refine (PH.out _ _ _ YB.out).mono ?_
        rintro e w2 ⟨rfl, hb2⟩
        have H2 := Lib.hid (HY.out.below hb2)
        have Y2 := Lib.hid (By.below YB.out hb2)
        clear hb2 q0 q1 q2 q3 qf
        obtain ⟨q0, q1, q2, q3, qf⟩ := cells4 H2.out.2.2.1
        go_wp2
        refine bodyPost_ret (res4 rfl _ _ _) rfl ?_
        exact NO.out _ H2.out.2.2.2 NR.out
    · have ho2 : headOk (hasF c l lsn).bd = false := by simpa using ho
      rw [headT_no ho2] at PH
      have NR := Lib.hid (RS.out (by rw [Bool.eq_false_iff, Ne, SI.out]; exact fun h => ho h.2.2.1))
      generalize hasF c l lsn = hf at *
      unfold confV at *
      generalize l.length = nl at *
      generalize c.l.length = nu at *
      clear hv HK RS SI hfb
      go_enter Try.func11, Try.ntmps11
      go_upto_region 1 with fail
      refine wp_world (S := fun X => KSt w X _ _ _ _ _) (KSt.mk_ w _ _ _ _ _) ?_
      intro X hX
      have HX := Lib.hid hX
      clear hX
      obtain ⟨c0, c1, c2, c3, c4, cf⟩ := cells5 HX.out.1
      go_wp2_with fail
      refine (HS.out _ HX.out.keep).mono ?_
      rintro e w1 ⟨A1, n1, d1, rfl, hy1, hb1⟩
      have H1 := Lib.hid (HX.out.below hb1)
      have Y1 := Lib.hid (And.intro hy1 hb1)
      clear hb1 hy1 c0 c1 c2 c3 c4 cf
      go_upto_region 2 with fail
      refine wp_world (S := fun X => OSt w X w1.heap.size _ _ _ _ _ _ _ _ _ ∧ By X (fun b => w.heap.size ≤ b) (.slice A1 n1 d1) hf.bd) ⟨H1.out.got _ _ _ _, By.mono (By.keep Y1.out.1 ((Keep.refl (fun _ => False) w1).alloc _) (fun _ _ _ h => h)) (fun b _ h => Nat.le_trans HX.out.2.size h)⟩ ?_
      rintro Y ⟨hY, hyb⟩
      have HY := Lib.hid hY
      have YB := Lib.hid hyb
      clear hY hyb H1 Y1
      generalize w1.heap.size = q at *
      obtain ⟨q0, q1, q2, q3, qf⟩ := cells4 HY.out.2.2.1
      go_wp2_with fail
      refine (PH.out _ _ _ YB.out).mono ?_
      rintro e w2 ⟨rfl, hb2⟩
      have H2 := Lib.hid (HY.out.below hb2)
      have Y2 := Lib.hid (By.below YB.out hb2)
      clear hb2 q0 q1 q2 q3 qf
      obtain ⟨q0, q1, q2, q3, qf⟩ := cells4 H2.out.2.2.1
      go_wp2
      refine bodyPost_ret (res4 rfl _ _ _) rfl ?_
      exact NO.out _ H2.out.2.2.2 NR.out
  · have hh2 : hasB c l lsn = false := by simpa using hh
    have ho2 : headOk (hasF c l lsn).bd = false := by rw [hasF_no hh2]; rfl
    rw [headT_no ho2] at PH
    rw [hh2] at HS
    have NR := Lib.hid (RS.out (by rw [Bool.eq_false_iff, Ne, SI.out]; exact fun h => hh h.1))
    generalize hasF c l lsn = hf at *
    unfold confV at *
    generalize l.length = nl at *
    generalize c.l.length = nu at *
    clear hv HK RS SI hfb
    go_enter Try.func11, Try.ntmps11
    go_upto_region 1 with fail
    refine wp_world (S := fun X => KSt w X _ _ _ _ _) (KSt.mk_ w _ _ _ _ _) ?_
    intro X hX
    have HX := Lib.hid hX
    clear hX
    obtain ⟨c0, c1, c2, c3, c4, cf⟩ := cells5 HX.out.1
    go_wp2_with fail
    refine (HS.out _ HX.out.keep).mono ?_
    rintro e w1 ⟨A1, n1, d1, rfl, hy1, hb1⟩
    have H1 := Lib.hid (HX.out.below hb1)
    have Y1 := Lib.hid (And.intro hy1 hb1)
    clear hb1 hy1 c0 c1 c2 c3 c4 cf
    go_upto_region 2 with fail
    refine wp_world (S := fun X => OSt w X w1.heap.size _ _ _ _ _ _ _ _ _ ∧ By X (fun b => w.heap.size ≤ b) (.slice A1 n1 d1) hf.bd) ⟨H1.out.got _ _ _ _, By.mono (By.keep Y1.out.1 ((Keep.refl (fun _ => False) w1).alloc _) (fun _ _ _ h => h)) (fun b _ h => Nat.le_trans HX.out.2.size h)⟩ ?_
    rintro Y ⟨hY, hyb⟩
    have HY := Lib.hid hY
    have YB := Lib.hid hyb
    clear hY hyb H1 Y1
    generalize w1.heap.size = q at *
    obtain ⟨q0, q1, q2, q3, qf⟩ := cells4 HY.out.2.2.1
    go_wp2_with fail
    refine (PH.out _ _ _ YB.out).mono ?_
    rintro e w2 ⟨rfl, hb2⟩
    have H2 := Lib.hid (HY.out.below hb2)
    have Y2 := Lib.hid (By.below YB.out hb2)
    clear hb2 q0 q1 q2 q3 qf
    obtain ⟨q0, q1, q2, q3, qf⟩ := cells4 H2.out.2.2.1
    go_wp2
    refine bodyPost_ret (res4 rfl _ _ _) rfl ?_
    exact NO.out _ H2.out.2.2.2 NR.out
end Go.Proofs.Ytfjgbnnjfapcmaa

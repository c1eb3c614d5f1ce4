/- flow.Of of a new core; vivariumlaw22.live. -/
import Derived.Test.YtdeifjnhbdkkgaaGreatDoorFw8
import Derived.Test.YtdeifjnhbdkkgaaGreatDoorComp7
import Derived.Test.YtdeifjnhbdkkgaaGreatDoorEcsA
namespace Go.Proofs.YtdeifjnhbdkkgaaGreatDoor
open Go.RowKit
set_option maxRecDepth 100000
set_option linter.unusedVariables false
set_option linter.unusedSimpArgs false

theorem leB_zero : leB (word 0) (wideN 4) = [0, 0, 0, 0] := by decide +kernel
/-- Four zero bytes more. -/
theorem nums_none (l : List UInt8) (v : Value) (F : Nat → Prop) (A : Option Addr) (c : Nat) (w : World) (hv : By w F v l) (hn : l.length ≤ 1000) :
    Calls Tryz.prog 26 #[v, .slice A 0 c] w fun e w' => ∃ A' n' c', e = .returned (.slice A' n' c') ∧ By w' (fun b => w.heap.size ≤ b) (.slice A' n' c') (l ++ [0, 0, 0, 0]) ∧ Keep (fun _ => False) w w' := by
  have PT := Lib.hid (fun X (hk : Keep (fun _ => False) w X) => putP l v F 4 0 X (hv.keep hk (fun _ _ _ h => h)) (by omega))
  rw [leB_zero] at PT
  obtain ⟨A0, c0, rfl, -⟩ := hv
  generalize l.length = n at *
  go_enter Tryz.func26, Tryz.ntmps26
  go_wp2_with fail
  with_reducible refine (PT.out _ (by exact (by repeat first | (with_reducible assumption) | (with_reducible exact Keep.refl _ _) | (with_reducible refine Keep.alloc ?_ _) | (with_reducible refine Keep.drew ?_) | (with_reducible refine Keep.drewN ?_ _) | (with_reducible refine Keep.setCell ?_ (.inl (by first | omega | (simp; done) | (simp; omega) | fail)) _)))).mono ?_
  rintro e w1 ⟨A1, n1, c1, rfl, hby, hb⟩
  have HB := Lib.hid (And.intro hby (Keep.of_below' hb))
  clear hby hb
  go_wp2
  go_loopw [0, 13] (fun y i wr => y = .slice A1 n1 c1 ∧ i = .int .i64 0 ∧ w1 = wr) (fun _ _ _ => 0)
  case atStart => exact ⟨rfl, rfl, rfl⟩
  case round =>
    obtain ⟨rfl, rfl, rfl⟩ := hrel
    go_wp2
    go_ret
    exact ⟨A1, n1, c1, rfl, HB.out.1, HB.out.2⟩
def cfB : Cf := ⟨2, 4, 3, 3, []⟩
theorem cfB_ok : checkF cfB = 0 := by decide +kernel
def bytB : List UInt8 := confB cfB
theorem bytB_len : bytB.length = 17 := by decide +kernel
/-- Behind Of: two streams. -/
def OfPost (w : World) (P : Nat → Prop) (e : Ending) (w' : World) : Prop :=
  ∃ g A1 n1 c1 A2 n2 c2, e = .returned (.slice (some ⟨g, 0, none⟩) 2 2) ∧ w'.heap[g]? = some (.cells #[.int .i64 0, .int .u64 0, .int .i64 0, .slice A1 n1 c1, .int .i64 1, .int .u64 0, .int .i64 0, .slice A2 n2 c2] 36 (0, 0)) ∧ By w' (fun _ => True) (.slice A1 n1 c1) bytB ∧ By w' (fun _ => True) (.slice A2 n2 c2) [0, 0, 0, 0, 0, 0, 0, 0] ∧ Keep P w w'
set_option maxHeartbeats 2000000 in
theorem of_new {w : World} {xp : Nat} {B : CoB} (h : CoM w cfB xp B 0 (coNew cfB)) (hT : Tab w) (hG : ¬ CoF xp B (coNew cfB) 0) :
    Calls Tryz.prog 13 #[.pointer (some ⟨xp, 0, none⟩)] w (OfPost w (CoF xp B (coNew cfB))) := by
  obtain ⟨ni1, ni2⟩ := new_inv (c := cfB) (by decide) (by decide)
  have ES := Lib.hid (fun X (hk : Keep (fun _ => False) w X) => e_state (h.same hk) (by decide) (hT.same hk) hG ni1.sgs ni1.ok)
  have H := Lib.hid h
  unfold OfPost
  go_enter Tryz.func13, Tryz.ntmps13
  go_wp2_with fail
  with_reducible refine (ES.out _ (by exact (by repeat first | (with_reducible assumption) | (with_reducible exact Keep.refl _ _) | (with_reducible refine Keep.alloc ?_ _) | (with_reducible refine Keep.drew ?_) | (with_reducible refine Keep.drewN ?_ _) | (with_reducible refine Keep.setCell ?_ (.inl (by first | omega | (simp; done) | (simp; omega) | fail)) _)))).mono ?_
  rintro e w1 ⟨u1, m, B1, rfl, hst, hm, hat⟩
  rw [ni2] at hst
  obtain ⟨A1, c1, A2, c2, A3, c3, rfl, -⟩ := hst.form
  simp only [List.length_nil]
  have hst' := hst
  have HC := Lib.hid (And.intro hat hm)
  clear hst hat hst'
  go_upto_region 4 with fail
  refine wp_world (S := fun V => V.heap[w1.heap.size]? = some (.cells #[.slice A1 0 c1, .slice A2 0 c2, .slice A3 0 c3] 53 (0, 0)) ∧ Keep (fun _ => False) w1 V) ⟨(by (try simp only [heap_drew']); (try simp only [World.heap_drewN]); repeat (first | exact heap_alloc_at _ _ _ (by first | rfl | simp) | rw [Below.heap_alloc _ _ _ (by first | (simp; done) | (simp; omega))])), by exact (by repeat first | (with_reducible assumption) | (with_reducible exact Keep.refl _ _) | (with_reducible refine Keep.alloc ?_ _) | (with_reducible refine Keep.drew ?_) | (with_reducible refine Keep.drewN ?_ _) | (with_reducible refine Keep.setCell ?_ (.inl (by first | omega | (simp; done) | (simp; omega) | fail)) _))⟩ ?_
  rintro V ⟨hv1, hv2⟩
  have HV := Lib.hid hv2
  have HCM := Lib.hid (HC.out.1.1.same hv2)
  have CF := Lib.hid (fun X (hk : Keep (fun _ => False) V X) => e_conf (HCM.out.same hk) (by decide))
  have CP := Lib.hid (fun X u (F : Nat → Prop) (hu : CL X F u cfB.l) => cputF_any cfB u F X hu (by decide) (fun x hx => by cases hx))
  have NM := Lib.hid (fun X l v F A c hv hn => nums_none l v F A c X hv hn)
  unfold confV at CF CP
  obtain ⟨x0, x1, x2, xf⟩ := cells3 hv1
  have CE := Lib.hid (show ∀ W', Keep (fun _ => False) V W' → ((W'.cell? ⟨w1.heap.size, 0, none⟩ = some (.slice A1 0 c1) ∧ W'.cell? ⟨w1.heap.size, 1, none⟩ = some (.slice A2 0 c2)) ∧ Keep (fun _ => False) V W') from fun W' hk => ⟨⟨hk.cell (fun h => h) x0, hk.cell (fun h => h) x1⟩, hk⟩)
  clear hv1 hv2
  go_region_held3 (fun W' => (W'.cell? ⟨w1.heap.size, 0, none⟩ = some (.slice A1 0 c1) ∧ W'.cell? ⟨w1.heap.size, 1, none⟩ = some (.slice A2 0 c2)) ∧ Keep (fun _ => False) V W') (exact CE.out _ (by exact (by repeat first | (with_reducible assumption) | (with_reducible exact Keep.refl _ _) | (with_reducible refine Keep.alloc ?_ _) | (with_reducible refine Keep.drew ?_) | (with_reducible refine Keep.drewN ?_ _) | (with_reducible refine Keep.setCell ?_ (.inl (by first | omega | (simp; done) | (simp; omega) | fail)) _)))) (first
    | (go_at_call 25; (with_reducible refine (CF.out _ (by exact (by repeat first | (with_reducible assumption) | (with_reducible exact Keep.refl _ _) | (with_reducible refine Keep.alloc ?_ _) | (with_reducible refine Keep.drew ?_) | (with_reducible refine Keep.drewN ?_ _) | (with_reducible refine Keep.setCell ?_ (.inl (by first | omega | (simp; done) | (simp; omega) | fail)) _)))).mono ?_); rintro e w2 ⟨u2, rfl, hu2, hk2⟩; have k2 : Keep (fun _ => False) V w2 := Keep.trans (T := fun _ => False) (by exact (by repeat first | (with_reducible assumption) | (with_reducible exact Keep.refl _ _) | (with_reducible refine Keep.alloc ?_ _) | (with_reducible refine Keep.drew ?_) | (with_reducible refine Keep.drewN ?_ _) | (with_reducible refine Keep.setCell ?_ (.inl (by first | omega | (simp; done) | (simp; omega) | fail)) _))) hk2 (fun _ _ h => h); have HU2 := Lib.hid hu2; clear hu2 hk2)
    | (go_at_call 24; (with_reducible refine (CP.out _ u2 _ (by exact HU2.out.same (by exact (by repeat first | (with_reducible assumption) | (with_reducible exact Keep.refl _ _) | (with_reducible refine Keep.alloc ?_ _) | (with_reducible refine Keep.drew ?_) | (with_reducible refine Keep.drewN ?_ _) | (with_reducible refine Keep.setCell ?_ (.inl (by first | omega | (simp; done) | (simp; omega) | fail)) _))))).mono ?_); rintro e w3 ⟨A4, n4, c4, rfl, hby4, hb4⟩; have k3 : Keep (fun _ => False) V w3 := Keep.trans (T := fun _ => False) (by exact (by repeat first | (with_reducible assumption) | (with_reducible exact Keep.refl _ _) | (with_reducible refine Keep.alloc ?_ _) | (with_reducible refine Keep.drew ?_) | (with_reducible refine Keep.drewN ?_ _) | (with_reducible refine Keep.setCell ?_ (.inl (by first | omega | (simp; done) | (simp; omega) | fail)) _))) (Keep.of_below' hb4) (fun _ _ h => h); have HB4 := Lib.hid (show By w3 (fun _ => True) (.slice A4 n4 c4) bytB from By.mono hby4 (fun _ _ _ => trivial)); clear hby4 hb4)
    | (go_at_call 26; (with_reducible refine (NM.out _ [] (.slice none 0 0) (fun _ => True) _ _ (By.nil _ _) (by decide)).mono ?_); rintro e w4 ⟨A5, n5, c5, rfl, hby5, hk5⟩; have k4 : Keep (fun _ => False) V w4 := Keep.trans (T := fun _ => False) (by exact (by repeat first | (with_reducible assumption) | (with_reducible exact Keep.refl _ _) | (with_reducible refine Keep.alloc ?_ _) | (with_reducible refine Keep.drew ?_) | (with_reducible refine Keep.drewN ?_ _) | (with_reducible refine Keep.setCell ?_ (.inl (by first | omega | (simp; done) | (simp; omega) | fail)) _))) hk5 (fun _ _ h => h); have k34 : Keep (fun _ => False) w3 w4 := Keep.trans (T := fun _ => False) (by exact (by repeat first | (with_reducible assumption) | (with_reducible exact Keep.refl _ _) | (with_reducible refine Keep.alloc ?_ _) | (with_reducible refine Keep.drew ?_) | (with_reducible refine Keep.drewN ?_ _) | (with_reducible refine Keep.setCell ?_ (.inl (by first | omega | (simp; done) | (simp; omega) | fail)) _))) hk5 (fun _ _ h => h); have HB5 := Lib.hid (show By w4 (fun _ => True) (.slice A5 n5 c5) [0, 0, 0, 0] from By.mono hby5 (fun _ _ _ => trivial)); clear hby5 hk5)
    | (go_at_call 26; (with_reducible refine (NM.out _ [0, 0, 0, 0] (.slice A5 n5 c5) (fun _ => True) _ _ (By.keep HB5.out (S := fun _ => False) (by exact (by repeat first | (with_reducible assumption) | (with_reducible exact Keep.refl _ _) | (with_reducible refine Keep.alloc ?_ _) | (with_reducible refine Keep.drew ?_) | (with_reducible refine Keep.drewN ?_ _) | (with_reducible refine Keep.setCell ?_ (.inl (by first | omega | (simp; done) | (simp; omega) | fail)) _))) (fun _ _ _ h => h)) (by decide)).mono ?_); rintro e w5 ⟨A6, n6, c6, rfl, hby6, hk6⟩; have k5 : Keep (fun _ => False) V w5 := Keep.trans (T := fun _ => False) (by exact (by repeat first | (with_reducible assumption) | (with_reducible exact Keep.refl _ _) | (with_reducible refine Keep.alloc ?_ _) | (with_reducible refine Keep.drew ?_) | (with_reducible refine Keep.drewN ?_ _) | (with_reducible refine Keep.setCell ?_ (.inl (by first | omega | (simp; done) | (simp; omega) | fail)) _))) hk6 (fun _ _ h => h); have k35 : Keep (fun _ => False) w3 w5 := Keep.trans (T := fun _ => False) (by exact (by repeat first | (with_reducible assumption) | (with_reducible exact Keep.refl _ _) | (with_reducible refine Keep.alloc ?_ _) | (with_reducible refine Keep.drew ?_) | (with_reducible refine Keep.drewN ?_ _) | (with_reducible refine Keep.setCell ?_ (.inl (by first | omega | (simp; done) | (simp; omega) | fail)) _))) hk6 (fun _ _ h => h); have HB6 := Lib.hid (show By w5 (fun _ => True) (.slice A6 n6 c6) [0, 0, 0, 0, 0, 0, 0, 0] from By.mono hby6 (fun _ _ _ => trivial)); clear hby6 hk6)
    | fail)
  have RN := Lib.hid (fun X (hk : Keep (fun _ => False) V X) => rows_none (HCM.out.same hk) (fun t ht => by
    unfold growC coNew at ht
    simp only [List.mem_append, List.mem_singleton, List.mem_replicate] at ht
    rcases ht with rfl | ⟨-, rfl⟩ <;> rfl))
  have LITB := Lib.hid (heap_alloc_new w5 (.cells #[.int .i64 0, .int .u64 0, .int .i64 0, .slice A4 n4 c4, .int .i64 1, .int .u64 0, .int .i64 0, .slice A6 n6 c6] 36 (0, 0)))
  go_wp2_with fail
  with_reducible refine (RN.out _ (by exact (by repeat first | (with_reducible assumption) | (with_reducible exact Keep.refl _ _) | (with_reducible refine Keep.alloc ?_ _) | (with_reducible refine Keep.drew ?_) | (with_reducible refine Keep.drewN ?_ _) | (with_reducible refine Keep.setCell ?_ (.inl (by first | omega | (simp; done) | (simp; omega) | fail)) _)))).mono ?_
  rintro e w6 ⟨rfl, hk6⟩
  have K6 := Lib.hid hk6
  clear hk6
  go_wp2
  go_loopw [4, 30] (fun y i wr => y = .slice (some ⟨w5.heap.size, 0, none⟩) 2 2 ∧ i = .int .i64 0 ∧ w6 = wr) (fun _ _ _ => 0)
  case atStart => exact ⟨rfl, rfl, rfl⟩
  case round =>
    obtain ⟨rfl, rfl, rfl⟩ := hrel
    go_wp2
    go_ret
    have k56 : Keep (fun _ => False) w5 w6 := ((Keep.refl _ w5).alloc _).trans K6.out (fun _ _ h => h)
    exact ⟨w5.heap.size, A4, n4, c4, A6, n6, c6, rfl, (K6.out.block _ (by simp) (fun h => h)).trans LITB.out, HB4.out.keep (k35.trans k56 (fun _ _ h => h)) (fun _ _ _ h => h), HB6.out.keep k56 (fun _ _ _ h => h), ((HC.out.1.2.1.trans HV.out (fun _ _ h => h.elim)).trans k5 (fun _ _ h => h.elim)).trans k56 (fun _ _ h => h.elim)⟩
def fwB : List FwZ := [⟨⟨0, 0, 0⟩, bytB⟩, ⟨⟨1, 0, 0⟩, [0, 0, 0, 0, 0, 0, 0, 0]⟩]
theorem fwB_in {w : World} {g : Nat} {A1 A2 : Option Addr} {n1 c1 n2 c2 : Nat} (h : w.heap[g]? = some (.cells #[.int .i64 0, .int .u64 0, .int .i64 0, .slice A1 n1 c1, .int .i64 1, .int .u64 0, .int .i64 0, .slice A2 n2 c2] 36 (0, 0))) (h1 : By w (fun _ => True) (.slice A1 n1 c1) bytB) (h2 : By w (fun _ => True) (.slice A2 n2 c2) [0, 0, 0, 0, 0, 0, 0, 0]) :
    NS fwN w (fun _ => True) (.slice (some ⟨g, 0, none⟩) 2 2) fwB := by
  obtain ⟨hc, -⟩ := cells_of_row' h
  refine ⟨[.slice A1 n1 c1, .slice A2 n2 c2], rfl, ⟨_, 2, rfl, Nat.le_refl _, by unfold maxLen; decide, ⟨rfl, fun _ => ⟨g, 0, rfl, trivial, fun i u hu => ?_⟩⟩, (fun e => by cases e)⟩, fun i x v hx hv => ?_⟩
  · rw [Nat.zero_add]
    exact hc i u (by simpa [fwB, fwN] using hu)
  · match i, hx, hv with
    | 0, hx, hv => cases hx; cases hv; exact h1
    | 1, hx, hv => cases hx; cases hv; exact h2
    | i + 2, hx, hv => simp [fwB] at hx
theorem made_zeros8 : madeCells (Value.int .u8 0).cells (8 * 1) = (bv (List.replicate 8 0)).toArray := by kernel_rfl
theorem run_make8 (W : World) : (Instr.makeSlice 28 (.int .i64 8) (.int .i64 8)).run Tryz.prog W = .ok (.slice (some ⟨W.heap.size, 0, none⟩) 8 8) (W.alloc (.cells (bv (List.replicate 8 0)).toArray 5)) := by
  obtain ⟨i0, hi0, hz0, hz1, hz2⟩ := info_parts info_byte
  have := run_makeSlice (P := Tryz.prog) W 28 5 i0 _ Tryz.underlying28 hi0 hz0 .i64 .i64 8 8 (by decide) (by decide) (by rw [hz1]; decide) (by rw [hz2]; decide) (by decide)
  rw [this, hz1]
  rw [show ((8 : Int).toNat * 1) = 8 * 1 from rfl, made_zeros8]
  rfl
theorem by_zeros8 (W : World) : By (W.alloc (.cells (bv (List.replicate 8 0)).toArray 5)) (fun _ => True) (.slice (some ⟨W.heap.size, 0, none⟩) 8 8) [0, 0, 0, 0, 0, 0, 0, 0] :=
  ⟨_, 8, rfl, Nat.le_refl _, by unfold maxLen; decide, (fun e => by cases e), (Rd.lit W 5 (bv [0, 0, 0, 0, 0, 0, 0, 0])).mono (fun _ _ _ => trivial)⟩
set_option maxHeartbeats 2000000 in
theorem live22 (w : World) (hT : Tab w) : Calls Tryz.prog 5 #[] w fun e w' => e = .returned (.bool true) ∧ Below w.heap.size w w' := by
  have HT := Lib.hid hT
  have NW := Lib.hid (show Calls Tryz.prog 14 #[.agg #[.int .i64 2, .int .i64 4, .int .i64 3, .int .i64 3, .slice none 0 0]] w fun e w' => ∃ xp B, e = .returned (.pointer (some ⟨xp, 0, none⟩)) ∧ CoM w' cfB xp B 0 (coNew cfB) ∧ Keep (fun _ => False) w w' ∧ ∀ k, CoF xp B (coNew cfB) k → w.heap.size ≤ k from e_new_ok w cfB (.slice none 0 0) (fun _ => True) (CL.of_sl (Sl.nil w _ 2)) (by decide) cfB_ok hT)
  go_enter Tryz.func5, Tryz.ntmps5
  go_wp2_with fail
  with_reducible refine NW.out.mono ?_
  rintro e w1 ⟨xp, B, rfl, hcm, hk1, hlo⟩
  have HG : ¬ CoF xp B (coNew cfB) 0 := fun e => by have := hlo _ e; have := HT.out.lt; omega
  have OF := Lib.hid (of_new hcm (HT.out.same hk1) HG)
  have K1 := Lib.hid (And.intro hk1 hlo)
  clear hcm hk1 hlo HG hT
  go_wp2_with fail
  with_reducible refine OF.out.mono ?_
  rintro e w2 ⟨g, A1, n1, c1, A2, n2, c2, rfl, hg, hb1, hb2, hk2⟩
  have KW := Lib.hid (show Keep (fun b => w.heap.size ≤ b) w w2 from (K1.out.1.mono (fun _ _ h => h.elim)).trans hk2 (fun b _ e => K1.out.2 b e))
  have NS2 := Lib.hid (fwB_in hg hb1 hb2)
  have SZ := Lib.hid (fun X (hk : Keep (fun _ => False) w2 X) => flow_size fwB _ _ X (NS2.out.same hk) (by decide) (by decide +kernel))
  rw [show ((fwB.map (·.data.length)).sum : Nat) = 25 by decide +kernel] at SZ
  have SB := Lib.hid (fun X u (F : Nat → Prop) (hk : Keep (fun _ => False) w2 X) (hu : By X F u [0, 0, 0, 0, 0, 0, 0, 0]) => show Calls Tryz.prog 11 #[.slice A2 n2 c2, u] X fun e w' => e = .returned (.bool true) ∧ X = w' from by
    have h9 := same_any [0, 0, 0, 0, 0, 0, 0, 0] [0, 0, 0, 0, 0, 0, 0, 0] (.slice A2 n2 c2) u (fun _ => True) F X (By.keep hb2 hk (fun _ _ _ h => h)) hu
    rwa [decide_eq_true rfl] at h9)
  have x7 : w2.cell? ⟨g, 7, none⟩ = some (.slice A2 n2 c2) := (cells_of_row' hg).1 7 _ rfl
  have CE := Lib.hid (show ∀ W', Keep (fun _ => False) w2 W' → (W'.cell? ⟨g, 7, none⟩ = some (.slice A2 n2 c2)) ∧ Keep (fun _ => False) w2 W' from fun W' hk => ⟨hk.cell (fun h => h) x7, hk⟩)
  clear hg hb1 hb2 hk2
  have MK := run_make8
  have ZB := Lib.hid by_zeros8
  generalize (bv (List.replicate 8 0)).toArray = ZZ at *
  go_upto_region 2 with fail
  go_region_held3 (fun W' => (W'.cell? ⟨g, 7, none⟩ = some (.slice A2 n2 c2)) ∧ Keep (fun _ => False) w2 W') (exact CE.out _ (by exact (by repeat first | (with_reducible assumption) | (with_reducible exact Keep.refl _ _) | (with_reducible refine Keep.alloc ?_ _) | (with_reducible refine Keep.drew ?_) | (with_reducible refine Keep.drewN ?_ _) | (with_reducible refine Keep.setCell ?_ (.inl (by first | omega | (simp; done) | (simp; omega) | fail)) _)))) (first
    | (go_at_call 11; (with_reducible refine (SB.out _ _ (fun _ => True) (by exact (by repeat first | (with_reducible assumption) | (with_reducible exact Keep.refl _ _) | (with_reducible refine Keep.alloc ?_ _) | (with_reducible refine Keep.drew ?_) | (with_reducible refine Keep.drewN ?_ _) | (with_reducible refine Keep.setCell ?_ (.inl (by first | omega | (simp; done) | (simp; omega) | fail)) _))) (by first | with_reducible exact ZB.out w2 | with_reducible exact By.keep (ZB.out w2) ((Keep.refl (fun _ => False) _).drew) (fun _ _ _ h => h) | with_reducible exact ZB.out w2.drew | with_reducible exact By.keep (ZB.out w2.drew) ((Keep.refl (fun _ => False) _).drew) (fun _ _ _ h => h))).mono ?_); rintro e w4 ⟨rfl, rfl⟩)
    | (go_at_call 15; (with_reducible refine (SZ.out _ (by exact (by repeat first | (with_reducible assumption) | (with_reducible exact Keep.refl _ _) | (with_reducible refine Keep.alloc ?_ _) | (with_reducible refine Keep.drew ?_) | (with_reducible refine Keep.drewN ?_ _) | (with_reducible refine Keep.setCell ?_ (.inl (by first | omega | (simp; done) | (simp; omega) | fail)) _)))).mono ?_); rintro e w5 ⟨rfl, hk5⟩; have k5 : Keep (fun _ => False) w2 w5 := Keep.trans (T := fun _ => False) (by exact (by repeat first | (with_reducible assumption) | (with_reducible exact Keep.refl _ _) | (with_reducible refine Keep.alloc ?_ _) | (with_reducible refine Keep.drew ?_) | (with_reducible refine Keep.drewN ?_ _) | (with_reducible refine Keep.setCell ?_ (.inl (by first | omega | (simp; done) | (simp; omega) | fail)) _))) hk5 (fun _ _ h => h); clear hk5)
    | fail)
  all_goals
    go_wp2
    go_ret
    exact ⟨rfl, (KW.out.trans (T := fun b => w.heap.size ≤ b) (Keep.mono (S := fun _ => False) (by exact (by repeat first | (with_reducible assumption) | (with_reducible exact Keep.refl _ _) | (with_reducible refine Keep.alloc ?_ _) | (with_reducible refine Keep.drew ?_) | (with_reducible refine Keep.drewN ?_ _) | (with_reducible refine Keep.setCell ?_ (.inl (by first | omega | (simp; done) | (simp; omega) | fail)) _))) (fun _ _ h => h.elim)) (fun _ _ h => h)).to_below (Nat.le_refl _)⟩
end Go.Proofs.YtdeifjnhbdkkgaaGreatDoor

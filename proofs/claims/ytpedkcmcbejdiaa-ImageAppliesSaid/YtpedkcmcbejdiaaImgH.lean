/- Contract of image.Patch. -/
import Derived.Test.YtpedkcmcbejdiaaImgG
namespace Go.Proofs.Ytpedkcmcbejdiaa
open Go.RowKit
set_option maxRecDepth 100000
set_option linter.unusedVariables false
set_option linter.unusedSimpArgs false

def entB (B : List (List UInt8)) (i : Nat) : List UInt8 := if i < B.length then leB i 2 ++ B.getD i [] else []
def entsF (B : List (List UInt8)) (l : List Nat) : List UInt8 := l.flatMap (entB B)
/-- What makes one disk of the other. -/
def patchB (A B : List (List UInt8)) : List UInt8 := leB B.length 2 ++ entsF B (unl A B)
theorem entsF_next (B : List (List UInt8)) {l : List Nat} {j : Nat} (h : j < l.length) : entsF B (l.take (j + 1)) = entsF B (l.take j) ++ entB B (l.getD j 0) := by
  unfold entsF
  rw [List.take_succ_eq_append_getElem h, List.flatMap_append, List.getD_eq_getElem?_getD, List.getElem?_eq_getElem h]
  simp
theorem entB_len {B : List (List UInt8)} (h5 : ∀ r ∈ B, r.length = 512) (i : Nat) : (entB B i).length ≤ 514 := by
  unfold entB
  split
  · rename_i h; rw [List.length_append, leB_len, getD_512' h5 h]; exact Nat.le_refl _
  · simp
theorem entsF_len {B : List (List UInt8)} (h5 : ∀ r ∈ B, r.length = 512) (l : List Nat) : (entsF B l).length ≤ 514 * l.length := by
  unfold entsF
  induction l with
  | nil => simp
  | cons i l ih =>
    rw [List.flatMap_cons, List.length_append, List.length_cons]
    have := entB_len h5 i
    omega
theorem unl_lt {A B : List (List UInt8)} {i : Nat} (h : i ∈ unl A B) : i < max A.length B.length := by
  unfold unl unlT at h
  exact List.mem_range.1 (List.mem_filter.1 h).1
set_option maxHeartbeats 8000000 in
theorem ipatch_any (d1 d2 : Value) (A B : List (List UInt8)) (F G : Nat → Prop) (w : World) (ha : Dk w F d1 A) (hb : Dk w G d2 B) (hA : A.length ≤ 4096) (hB : B.length ≤ 4096) :
    Calls Try.prog 20 #[d1, d2] w (ObPost w (patchB A B)) := by
  have S2 := Lib.hid (sectors_any d2 B G w hb hB)
  have UL := Lib.hid (fun W (hk : Keep (fun _ => False) w W) => unlike_any d1 d2 A B F G W (ha.same hk) (hb.same hk) hA hB)
  have B5 := Lib.hid hb.1
  have EN := Lib.hid (fun j => @entsF_next B (unl A B) j)
  have E0 := Lib.hid (show entsF B ((unl A B).take 0) = [] by simp [entsF])
  have EL := Lib.hid (fun j => show (entsF B ((unl A B).take j)).length ≤ 2105344 from by
    have h1 := entsF_len hb.1 ((unl A B).take j)
    have h2 := unlT_len A B (max A.length B.length)
    have h3 : ((unl A B).take j).length ≤ (unl A B).length := by rw [List.length_take]; omega
    unfold unl at h3 h1 ⊢
    omega)
  have EB := Lib.hid (fun i => show entB B i = if i < B.length then leB i 2 ++ B.getD i [] else [] from rfl)
  have LT := Lib.hid (fun j (h : j < (unl A B).length) => show (unl A B).getD j 0 < 4096 from by
    rw [List.getD_eq_getElem?_getD, List.getElem?_eq_getElem h]
    have := unl_lt (List.getElem_mem h)
    show (unl A B)[j] < 4096
    omega)
  have ML := Lib.hid (show (unl A B).length ≤ 4096 from by
    have := unlT_len A B (max A.length B.length)
    unfold unl; omega)
  unfold patchB
  clear ha hb
  generalize unl A B = L at *
  obtain ⟨n, hn⟩ : ∃ n, B.length = n := ⟨_, rfl⟩
  have HN := Lib.hid hn
  rw [hn] at S2 EB hB ⊢
  clear hn
  have PN := Lib.hid (fun W => putOb [] (.slice none 0 0) (fun _ => True) 2 n n W rfl (By.nil _ _) (by simp) (by decide) (by omega))
  have SA := run_sliceAt_isec
  go_enter Try.func20, Try.ntmps20
  go_wp2_with fail
  with_reducible refine S2.out.mono ?_
  rintro e w1 ⟨A2, c2, rfl, ho1, hb1⟩
  have H1 := Lib.hid (And.intro (show Sx w1 (fun x => w.heap.size ≤ x) (.slice A2 n c2) B from by unfold Sx; rw [HN.out]; exact ho1.sl) hb1)
  clear ho1 hb1 S2
  go_wp2_with fail
  with_reducible refine (PN.out _).mono ?_
  rintro e w2 ⟨A3, n3, c3, rfl, ho2, hb2⟩
  have H2 := Lib.hid (And.intro (Sx.keep H1.out.1 (Keep.of_below' hb2) (fun _ _ _ h => h)) (And.intro (show Ob w2 w.heap.size (.slice A3 n3 c3) (leB n 2) from ho2.mono H1.out.2.size) (show Below w.heap.size w w2 from H1.out.2.trans (hb2.mono H1.out.2.size))))
  clear ho2 hb2 PN H1
  go_wp2_with fail
  with_reducible refine (UL.out _ (Keep.of_below' H2.out.2.2)).mono ?_
  rintro e w3 ⟨A4, c4, rfl, ho3, hb3⟩
  have H3 := Lib.hid (And.intro (Sx.keep H2.out.1 (Keep.of_below' hb3) (fun _ _ _ h => h)) (And.intro (H2.out.2.1.same (Keep.of_below' hb3)) (And.intro (show Below w.heap.size w w3 from H2.out.2.2.trans (hb3.mono H2.out.2.2.size)) ho3.sl)))
  clear ho3 hb3 UL H2
  obtain ⟨m, hm⟩ : ∃ m, L.length = m := ⟨_, rfl⟩
  rw [hm] at EN LT ML H3 ⊢
  have HM := Lib.hid hm
  clear hm
  have hm4 := ML.out
  have TM := Lib.hid (show L.take m = L by rw [← HM.out, List.take_length])
  go_wp2
  go_loopw [6, 18] (fun y i wr => ∃ (j : Nat) (A5 : Option Addr) (n5 c5 : Nat), j ≤ m ∧ i = .int .i64 (j : Int) ∧ y = .slice A5 n5 c5 ∧ Hid (Ob wr w.heap.size (.slice A5 n5 c5) (leB n 2 ++ entsF B (L.take j)) ∧ Keep (fun _ => False) w3 wr)) (fun _ i _ => m - (intOf i).toNat)
  case atStart => exact ⟨0, A3, n3, c3, by omega, rfl, rfl, Lib.hid ⟨by rw [E0.out, List.append_nil]; exact H3.out.2.1, Keep.refl _ _⟩⟩
  case round =>
    obtain ⟨j, A5, n5, c5, hj, rfl, rfl, hst⟩ := hrel
    by_cases hlt : j < m
    · have f1 : (j : Int) < (m : Int) := by omega
      have f0 : (0 : Int) ≤ (j : Int) := by omega
      obtain ⟨bl, ol, e4, hcl⟩ : ∃ bl ol, A4 = some ⟨bl, ol, none⟩ ∧ wr.cell? ⟨bl, ol + j, none⟩ = some (.int .i64 ((L.getD j 0 : Nat) : Int)) := by
        obtain ⟨A9, c9, e9, _, _, _, hr⟩ := H3.out.2.2.2.keep hst.out.2 (fun _ _ _ h => h)
        injection e9 with e91 e92 e93
        subst e91
        obtain ⟨b, o, rfl, _, hc⟩ := hr.at_ (k := j) (by omega)
        refine ⟨b, o, rfl, hc j _ ?_⟩
        have h1 : j < (nz L).length := by unfold nz; rw [List.length_map, HM.out]; exact hlt
        rw [(iv_at h1).1]
        unfold nz
        rw [List.getD_eq_getElem?_getD, List.getElem?_map, List.getD_eq_getElem?_getD, List.getElem?_eq_getElem (by rw [HM.out]; exact hlt)]
        rfl
      subst e4
      have ENJ := Lib.hid (EN.out j hlt)
      have hi4 := LT.out j hlt
      have EBI := Lib.hid (EB.out (L.getD j 0))
      generalize L.getD j 0 = i at *
      have HC := Lib.hid (show (leB n 2 ++ entsF B (L.take j)).length ≤ 2105346 from by have := EL.out j; rw [List.length_append, leB_len]; omega)
      by_cases hin : i < n
      · have f2 : (i : Int) < (n : Int) := by omega
        have f3 : (0 : Int) ≤ (i : Int) := by omega
        have EJ := Lib.hid (show entsF B (L.take (j + 1)) = entsF B (L.take j) ++ (leB i 2 ++ B.getD i []) by rw [ENJ.out, EBI.out, if_pos hin])
        obtain ⟨bb, oo, rfl, -, hrg⟩ := (Sx.keep H3.out.1 hst.out.2 (fun _ _ _ h => h)).at_ B5.out (by rw [HN.out]; omega)
        have ROW := Lib.hid (fun W (hk : Keep (fun _ => False) wr W) => show By W (fun _ => True) (.slice (some ⟨bb, oo + i * 512, none⟩) 512 512) (B.getD i []) from row_mid (getD_512' B5.out (by rw [HN.out]; exact hin)) (fun q u hu => hk.cell (fun h => h) (hrg i (by rw [HN.out]; exact hin) q u hu)) trivial)
        have L5 := Lib.hid (getD_512' B5.out (k := i) (by rw [HN.out]; exact hin))
        have PO := Lib.hid (fun W (hk : Keep (fun _ => False) wr W) => putOb _ _ _ 2 i i W rfl (hst.out.1.same hk).by_ (by have := HC.out; omega) (by decide) (by omega))
        clear hrg ENJ EBI
        go_upto_region 7 with fail
        go_region_held3 (fun W' => Keep (fun _ => False) wr W') (first | assumption | exact (by repeat first | (with_reducible assumption) | (with_reducible exact Keep.refl _ _) | (with_reducible refine Keep.alloc ?_ _) | (with_reducible refine Keep.drew ?_) | (with_reducible refine Keep.drewN ?_ _) | (with_reducible refine Keep.setCell ?_ (.inl (by first | omega | (simp; done) | (simp; omega) | fail)) _))) (first
          | (go_at_call 33; (with_reducible refine (PO.out _ (by first | assumption | exact (by repeat first | (with_reducible assumption) | (with_reducible exact Keep.refl _ _) | (with_reducible refine Keep.alloc ?_ _) | (with_reducible refine Keep.drew ?_) | (with_reducible refine Keep.drewN ?_ _) | (with_reducible refine Keep.setCell ?_ (.inl (by first | omega | (simp; done) | (simp; omega) | fail)) _)))).mono ?_); rintro e w6 ⟨A6, n6, c6, rfl, ho6, hb6⟩; have hk6 : Keep (fun _ => False) wr w6 := Keep.trans (T := fun _ => False) (by first | assumption | exact (by repeat first | (with_reducible assumption) | (with_reducible exact Keep.refl _ _) | (with_reducible refine Keep.alloc ?_ _) | (with_reducible refine Keep.drew ?_) | (with_reducible refine Keep.drewN ?_ _) | (with_reducible refine Keep.setCell ?_ (.inl (by first | omega | (simp; done) | (simp; omega) | fail)) _))) (Keep.of_below' hb6) (fun _ _ h => h))
          | ((refine step_app (by rfl) _ _ (by rfl) wr.heap.size _ _ (by rfl) (by first | exact (ho6.mono (by first | exact Nat.le_refl _ | (simp; done))) | exact ((ho6.mono (by first | exact Nat.le_refl _ | (simp; done))).same (by exact (by repeat first | (with_reducible assumption) | (with_reducible exact Keep.refl _ _) | (with_reducible refine Keep.alloc ?_ _) | (with_reducible refine Keep.drew ?_) | (with_reducible refine Keep.drewN ?_ _) | (with_reducible refine Keep.setCell ?_ (.inl (by first | omega | (simp; done) | (simp; omega) | fail)) _))))) _ _ _ (by rfl) (ROW.out _ (by first | assumption | exact (by repeat first | (with_reducible assumption) | (with_reducible exact Keep.refl _ _) | (with_reducible refine Keep.alloc ?_ _) | (with_reducible refine Keep.drew ?_) | (with_reducible refine Keep.drewN ?_ _) | (with_reducible refine Keep.setCell ?_ (.inl (by first | omega | (simp; done) | (simp; omega) | fail)) _)))) (by have := HC.out; have := L5.out; rw [List.length_append, leB_len]; omega) (by first | exact hk6.size | (have := hk6.size; simp; omega)) ?_); intro A7 n7 c7 w7 ho7 hk7; have hk8 : Keep (fun _ => False) wr w7 := Keep.trans (T := fun x => ownB (.slice A6 n6 c6) = some x) (by first | assumption | exact (by repeat first | (with_reducible assumption) | (with_reducible exact Keep.refl _ _) | (with_reducible refine Keep.alloc ?_ _) | (with_reducible refine Keep.drew ?_) | (with_reducible refine Keep.drewN ?_ _) | (with_reducible refine Keep.setCell ?_ (.inl (by first | omega | (simp; done) | (simp; omega) | fail)) _))) hk7 (fun x hx e => by have := (ho6.ownB_ x e).1; (first | omega | (simp at this; omega))); have H7 := Lib.hid (And.intro ho7 hk8); clear ho7 hk7)
          | fail)
        all_goals
          have hz := Nat.le_trans H3.out.2.2.1.size hst.out.2.size
          have HF := Lib.hid (show Ob w7 w.heap.size (.slice A7 n7 c7) (leB n 2 ++ entsF B (L.take (j + 1))) ∧ Keep (fun _ => False) w3 w7 from ⟨by rw [EJ.out]; simpa using H7.out.1.mono hz, hst.out.2.trans H7.out.2 (fun _ _ h => h)⟩)
          clear H7 hk8
          go_wp2
          go_roundw
          case rel => exact ⟨j + 1, A7, n7, c7, by omega, by go_num, rfl, HF⟩
          case measure => simp [intOf]; omega
      · have f2 : ¬ (i : Int) < (n : Int) := by omega
        have HF := Lib.hid (show Ob wr w.heap.size (.slice A5 n5 c5) (leB n 2 ++ entsF B (L.take (j + 1))) ∧ Keep (fun _ => False) w3 wr from ⟨by rw [ENJ.out, EBI.out, if_neg hin, List.append_nil]; exact hst.out.1, hst.out.2⟩)
        go_wp2
        go_roundw
        case rel => exact ⟨j + 1, A5, n5, c5, by omega, by go_num, rfl, HF⟩
        case measure => simp [intOf]; omega
    · obtain rfl : j = m := by omega
      have f1 : ¬ (j : Int) < (j : Int) := by omega
      rw [TM.out] at hst
      go_wp2
      go_ret
      exact ⟨_, _, _, rfl, hst.out.1, H3.out.2.2.1.trans (hst.out.2.to_below'.mono H3.out.2.2.1.size)⟩
end Go.Proofs.Ytpedkcmcbejdiaa

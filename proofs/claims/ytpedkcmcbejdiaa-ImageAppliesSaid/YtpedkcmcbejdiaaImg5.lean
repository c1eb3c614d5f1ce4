/- Contracts of image.sectors, image.run. -/
import Derived.Test.YtpedkcmcbejdiaaImg4
namespace Go.Proofs.Ytpedkcmcbejdiaa
open Go.RowKit
set_option maxRecDepth 100000
set_option linter.unusedVariables false
set_option linter.unusedSimpArgs false

theorem By.range {w : World} {F : Nat → Prop} {A : Option Addr} {n c m : Nat} {l : List UInt8} (h : By w F (.slice A n c) l) (hm : 0 < m) (hl : m ≤ l.length) : ∃ b o, A = some ⟨b, o, none⟩ ∧ F b ∧ w.rangeAt b o (bv (l.take m)) := by
  obtain ⟨A', c', e, _, _, _, hr⟩ := h
  injection e with e1 e2 e3
  subst e1
  obtain ⟨b, o, rfl, hF, hc⟩ := hr.at_ (k := 0) (by omega)
  refine ⟨b, o, rfl, hF, fun j u hu => hc j u ?_⟩
  unfold bv at hu ⊢
  rw [List.map_take, List.getElem?_take] at hu
  split at hu
  · exact hu
  · cases hu
theorem fill_isec {cs : Array Value} {r : List UInt8} (hr : r.length = 512) (hc : cs.size = 512) : Instr.fill (fun i => some (i * 512, 512)) cs [(0, .agg (bv r).toArray)] = some (bv r).toArray := by
  have := Great.fill_whole (s := 512) (by decide) [.agg (bv r).toArray] cs (fun v hv => by
    obtain rfl := List.mem_singleton.1 hv
    show (bv r).toArray.size = 512
    rw [List.size_toArray, bv_len, hr]) (by rw [hc]; rfl)
  simpa [Value.cells] using this
theorem flat_drop {R : List (List UInt8)} {k : Nat} (h : k < R.length) : (R.drop k).flatten = R.getD k [] ++ (R.drop (k + 1)).flatten := by
  rw [List.drop_eq_getElem_cons h, List.flatten_cons, List.getD_eq_getElem?_getD, List.getElem?_eq_getElem h]
  rfl
theorem getD_512' {R : List (List UInt8)} (h : ∀ r ∈ R, r.length = 512) {k : Nat} (hk : k < R.length) : (R.getD k []).length = 512 := by
  rw [List.getD_eq_getElem?_getD, List.getElem?_eq_getElem hk]
  exact h _ (List.getElem_mem hk)
theorem take_snoc {α : Type} [Inhabited α] {R : List α} {k : Nat} (d : α) (h : k < R.length) : R.take (k + 1) = R.take k ++ [R.getD k d] := by
  rw [List.take_succ_eq_append_getElem h, List.getD_eq_getElem?_getD, List.getElem?_eq_getElem h]
  rfl
def lenV : Value → Nat
  | .slice _ n _ => n
  | _ => 0
/-- The slice value v holds the sectors R, by value. -/
def Sx (w : World) (F : Nat → Prop) (v : Value) (R : List (List UInt8)) : Prop := Sl w F 512 v R.length (arr R)
set_option maxHeartbeats 4000000 in
theorem sectors_any (d : Value) (R : List (List UInt8)) (F : Nat → Prop) (w : World) (h : Dk w F d R) (hR : R.length ≤ 4096) :
    Calls Try.prog 32 #[d] w fun e w' => ∃ A c, e = .returned (.slice A R.length c) ∧ Own w' w.heap.size 61 512 (.slice A R.length c) R.length (arr R) ∧ Below w.heap.size w w' := by
  have DB := Lib.hid (fun W (hk : Keep (fun _ => False) w W) => dbytes_any d R F W (h.same hk) hR)
  have h0 := Lib.hid h.1
  have FL := Lib.hid (flat_512 h.1)
  have D0 := Lib.hid (show R.flatten = (R.drop 0).flatten by rw [List.drop_zero])
  have TN := Lib.hid (show R.take R.length = R by rw [List.take_length])
  clear h
  obtain ⟨n, hN⟩ : ∃ n, R.length = n := ⟨_, rfl⟩
  have HN := Lib.hid hN
  rw [hN] at hR FL TN ⊢
  clear hN
  obtain ⟨iz, zz, hiz, hzz, hz1, hz2, hz3, -⟩ := info_isec
  have HI := Lib.hid (And.intro hiz (And.intro hzz (And.intro hz1 (And.intro hz2 (show zz.cells.size = 512 by rw [hz3, List.size_toArray, bv_len, zer_len])))))
  clear hiz hzz hz1 hz2 hz3
  go_enter Try.func32, Try.ntmps32
  go_wp2_with fail
  with_reducible refine (DB.out _ (Keep.refl _ _)).mono ?_
  rintro e w1 ⟨A1, n1, c1, rfl, ho, hb⟩
  have H1 := Lib.hid (And.intro ho.by_ hb)
  have hn1 : n1 = 512 * n := by rw [ho.len, FL.out]
  clear ho hb
  subst hn1
  go_wp2
  go_loopw [3, 4] (fun x y wr => ∃ k m4 : Nat, k ≤ n ∧ m4 + 512 * k = 512 * n ∧ ∃ A3 c3 A4 c4, x = .slice A3 k c3 ∧ y = .slice A4 m4 c4 ∧ Hid (By wr (fun b => w.heap.size ≤ b ∧ b < w1.heap.size) (.slice A4 m4 c4) (R.drop k).flatten ∧ Own wr w1.heap.size 61 512 (.slice A3 k c3) k (arr (R.take k)) ∧ Below w1.heap.size w1 wr)) (fun x _ _ => n - lenV x)
  case atStart => exact ⟨0, 512 * n, by omega, by omega, none, 0, A1, c1, rfl, rfl, Lib.hid ⟨by rw [← D0.out]; exact H1.out.1.mono (fun b hb h => ⟨h, hb⟩), by simpa [arr] using Own.none_ w1 w1.heap.size 61 512 none, Below.refl _ _⟩⟩
  case round =>
    obtain ⟨k, m4, hk, hm4, A3, c3, A4, c4, rfl, rfl, hst⟩ := hrel
    by_cases hlt : k < n
    · have f1 : (512 : Int) ≤ (m4 : Int) := by omega
      have R5 := Lib.hid (getD_512' h0.out (k := k) (by rw [HN.out]; exact hlt))
      have FD := Lib.hid (@flat_drop R k (by rw [HN.out]; exact hlt))
      have TS := Lib.hid (take_snoc (R := R) (k := k) ([] : List UInt8) (by rw [HN.out]; exact hlt))
      have FT := Lib.hid (show (R.drop k).flatten.take 512 = R.getD k [] by rw [FD.out, List.take_left' R5.out])
      have FE := Lib.hid (show ((R.drop k).flatten.drop 512) = (R.drop (k + 1)).flatten by rw [FD.out, List.drop_left' R5.out])
      have hL : (R.drop k).flatten.length = m4 := by
        obtain ⟨_, _, e, _, _, _, _⟩ := hst.out.1
        injection e with _ e2 _
        exact e2.symm
      obtain ⟨bb, oo, rfl, -, hrg⟩ := hst.out.1.range (m := 512) (by decide) (by omega)
      rw [FT.out] at hrg
      have hc4 : m4 ≤ c4 ∧ c4 ≤ 9223372036854775807 := by
        obtain ⟨A', c', e, h1, h2, _, _⟩ := hst.out.1
        injection e with e1 e2 e3
        unfold maxLen at h2
        omega
      have RG := Lib.hid hrg
      have BS := Lib.hid (show (bv (R.getD k [])).length = 512 by rw [bv_len, R5.out])
      have FI := Lib.hid (fun cs hc => @fill_isec cs (R.getD k []) R5.out hc)
      have B1 := Lib.hid (bv_one (R.getD k []))
      have LITS := Lib.hid (fun (W : World) => show Src Try.prog 512 58 (.slice (some ⟨W.heap.size, 0, none⟩) 1 1) 1 (bv (R.getD k [])) (W.alloc (.cells (bv (R.getD k [])).toArray 61)) from
        Src.ofSlice _ Try.underlying58 _ 1 1 _ (by rw [BS.out]) (fun j u hu => by
          rw [Addr.add_mid, Nat.zero_add, cell_of_row _ W.heap.size j _ _ (0, 0) (heap_alloc_new W _)]
          simpa using hu) B1.out)
      have RA : ∀ W : World, (Instr.arrayAt 61 (.slice (some ⟨bb, oo, none⟩) 512 c4)).run Try.prog W = .ok (.pointer (some ⟨bb, oo, none⟩)) W := fun W => by simp [Instr.arrayAt, run_underlying under_isec]
      generalize hX : bv (R.getD k []) = X at *
      have HX := Lib.hid hX
      clear hX hrg hL
      go_upto_region 4 with fail
      go_wp2_with (first
        | (refine wpList_load_mid (by rfl) _ _ (by rfl) bb oo (by rfl) X _ RG.out under_isec rfl (by rw [BS.out]; exact size_isec) ?_)
        | (refine wpList_buildSlice (by rfl) _ 61 1 _ (by rfl) X.toArray iz zz Try.underlying58 HI.out.1 HI.out.2.1 (by rw [HI.out.2.2.1]; decide) (by rw [HI.out.2.2.1]; decide) (by rw [HI.out.2.2.1]; simp only [List.map_toArray, List.map_cons, List.map_nil]; refine FI.out _ ?_; simp) ?_)
        | (at_builtin; refine wpList_append_gen _ (by rfl) _ _ _ _ (by rfl) w1.heap.size 61 iz _ 512 512 Try.underlying58 HI.out.1 HI.out.2.1 HI.out.2.2.1 HI.out.2.2.2.1 HI.out.2.2.2.2 _ k _ (by rfl) (hst.out.2.1.alloc _) _ 1 _ (by rfl) (LITS.out _) ?c1 ?c2 ?c3 ?_)
        | fail)
      case c1 => unfold maxLen; omega
      case c2 => omega
      case c3 => have := hst.out.2.2.size; simp; omega
      intro v6 w6 ho6 hk6 hn6
      obtain ⟨A6, c6, rfl, -⟩ := ho6.form
      have K6 := Lib.hid (show Keep (fun x => w1.heap.size ≤ x) wr w6 from ((Keep.refl (fun x => w1.heap.size ≤ x) wr).alloc _).trans hk6 (fun x _ e => (hst.out.2.1.ownB x e).1))
      have H6 := Lib.hid (And.intro ((hst.out.1).keep K6.out (fun b _ h => by omega)) (And.intro (show Own w6 w1.heap.size 61 512 (.slice A6 (k + 1) c6) (k + 1) (arr (R.take (k + 1))) from by rw [TS.out, arr_snoc, HX.out]; exact ho6) (show Below w1.heap.size w1 w6 from ((Keep.of_below hst.out.2.2).trans K6.out (fun x _ h => h)).to_below (Nat.le_refl _))))
      have SUB := Lib.hid (fun A' c' (hA : 0 < m4 - 512 → A' = some ⟨bb, oo + 512, none⟩) (hc : c' = c4 - 512) (hn : A' ≠ none) => show By w6 (fun b => w.heap.size ≤ b ∧ b < w1.heap.size) (.slice A' (m4 - 512) c') (R.drop (k + 1)).flatten from by
        have hL : (R.drop k).flatten.length = m4 := by
          obtain ⟨_, _, e, _, _, _, _⟩ := hst.out.1
          injection e with _ e2 _
          exact e2.symm
        have := H6.out.1.piece (lo := 512) (m := m4 - 512) (A' := A') (c' := c') (by omega) (fun h a e => by cases e; rw [hA h]; simp [Addr.add]) (by omega) (by unfold maxLen; omega) (fun e => absurd e hn)
        rwa [List.take_of_length_le (by rw [List.length_drop]; omega), FE.out] at this)
      clear ho6 hk6 hn6 RA
      have j2 : 512 ≤ m4 := by omega
      have j1 : 512 ≤ c4 := by omega
      by_cases hc : c4 = 512
      · subst hc
        obtain rfl : m4 = 512 := by omega
        go_wp2
        go_roundw
        case rel => exact ⟨k + 1, 0, by omega, by omega, A6, c6, _, _, rfl, rfl, Lib.hid ⟨SUB.out _ _ (fun h => by omega) rfl (by simp), H6.out.2⟩⟩
        case measure => simp [lenV]; omega
      · have j3 : ¬ c4 = 512 := hc
        go_wp2
        go_roundw
        case rel => exact ⟨k + 1, m4 - 512, by omega, by omega, A6, c6, _, _, rfl, rfl, Lib.hid ⟨SUB.out _ _ (fun _ => rfl) rfl (by simp), H6.out.2⟩⟩
        case measure => simp [lenV]; omega
    · obtain rfl : k = n := by omega
      obtain rfl : m4 = 0 := by omega
      rw [TN.out] at hst
      go_wp2
      go_ret
      exact ⟨_, _, rfl, hst.out.2.1.mono H1.out.2.size, H1.out.2.trans (hst.out.2.2.mono H1.out.2.size)⟩
end Go.Proofs.Ytpedkcmcbejdiaa

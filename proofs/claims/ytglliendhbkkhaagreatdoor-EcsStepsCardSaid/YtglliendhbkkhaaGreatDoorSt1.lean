/- Steps and states of layer 11 in memory; vivariumref11.Much, Same; vivariumref04.SameList of two alike. -/
import Derived.Test.YtglliendhbkkhaaGreatDoorTabG
namespace Go.Proofs.YtglliendhbkkhaaGreatDoor
open Go.RowKit
set_option maxRecDepth 100000
set_option linter.unusedVariables false
set_option linter.unusedSimpArgs false

/-- A step. -/
structure StE where
  do_ : Int
  id : IdZ
  k : Int
  data : List UInt8
deriving DecidableEq, Inhabited
def seN : Nst StE Value where
  cells p := [.int .i64 p.1.do_, .int .i64 p.1.id.ix, .int .i64 p.1.id.gen, .int .i64 p.1.k, p.2]
  m := 5
  pos := by decide
  len _ := rfl
  inn w F x u := By w F u x.data
  one h u hu := by
    obtain ⟨B, d, h2, -⟩ := h
    simp only [List.mem_cons, List.not_mem_nil, or_false] at hu
    rcases hu with rfl | rfl | rfl | rfl | rfl
    · rfl
    · rfl
    · rfl
    · rfl
    · rw [h2]; rfl
  keep h hk hs := By.keep h hk hs
  mono h hf := By.mono h hf
def Much11 (l : List StE) (e : Ending) : Prop := ∃ b : Bool, e = .returned (.bool b) ∧ (b = false → l.length ≤ 60 ∧ ∀ x ∈ l, x.data.length ≤ 200)
theorem much11 (l : List StE) (v : Value) (F : Nat → Prop) (w : World) (h : NS seN w F v l) :
    Calls Tryz.prog 16 #[v] w fun e w' => Much11 l e ∧ w = w' := by
  have HA := Lib.hid h
  have hlen := h.len
  obtain ⟨A, c, rfl, -, -⟩ := h.form
  clear h
  obtain ⟨n, hn⟩ : ∃ n, l.length = n := ⟨_, rfl⟩
  have HN := Lib.hid hn
  rw [hn] at HA hlen ⊢
  clear hn
  have NXT := Lib.hid (show ∀ k x, l[k]? = some x → x.data.length ≤ 200 → (∀ y ∈ l.take k, y.data.length ≤ 200) → ∀ y ∈ l.take (k + 1), y.data.length ≤ 200 from fun k x h1 h2 h3 y hy => by
    rw [List.take_add_one, h1] at hy
    rcases List.mem_append.1 hy with h | h
    · exact h3 y h
    · have : y = x := by simpa using h
      rw [this]; exact h2)
  go_enter Tryz.func16, Tryz.ntmps16
  go_wp2
  go_loopw [3] (fun i wr => ∃ k : Nat, k ≤ n ∧ i = .int .i64 k ∧ w = wr ∧ Hid (∀ y ∈ l.take k, y.data.length ≤ 200)) (fun i _ => n - (intOf i).toNat)
  case atStart => exact ⟨0, by omega, rfl, rfl, Lib.hid (fun y hy => by simp at hy)⟩
  case round =>
    obtain ⟨k, hk, rfl, rfl, ht⟩ := hrel
    by_cases hlt : k < n
    · have hi : (k : Int) < (n : Int) := by omega
      by_cases hh : k < 100
      · have hi2 : (k : Int) < 100 := by omega
        have h00 : (0 : Int) ≤ (k : Int) := by omega
        obtain ⟨b, off, x, dv, rfl, -, hx, hin, hc⟩ := NS.at_ HA.out hlt
        have e4 := hc 4 _ rfl
        obtain ⟨A2, c2, rfl, -⟩ := (show By w F dv x.data from hin)
        have NX := Lib.hid (NXT.out k x hx)
        simp only [show seN.m = 5 from rfl] at e4
        clear hc hx hin
        generalize x.data.length = nd at *
        by_cases h40 : 200 < nd
        · have t1 : (200 : Int) < (nd : Int) := by omega
          go_wp2
          go_ret
          exact ⟨⟨true, rfl, (fun h => by cases h)⟩, rfl⟩
        · have t1 : ¬ (200 : Int) < (nd : Int) := by omega
          have NT := Lib.hid (NX.out (by omega) ht.out)
          go_wp2
          go_roundw
          case rel => exact ⟨k + 1, by omega, by first | rfl | trivial | go_num, by first | rfl | trivial, NT⟩
          case measure => simp [intOf]; omega
      · have hi2 : ¬ (k : Int) < 100 := by omega
        have t4 : (60 : Int) < (n : Int) := by omega
        go_wp2
        go_ret
        exact ⟨⟨true, rfl, (fun h => by cases h)⟩, rfl⟩
    · have hi : ¬ (k : Int) < (n : Int) := by omega
      obtain rfl : k = n := by omega
      have TT := Lib.hid (show ∀ y ∈ l, y.data.length ≤ 200 from by
        have := ht.out
        rw [List.take_of_length_le (by rw [HN.out]; exact Nat.le_refl _)] at this
        exact this)
      by_cases h60 : 60 < k
      · have t4 : (60 : Int) < (k : Int) := by omega
        go_wp2
        go_ret
        exact ⟨⟨true, rfl, (fun h => by cases h)⟩, rfl⟩
      · have t4 : decide ((60 : Int) < (k : Int)) = false := decide_eq_false (by omega)
        go_wp2
        go_ret
        exact ⟨⟨false, rfl, fun _ => ⟨by rw [HN.out]; omega, TT.out⟩⟩, rfl⟩
theorem ivI_at {l : List Int} {k : Nat} {d : Int} (h : k < l.length) : (iv l)[k]? = some (.int .i64 (l.getD k d)) := by
  rw [List.getD_eq_getElem?_getD, List.getElem?_eq_getElem h]
  simp [iv, h]
/-- A number of a list of numbers. -/
theorem nums_at {w : World} {F : Nat → Prop} {A : Option Addr} {n c k : Nat} {l : List Int} (h : Sl w F 1 (.slice A n c) n (iv l)) (hl : l.length = n) (hk : k < n) :
    ∃ b off, A = some ⟨b, off, none⟩ ∧ F b ∧ w.cell? ⟨b, off + k, none⟩ = some (.int .i64 (l.getD k 0)) := by
  obtain ⟨A9, c9, e9, _, _, _, hr⟩ := h
  injection e9 with e91 e92 e93
  subst e91
  obtain ⟨b, o, rfl, hF, hc⟩ := hr.2 (by omega)
  exact ⟨b, o, rfl, hF, hc _ _ (ivI_at (by omega))⟩
theorem same_list (l : List Int) (u v : Value) (F G : Nat → Prop) (w : World) (hu : Sl w F 1 u l.length (iv l)) (hv : Sl w G 1 v l.length (iv l)) :
    Calls Tryz.prog 45 #[u, v] w fun e w' => e = .returned (.bool true) ∧ Keep (fun _ => False) w w' := by
  have HU := Lib.hid hu
  have HV := Lib.hid hv
  obtain ⟨A, c, rfl, h1, h2, -⟩ := hu
  obtain ⟨B, d, rfl, h3, h4, -⟩ := hv
  unfold maxLen at h2 h4
  obtain ⟨n, hn⟩ : ∃ n, l.length = n := ⟨_, rfl⟩
  have HN := Lib.hid hn
  rw [hn] at HU HV h1 h3 ⊢
  clear hn
  have e1 : ((n : Int) != (n : Int)) = false := by simp
  go_enter Tryz.func45, Tryz.ntmps45
  go_wp2
  go_loopw [5] (fun i wr => ∃ (k : Nat), k ≤ n ∧ i = .int .i64 k ∧ Hid (Keep (fun _ => False) w wr)) (fun i _ => n - (intOf i).toNat)
  case atStart => exact ⟨0, by omega, rfl, Lib.hid (Keep.refl _ _)⟩
  case round =>
    obtain ⟨k, hk, rfl, hkw⟩ := hrel
    by_cases hlt : k < n
    · have hi : (k : Int) < (n : Int) := by omega
      have h0 : (0 : Int) ≤ (k : Int) := by omega
      obtain ⟨b, off, rfl, -, f1⟩ := nums_at (HU.out.keep hkw.out (fun _ _ _ h => h)) HN.out hlt
      obtain ⟨b2, off2, rfl, -, g1⟩ := nums_at (HV.out.keep hkw.out (fun _ _ _ h => h)) HN.out hlt
      generalize l.getD k 0 = x at *
      have ex : (x != x) = false := by simp
      go_wp2
      go_quiet (fail)
      go_wp2
      go_roundw
      case rel => exact ⟨k + 1, by omega, by go_num, Lib.hid (Keep.trans hkw.out (by exact (by repeat first | (with_reducible assumption) | (with_reducible exact Keep.refl _ _) | (with_reducible refine Keep.alloc ?_ _) | (with_reducible refine Keep.drew ?_) | (with_reducible refine Keep.drewN ?_ _) | (with_reducible refine Keep.setCell ?_ (.inl (by first | omega | (simp; done) | (simp; omega) | fail)) _))) (fun _ _ h => h))⟩
      case measure => simp [intOf]; omega
    · have hi : ¬ (k : Int) < (n : Int) := by omega
      go_wp2
      go_ret
      exact ⟨rfl, hkw.out⟩
/-- A state in memory. -/
structure SZ where
  gens : List Int
  free : List Int
  ents : List EnZ
deriving DecidableEq, Inhabited
def StM (w : World) (F : Nat → Prop) (u : Value) (s : SZ) : Prop :=
  ∃ vg vf ve, u = .agg #[vg, vf, ve] ∧ Sl w F 1 vg s.gens.length (iv s.gens) ∧ Sl w F 1 vf s.free.length (iv s.free) ∧ NS entN w F ve s.ents
section
variable {w w' : World} {F G S : Nat → Prop} {u : Value} {s : SZ}
theorem StM.keep (h : StM w F u s) (hk : Keep S w w') (hs : ∀ b, b < w.heap.size → F b → ¬ S b) : StM w' F u s := by
  obtain ⟨vc, vs, vr, rfl, h1, h2, h3⟩ := h
  exact ⟨vc, vs, vr, rfl, h1.keep hk hs, h2.keep hk hs, h3.keep hk hs⟩
theorem StM.same (h : StM w F u s) (hk : Keep (fun _ => False) w w') : StM w' F u s := h.keep hk (fun _ _ _ h => h)
theorem StM.mono (h : StM w F u s) (hf : ∀ b, b < w.heap.size → F b → G b) : StM w G u s := by
  obtain ⟨vc, vs, vr, rfl, h1, h2, h3⟩ := h
  exact ⟨vc, vs, vr, rfl, h1.mono hf, h2.mono hf, h3.mono hf⟩
/-- Its form. -/
theorem StM.form (h : StM w F u s) : ∃ Ac cc As cs Ar cr, u = .agg #[.slice Ac s.gens.length cc, .slice As s.free.length cs, .slice Ar s.ents.length cr] ∧ s.gens.length ≤ cc ∧ cc ≤ maxLen ∧ s.free.length ≤ cs ∧ cs ≤ maxLen ∧ s.ents.length ≤ cr ∧ cr ≤ maxLen ∧
    Sl w F 1 (.slice Ac s.gens.length cc) s.gens.length (iv s.gens) ∧ Sl w F 1 (.slice As s.free.length cs) s.free.length (iv s.free) ∧ NS entN w F (.slice Ar s.ents.length cr) s.ents := by
  obtain ⟨vc, vs, vr, rfl, h1, h2, h3⟩ := h
  have k1 := h1
  have k2 := h2
  obtain ⟨Ac, cc, rfl, a1, a2, -⟩ := h1
  obtain ⟨As, cs, rfl, b1, b2, -⟩ := h2
  obtain ⟨Ar, cr, rfl, d1, d2⟩ := h3.form
  exact ⟨Ac, cc, As, cs, Ar, cr, rfl, a1, a2, b1, b2, d2, d1, k1, k2, h3⟩
end
theorem same11 (s : SZ) (u v : Value) (F G : Nat → Prop) (w : World) (hu : StM w F u s) (hv : StM w G v s) :
    Calls Tryz.prog 15 #[u, v] w fun e w' => e = .returned (.bool true) ∧ Keep (fun _ => False) w w' := by
  obtain ⟨A1, c1, A2, c2, A3, c3, rfl, h1, h2, h3, h4, h5, h6, g1, g2, g3⟩ := hu.form
  obtain ⟨B1, d1, B2, d2, B3, d3, rfl, i1, i2, i3, i4, i5, i6, k1, k2, k3⟩ := hv.form
  have S1 := Lib.hid (fun W (hk : Keep (fun _ => False) w W) => same_list s.gens _ _ F G W (g1.keep hk (fun _ _ _ h => h)) (k1.keep hk (fun _ _ _ h => h)))
  have S2 := Lib.hid (fun W (hk : Keep (fun _ => False) w W) => same_list s.free _ _ F G W (g2.keep hk (fun _ _ _ h => h)) (k2.keep hk (fun _ _ _ h => h)))
  have HU := Lib.hid g3
  have HV := Lib.hid k3
  unfold maxLen at *
  clear hu hv g1 g2 g3 k1 k2 k3
  obtain ⟨gens, free, ents⟩ := s
  simp only at *
  generalize gens.length = n1 at *
  generalize free.length = n2 at *
  obtain ⟨n, hn⟩ : ∃ n, ents.length = n := ⟨_, rfl⟩
  rw [hn] at HU HV h5 i5 ⊢
  clear hn
  have e1 : ((n : Int) != (n : Int)) = false := by simp
  obtain ⟨WA, hWA⟩ : ∃ WA, WA = ((w.alloc (.cells #[.slice A1 n1 c1, .slice A2 n2 c2, .slice A3 n c3] 28 (0, 0))).alloc (.cells #[.slice B1 n1 d1, .slice B2 n2 d2, .slice B3 n d3] 28 (0, 0))) := ⟨_, rfl⟩
  have B0 := Lib.hid (show WA.heap[w.heap.size]? = some (.cells #[.slice A1 n1 c1, .slice A2 n2 c2, .slice A3 n c3] 28 (0, 0)) ∧ WA.heap[w.heap.size + 1]? = some (.cells #[.slice B1 n1 d1, .slice B2 n2 d2, .slice B3 n d3] 28 (0, 0)) ∧ Keep (fun _ => False) w WA from by
    rw [hWA]
    exact ⟨(((Keep.refl (fun _ => False) _).alloc _).block _ (by simp) (fun h => h)).trans (heap_alloc_new w _), heap_alloc_at _ _ _ (by simp), ((Keep.refl _ w).alloc _).alloc _⟩)
  go_enter Tryz.func15, Tryz.ntmps15
  go_upto_region 1 with fail
  rw [← hWA]
  clear hWA
  obtain ⟨x0, x1, x2, xf⟩ := cells3 B0.out.1
  obtain ⟨y0, y1, y2, yf⟩ := cells3 B0.out.2.1
  go_wp2_with fail
  with_reducible refine (S1.out WA B0.out.2.2).mono ?_
  rintro e w2 ⟨rfl, hk2⟩
  have K2 := Lib.hid (show Keep (fun _ => False) WA w2 from hk2)
  clear hk2
  have x1' := K2.out.cell (fun h => h) x1
  have y1' := K2.out.cell (fun h => h) y1
  go_wp2_with fail
  with_reducible refine (S2.out w2 (B0.out.2.2.trans K2.out (fun _ _ h => h))).mono ?_
  rintro e w3 ⟨rfl, hk3⟩
  have K3 := Lib.hid (show Keep (fun _ => False) WA w3 from K2.out.trans hk3 (fun _ _ h => h))
  clear hk3 x1' y1'
  have x2' := K3.out.cell (fun h => h) x2
  have y2' := K3.out.cell (fun h => h) y2
  go_wp2
  go_loopw [5] (fun i wr => ∃ (k : Nat), k ≤ n ∧ i = .int .i64 k ∧ Hid (Keep (fun _ => False) WA wr)) (fun i _ => n - (intOf i).toNat)
  case atStart => exact ⟨0, by omega, rfl, Lib.hid K3.out⟩
  case round =>
    obtain ⟨k, hk, rfl, hkw⟩ := hrel
    have z2 := hkw.out.cell (fun h => h) x2
    have t2 := hkw.out.cell (fun h => h) y2
    by_cases hlt : k < n
    · have hi : (k : Int) < (n : Int) := by omega
      have h0 : (0 : Int) ≤ (k : Int) := by omega
      obtain ⟨b, off, x, q, rfl, -, hx, hin, hc⟩ := NS.at_ (HU.out.same (B0.out.2.2.trans hkw.out (fun _ _ h => h))) hlt
      obtain ⟨b2, off2, x2', q2, rfl, -, hx2, hin2, hc2⟩ := NS.at_ (HV.out.same (B0.out.2.2.trans hkw.out (fun _ _ h => h))) hlt
      have exx : x2' = x := Option.some.inj (hx2.symm.trans hx)
      subst exx
      have f0 := hc 0 _ rfl
      have f1 := hc 1 _ rfl
      have f2 := hc 2 _ rfl
      have g0 := hc2 0 _ rfl
      have g1 := hc2 1 _ rfl
      have g2 := hc2 2 _ rfl
      simp only [show entN.m = 3 from rfl, Nat.add_zero] at f0 f1 f2 g0 g1 g2
      have SM := Lib.hid (fun W (hk : Keep (fun _ => False) wr W) => same_parts x2'.parts q q2 F G W (NS.same hin hk) (NS.same hin2 hk))
      obtain ⟨A7, c7, rfl, -, -⟩ := NS.form hin
      obtain ⟨A8, c8, rfl, -, -⟩ := NS.form hin2
      clear hc hc2 hx hx2 hin hin2 x0 x1 y0 y1
      generalize x2'.parts.length = np at *
      generalize x2'.id.ix = ix at *
      generalize x2'.id.gen = gn at *
      have ex : (ix == ix) = true := by simp
      have ey : (gn == gn) = true := by simp
      have CE := Lib.hid (show ∀ W', Keep (fun _ => False) wr W' → (W'.cell? ⟨w.heap.size, 2, none⟩ = some (.slice (some ⟨b, off, none⟩) n c3) ∧ W'.cell? ⟨w.heap.size + 1, 2, none⟩ = some (.slice (some ⟨b2, off2, none⟩) n d3) ∧ W'.cell? ⟨b, off + k * 3, none⟩ = some (.int .i64 ix) ∧ W'.cell? ⟨b, off + k * 3 + 1, none⟩ = some (.int .i64 gn) ∧ W'.cell? ⟨b, off + k * 3 + 2, none⟩ = some (.slice A7 np c7) ∧ W'.cell? ⟨b2, off2 + k * 3, none⟩ = some (.int .i64 ix) ∧ W'.cell? ⟨b2, off2 + k * 3 + 1, none⟩ = some (.int .i64 gn) ∧ W'.cell? ⟨b2, off2 + k * 3 + 2, none⟩ = some (.slice A8 np c8)) from fun W' hk => ⟨hk.cell (fun h => h) z2, hk.cell (fun h => h) t2, hk.cell (fun h => h) f0, hk.cell (fun h => h) f1, hk.cell (fun h => h) f2, hk.cell (fun h => h) g0, hk.cell (fun h => h) g1, hk.cell (fun h => h) g2⟩)
      go_upto_region 6 with fail
      go_region_held3 (fun W' => W'.cell? ⟨w.heap.size, 2, none⟩ = some (.slice (some ⟨b, off, none⟩) n c3) ∧ W'.cell? ⟨w.heap.size + 1, 2, none⟩ = some (.slice (some ⟨b2, off2, none⟩) n d3) ∧ W'.cell? ⟨b, off + k * 3, none⟩ = some (.int .i64 ix) ∧ W'.cell? ⟨b, off + k * 3 + 1, none⟩ = some (.int .i64 gn) ∧ W'.cell? ⟨b, off + k * 3 + 2, none⟩ = some (.slice A7 np c7) ∧ W'.cell? ⟨b2, off2 + k * 3, none⟩ = some (.int .i64 ix) ∧ W'.cell? ⟨b2, off2 + k * 3 + 1, none⟩ = some (.int .i64 gn) ∧ W'.cell? ⟨b2, off2 + k * 3 + 2, none⟩ = some (.slice A8 np c8)) (exact CE.out _ (by exact (by repeat first | (with_reducible assumption) | (with_reducible exact Keep.refl _ _) | (with_reducible refine Keep.alloc ?_ _) | (with_reducible refine Keep.drew ?_) | (with_reducible refine Keep.drewN ?_ _) | (with_reducible refine Keep.setCell ?_ (.inl (by first | omega | (simp; done) | (simp; omega) | fail)) _)))) (first
        | (go_at_call 46; (with_reducible refine (SM.out _ (by exact (by repeat first | (with_reducible assumption) | (with_reducible exact Keep.refl _ _) | (with_reducible refine Keep.alloc ?_ _) | (with_reducible refine Keep.drew ?_) | (with_reducible refine Keep.drewN ?_ _) | (with_reducible refine Keep.setCell ?_ (.inl (by first | omega | (simp; done) | (simp; omega) | fail)) _)))).mono ?_); rintro e w4 ⟨rfl, hk4⟩; have k4 : Keep (fun _ => False) wr w4 := Keep.trans (T := fun _ => False) (by exact (by repeat first | (with_reducible assumption) | (with_reducible exact Keep.refl _ _) | (with_reducible refine Keep.alloc ?_ _) | (with_reducible refine Keep.drew ?_) | (with_reducible refine Keep.drewN ?_ _) | (with_reducible refine Keep.setCell ?_ (.inl (by first | omega | (simp; done) | (simp; omega) | fail)) _))) hk4 (fun _ _ h => h); clear hk4)
        | fail)
      go_wp2
      go_roundw
      case rel => exact ⟨k + 1, by omega, by go_num, Lib.hid (Keep.trans (T := fun _ => False) hkw.out (by exact (by repeat first | (with_reducible assumption) | (with_reducible exact Keep.refl _ _) | (with_reducible refine Keep.alloc ?_ _) | (with_reducible refine Keep.drew ?_) | (with_reducible refine Keep.drewN ?_ _) | (with_reducible refine Keep.setCell ?_ (.inl (by first | omega | (simp; done) | (simp; omega) | fail)) _))) (fun _ _ h => h))⟩
      case measure => simp [intOf]; omega
    · have hi : ¬ (k : Int) < (n : Int) := by omega
      go_wp2
      go_ret
      exact ⟨rfl, B0.out.2.2.trans hkw.out (fun _ _ h => h)⟩
theorem code11 (z : Int) (w : World) : Calls Tryz.prog 35 #[.int .i64 z] w fun e w' => e = .returned (.int .i64 z) ∧ w = w' := by
  go_enter Tryz.func35, Tryz.ntmps35
  go_wp2
  go_ret
  exact ⟨rfl, rfl⟩
end Go.Proofs.YtglliendhbkkhaaGreatDoor
namespace Go.Proofs.YtglliendhbkkhaaGreatDoor
open Go.RowKit
open Go.ChangeShapes Go.WideShapes
set_option maxRecDepth 100000
set_option linter.unusedVariables false
set_option linter.unusedSimpArgs false

def seV (x : StE) (d : Value) : Value := .agg #[.int .i64 x.do_, .int .i64 x.id.ix, .int .i64 x.id.gen, .int .i64 x.k, d]
def seR (x : StE) : Prop := -9223372036854775808 ≤ x.k ∧ x.k ≤ 9223372036854775807
section
variable {H : Type} {enc : TypeId × Value → H} {w : World} {base : Nat} {spare : Nat → Bool} {held : Bool} {A : Option Addr} {len cap : Nat} {d : DataW H} {p : List MemPlace}
theorem trod_se {n : Nat} {cs : List Value} {x : DataW H × List MemPlace} (hl : cs.length = 5) (h : DataW.trod enc Tryz.prog w base spare held n 60 cs = some x) : ∃ (y : StE) (u : Value), cs = seN.cells (y, u) ∧ By w (fun _ => True) u y.data ∧ seR y := by
  obtain ⟨c0, c1, c2, c3, c4, rfl⟩ := list5 hl
  have ci : Tryz.prog.cellsOf 3 = 1 := by kernel_rfl
  have cl : Tryz.prog.cellsOf 43 = 1 := by kernel_rfl
  have cd : Tryz.prog.cellsOf 40 = 2 := by kernel_rfl
  obtain ⟨xs, m, _, _, _, hlen, hf⟩ := DataW.trod_struct Tryz.underlying60 h
  have cl2 : ∃ y0 y1 y2 y3, xs = [y0, y1, y2, y3] := by
    match xs, hlen with
    | [a, b, c, d], _ => exact ⟨a, b, c, d, rfl⟩
  obtain ⟨y0, y1, y2, y3, rfl⟩ := cl2
  have h0 : DataW.trod enc Tryz.prog w base spare held m 3 [c0] = some y0 := by simpa [ci] using hf 0 _ rfl
  have h1 : DataW.trod enc Tryz.prog w base spare held m 40 [c1, c2] = some y1 := by simpa [cd] using hf 1 _ rfl
  have h3 : DataW.trod enc Tryz.prog w base spare held m 3 [c3] = some y2 := by simpa [ci] using hf 2 _ rfl
  have h5 : DataW.trod enc Tryz.prog w base spare held m 43 [c4] = some y3 := by simpa [cl] using hf 3 _ rfl
  obtain ⟨a0, e0, _, w0⟩ := DataW.trod_int Tryz.underlying3 h0
  obtain ⟨yi, ei, _⟩ := trod_idZ rfl h1
  obtain ⟨a3, e3, _, w3⟩ := DataW.trod_int Tryz.underlying3 h3
  obtain ⟨A2, n2, k2, l2, e5, hb, _⟩ := trod_by Tryz.underlying43 Tryz.underlying5 (by kernel_rfl) h5
  simp [idC] at e0 ei e3 e5
  obtain ⟨ei1, ei2⟩ := ei
  subst e0 ei1 ei2 e3 e5
  exact ⟨⟨a0, yi, a3, l2⟩, _, rfl, hb, wf_i64 w3⟩
theorem argSes (h : DataW.Trod enc Tryz.prog w base spare held 50 (.slice A len cap) d p) : ∃ l, NS seN w (fun _ => True) (.slice A len cap) l ∧ ∀ x ∈ l, seR x := by
  haveI : Inhabited (StE × Value) := ⟨(default, undef)⟩
  have cl : Tryz.prog.cellsOf 60 = 5 := by kernel_rfl
  obtain ⟨l, g1, g2, g3, rfl, g5, g6⟩ := argSt (f := seN.cells) (ok := fun y => seN.inn w (fun _ => True) y.1 y.2 ∧ seR y.1) seN.len (by decide) Tryz.underlying50 cl (fun n cs x hl hx => by
    obtain ⟨y, u, e, hb, hr⟩ := trod_se hl hx
    exact ⟨(y, u), e, hb, hr⟩) h
  refine ⟨l.map Prod.fst, ⟨l.map Prod.snd, by simp, ?_, fun i x u hx hu => ?_⟩, fun x hx => ?_⟩
  · rw [zip_unzip]; exact ⟨A, cap, rfl, g1, g2, g3, g6⟩
  · have h2 : l[i]? = some (x, u) := by rw [← zip_unzip l]; exact List.getElem?_zip_eq_some.2 ⟨hx, hu⟩
    exact (g5 _ (List.mem_of_getElem? h2)).1
  · obtain ⟨y, hy, rfl⟩ := List.mem_map.1 hx
    exact (g5 y hy).2
end
end Go.Proofs.YtglliendhbkkhaaGreatDoor

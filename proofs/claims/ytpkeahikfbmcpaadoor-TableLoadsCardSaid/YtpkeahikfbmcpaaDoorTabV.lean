/- vivariumref09.Load. -/
import Derived.Test.YtpkeahikfbmcpaaDoorTabU
import Derived.Test.YtpkeahikfbmcpaaDoorTabA
import Derived.Test.YtpkeahikfbmcpaaDoorBits6
import Derived.Deep.DeepCutAuto
namespace Go.Proofs.YtpkeahikfbmcpaaDoor
open Go.RowKit
set_option maxRecDepth 100000
set_option linter.unusedVariables false
set_option linter.unusedSimpArgs false

theorem sl_rdV {W : World} {F : Nat → Prop} {A : Option Addr} {n c : Nat} {xs : List Value} (h : Sl W F 1 (.slice A n c) n xs) : Rd W F A n xs := by
  obtain ⟨A9, c9, e9, _, _, _, h9⟩ := h
  injection e9 with e91 e92 e93
  subst e91
  rwa [Nat.mul_one] at h9
theorem results_tabe {fn : Func} {p t : Tmp} (h : fn.results = #[.cell p 35, .tmp t]) (tmps : Array Value) (w : World) (g : Nat) (c0 c1 c2 : Value)
    (hp : tmps.getD p undef = .pointer (some ⟨g, 0, none⟩)) (hg : w.heap[g]? = some (.cells #[c0, c1, c2] 35 (0, 0))) (b : Value) (hb : tmps.getD t undef = b) : (results fn tmps).run Tryd.prog w = .ok (.tuple #[.agg #[c0, c1, c2], b]) w := by
  have hr := run_loadVar_row (P := Tryd.prog) w g 35 35 #[c0, c1, c2] (0, 0) _ hg under_tab rfl size_tab
  have e : (results fn tmps).run Tryd.prog w = ((asAddr (tmps.getD p undef)).run Tryd.prog w).andThen fun a w₁ => ((loadVar 35 a).run Tryd.prog w₁).andThen fun v w₂ => .ok (.tuple #[v, tmps.getD t undef]) w₂ := by
    simp only [results, h]
    simp [Sem.run_bind, Result.andThen]
  rw [e, hp, hb]
  simp [asAddr, hr]
/-- A part of a row that is loaded. -/
def partR (L : List Nat) (sz : Nat → Nat) (cols : List (List UInt8)) (i t : Nat) : PtZ := ⟨((L.getD t 0 : Nat) : Int), ((cols.getD t []).drop (i * sz (L.getD t 0))).take (sz (L.getD t 0))⟩
def rowR (L : List Nat) (sz : Nat → Nat) (ids : List IdZ) (cols : List (List UInt8)) (i : Nat) : EnZ := ⟨ids.getD i default, (List.range L.length).map (partR L sz cols i)⟩
theorem map_range_getD {α : Type} (f : Nat → α) (L : List Nat) : (List.range L.length).map (fun t => f (L.getD t 0)) = L.map f := by
  apply List.ext_getElem?
  intro i
  rw [List.getElem?_map, List.getElem?_map]
  by_cases hi : i < L.length
  · rw [List.getElem?_range hi, List.getElem?_eq_getElem hi]
    show some (f (L.getD i 0)) = some (f L[i])
    rw [List.getD_eq_getElem?_getD, List.getElem?_eq_getElem hi]; rfl
  · rw [List.getElem?_eq_none (by simpa using hi), List.getElem?_eq_none (by omega)]; rfl
theorem map_range_at {α : Type} (d : α) (g : Nat → α) {n i : Nat} (h : i < n) : ((List.range n).map g).getD i d = g i := by
  rw [List.getD_eq_getElem?_getD, List.getElem?_map, List.getElem?_range h]; rfl
theorem rowsR_eq {sig : Nat} {sz : Nat → Nat} {ids : List IdZ} {cols : List (List UInt8)} : (List.range ids.length).map (rowR (bl sig 64) sz ids cols) = rowsT sig ids (colL (bl sig 64) sz ids.length cols (bl sig 64)) := by
  unfold rowsT
  refine List.map_congr_left fun i hi => ?_
  have hi := List.mem_range.1 hi
  unfold rowR
  refine congrArg (EnZ.mk _) ?_
  unfold rowT
  rw [← map_range_getD (fun c : Nat => (⟨(c : Int), (colL (bl sig 64) sz ids.length cols (bl sig 64) c).getD i []⟩ : PtZ))]
  refine List.map_congr_left fun t ht => ?_
  have ht := List.mem_range.1 ht
  unfold partR
  refine congrArg (PtZ.mk _) ?_
  unfold colL rowsOf
  rw [if_pos (getD_mem ht), idx_at (bl_nodup sig 64) ht, map_range_at _ _ hi]
theorem range_map_next {α : Type} (f : Nat → α) (k : Nat) : (List.range (k + 1)).map f = (List.range k).map f ++ [f k] := by
  rw [List.range_succ, List.map_append]; rfl
/-- What it leaves. -/
def LoadR (w : World) (H : Nat → Prop) (l : List Cp) (sig : Nat) (ids : List IdZ) (cols : List (List UInt8)) (e : Ending) (w' : World) : Prop :=
  ((¬ loadOk l sig ids.length cols ∧ e = .returned (.tuple #[.agg #[.slice none 0 0, .slice none 0 0, .slice none 0 0], .int .i64 11])) ∨
   (loadOk l sig ids.length cols ∧ ∃ A n c A' n' c' A'' n'' c'', e = .returned (.tuple #[.agg #[.slice A n c, .slice A' n' c', .slice A'' n'' c''], .int .i64 0]) ∧ RT w' (fun b => (H b ∧ b < w.heap.size) ∨ w.heap.size ≤ b) (.agg #[.slice A n c, .slice A' n' c', .slice A'' n'' c'']) (bl sig 64) (szOf l) (rowsT sig ids (colL (bl sig 64) (szOf l) ids.length cols (bl sig 64))))) ∧ Below w.heap.size w w'
set_option maxHeartbeats 4000000 in
theorem rload_any (c : Cf) (u : Value) (F : Nat → Prop) (sig : Nat) (hs : sig < 18446744073709551616) (ids : List IdZ) (vI : Value) (G : Nat → Prop) (cols : List (List UInt8)) (vC : Value) (H : Nat → Prop) (w : World) (hu : CL w F u c.l) (h40 : c.l.length ≤ 1000) (hI : Sl w G 2 vI ids.length (ids.flatMap idC)) (hC : Bys w H vC cols) (hw : ∀ x ∈ cols, x.length ≤ 1099511627776) :
    Calls Tryd.prog 16 #[confV c u, .int .u64 (sig : Int), vI, vC] w (LoadR w H c.l sig ids cols) := by
  have RN := Lib.hid (fun X (hk : Keep (fun _ => False) w X) => rnew_nil c u _ sig hs X (hu.same hk) h40)
  have HI := Lib.hid (fun X (hk : Keep (fun b => w.heap.size ≤ b) w X) => (hI.mono (G := fun b => b < w.heap.size) (fun b hb _ => hb)).keep hk (fun b hb _ h => by omega))
  have HC := Lib.hid (fun X (hk : Keep (fun b => w.heap.size ≤ b) w X) => (hC.mono (G := fun b => H b ∧ b < w.heap.size) (fun b hb h => ⟨h, hb⟩)).keep hk (fun b hb _ h => by omega))
  have HW := Lib.hid (fun t => show (cols.getD t []).length ≤ 1099511627776 from by
    by_cases ht : t < cols.length
    · rw [List.getD_eq_getElem?_getD, List.getElem?_eq_getElem ht]; exact hw _ (List.getElem_mem ht)
    · rw [List.getD_eq_getElem?_getD, List.getElem?_eq_none (by omega)]; simp)
  obtain ⟨A0, c0, rfl, -⟩ := hu
  obtain ⟨AI, cI, rfl, hI1, hI2, -⟩ := hI
  obtain ⟨AC, cC, rfl, hC1, hC2, -⟩ := hC.form
  unfold maxLen at hI2 hC2
  clear hC hw h40
  have NO := Lib.hid (show ∀ (w' : World) (a b : Value), ¬ loadOk c.l sig ids.length cols → Keep (fun b => w.heap.size ≤ b) w w' → LoadR w H c.l sig ids cols (.returned (.tuple #[.agg #[.slice none 0 0, .slice none 0 0, .slice none 0 0], .int .i64 11])) w' from fun w' a b h hk => ⟨.inl ⟨h, rfl⟩, hk.to_below (Nat.le_refl _)⟩)
  have LO : loadOk c.l sig ids.length cols ↔ (sig &&& allOf c.l = sig ∧ cols.length = (bl sig 64).length ∧ ids.length ≤ 1024 ∧ ∀ i, i < cols.length → goodL (bl sig 64) (szOf c.l) ids.length cols i) := Iff.rfl
  have YES := Lib.hid (show ∀ (w' : World) (A : Option Addr) (n : Nat) (c1 : Nat) (A' : Option Addr) (n' : Nat) (c' : Nat) (A'' : Option Addr) (n'' c'' : Nat), loadOk c.l sig ids.length cols → RT w' (fun b => (H b ∧ b < w.heap.size) ∨ w.heap.size ≤ b) (.agg #[.slice A n c1, .slice A' n' c', .slice A'' n'' c'']) (bl sig 64) (szOf c.l) ((List.range ids.length).map (rowR (bl sig 64) (szOf c.l) ids cols)) → Keep (fun b => w.heap.size ≤ b) w w' → LoadR w H c.l sig ids cols (.returned (.tuple #[.agg #[.slice A n c1, .slice A' n' c', .slice A'' n'' c''], .int .i64 0])) w' from fun w' A n c1 A' n' c' A'' n'' c'' h hr hk => by
    rw [rowsR_eq] at hr
    exact ⟨.inr ⟨h, A, n, c1, A', n', c', A'', n'', c'', rfl, hr⟩, hk.to_below (Nat.le_refl _)⟩)
  have LOH := Lib.hid LO
  have H64 := Lib.hid (show ∀ t, szOf c.l t ≤ 64 from fun t => by unfold szOf clampN; split; omega; split; omega; omega)
  clear LO
  unfold confV at *
  generalize hP : LoadR w H c.l sig ids cols = POST at *
  generalize hLO : loadOk c.l sig ids.length cols = LOK at *
  generalize hsz : szOf c.l = sz at *
  generalize hall : allOf c.l = al at *
  generalize hcl : c.l.length = lc at *
  clear hP hLO hsz hall hcl
  obtain ⟨n, hn⟩ : ∃ n, ids.length = n := ⟨_, rfl⟩
  have HN := Lib.hid hn
  rw [hn] at HI LOH YES hI1 ⊢
  obtain ⟨d, hd⟩ : ∃ d, cols.length = d := ⟨_, rfl⟩
  have HD := Lib.hid hd
  rw [hd] at HC LOH hC1 ⊢
  clear hn hd
  go_enter Tryd.func16, Tryd.ntmps16
  go_upto_region 1 with fail
  refine wp_world (S := fun W => W.heap[w.heap.size]? = some (.cells #[.int .i64 c.log, .int .i64 c.pages, .int .i64 c.ents, .int .i64 c.gens, .slice A0 lc c0] 24 (0, 0)) ∧ W.heap[w.heap.size + 1]? = some (.cells #[.slice none 0 0, .slice none 0 0, .slice none 0 0] 35 (0, 0)) ∧ Keep (fun _ => False) w W) ⟨by first | (exact heap_alloc_at _ _ _ (by first | rfl | (simp; done))) | (rw [Below.heap_alloc _ _ _ (by simp)]; exact heap_alloc_at _ _ _ (by first | rfl | (simp; done))) | (rw [heap_drew', Below.heap_alloc _ _ _ (by simp)]; exact heap_alloc_at _ _ _ (by first | rfl | (simp; done))) | (rw [heap_drew']; exact heap_alloc_at _ _ _ (by first | rfl | (simp; done))) | fail, by first | (exact heap_alloc_at _ _ _ (by first | rfl | (simp; done))) | (rw [Below.heap_alloc _ _ _ (by simp)]; exact heap_alloc_at _ _ _ (by first | rfl | (simp; done))) | (rw [heap_drew', Below.heap_alloc _ _ _ (by simp)]; exact heap_alloc_at _ _ _ (by first | rfl | (simp; done))) | (rw [heap_drew']; exact heap_alloc_at _ _ _ (by first | rfl | (simp; done))) | fail, by exact (by repeat first | (with_reducible assumption) | (with_reducible exact Keep.refl _ _) | (with_reducible refine Keep.alloc ?_ _) | (with_reducible refine Keep.drew ?_) | (with_reducible refine Keep.drewN ?_ _) | (with_reducible refine Keep.setCell ?_ (.inl (by first | omega | (simp; done) | (simp; omega) | fail)) _))⟩ ?_
  intro X hX
  have HX := Lib.hid hX
  clear hX
  obtain ⟨x0, x1, x2, x3, x4, xf⟩ := cells5 HX.out.1
  go_wp2_with fail
  with_reducible refine (RN.out _ HX.out.2.2).mono ?_
  rintro e w1 ⟨vc, vs, rfl, hrt, hb1⟩
  have hz1 := hb1.size
  have hX2 : w.heap.size + 2 ≤ X.heap.size := by have := (Array.getElem?_eq_some_iff.1 HX.out.2.1).1; omega
  have HSI := Lib.hid (And.intro (show sig &&& al < 18446744073709551616 from Nat.lt_of_le_of_lt Nat.and_le_left hs) hs)
  have hmm := bl_len (sig &&& al) 64
  have HLA := Lib.hid (show bl (sig &&& al) 64 = bl (sig &&& al) 64 from rfl)
  obtain ⟨Ac, m, cc, As, cs, hc1, hc2, hs1, hs2, rfl, rfl, hm, k1, k2⟩ : ∃ Ac m cc As cs, m ≤ cc ∧ cc ≤ maxLen ∧ m ≤ cs ∧ cs ≤ maxLen ∧ vc = .slice Ac m cc ∧ vs = .slice As m cs ∧ (bl (sig &&& al) 64).length = m ∧ Sl w1 (fun b => X.heap.size ≤ b) 1 (.slice Ac m cc) m (iv (ints (bl (sig &&& al) 64))) ∧ Sl w1 (fun b => X.heap.size ≤ b) 1 (.slice As m cs) m (iv (ints ((bl (sig &&& al) 64).map sz))) := by
    obtain ⟨Ac, cc, As, cs, Ar, cr, hfe, hc1, hc2, hs1, hs2, -, -, k1, k2, -⟩ := hrt.form
    injection hfe with hfe
    injection hfe with hfe
    injection hfe with e1 hfe
    injection hfe with e2 hfe
    exact ⟨Ac, _, cc, As, cs, hc1, hc2, hs1, hs2, e1, e2, rfl, k1, k2⟩
  unfold maxLen at hc2 hs2
  rw [hm] at hmm
  have HM := Lib.hid hm
  obtain ⟨T, hT⟩ : ∃ T, T = w1.heap.size := ⟨_, rfl⟩
  have KX1 := Lib.hid (show Keep (fun _ => False) w w1 from HX.out.2.2.trans (Keep.of_below' hb1) (fun _ _ h => h))
  have HZ1 := Lib.hid ((hb1.block (w.heap.size + 1) (by omega)).trans HX.out.2.1)
  have HK := Lib.hid (And.intro k1 k2)
  clear x0 x1 x2 x3 x4 xf hrt hb1 hm k1 k2 HX RN HLA
  go_upto_region 2 with fail
  refine wp_world (S := fun W => W.heap[T]? = some (.cells #[.slice Ac m cc, .slice As m cs, .slice none 0 0] 35 (0, 0)) ∧ W.heap[w.heap.size + 1]? = some (.cells #[.slice none 0 0, .slice none 0 0, .slice none 0 0] 35 (0, 0)) ∧ Keep (fun _ => False) w1 W) ⟨by rw [hT]; exact heap_alloc_new w1 _, (heap_alloc_old _ _ (Array.getElem?_eq_some_iff.1 HZ1.out).1).trans HZ1.out, (Keep.refl _ w1).alloc _⟩ ?_
  intro Z hZ
  have HZ := Lib.hid hZ
  clear hZ HZ1
  have hTZ := (Array.getElem?_eq_some_iff.1 HZ.out.1).1
  rw [← hT]
  have hTw : w.heap.size + 2 ≤ T := by omega
  have HT1 := Lib.hid hT
  clear hT
  have OF := Lib.hid (fun Y (hk : Keep (fun _ => False) Z Y) => refOf_any (ints (bl (sig &&& al) 64)) Ac m cc _ Y (sl_rdV ((HK.out.1.keep HZ.out.2.2 (fun _ _ _ h => h)).keep hk (fun _ _ _ h => h))) (by omega))
  rw [of_bl _ HSI.out.1] at OF
  have HZW := Lib.hid (show Keep (fun _ => False) w Z from KX1.out.trans HZ.out.2.2 (fun _ _ h => h))
  have KR : ∀ (W' : World) (a b e : Value), Keep (fun b => w.heap.size ≤ b) w W' → Keep (fun b => w.heap.size ≤ b) w (((W'.setCell ⟨w.heap.size + 1, 0, none⟩ a).setCell ⟨w.heap.size + 1, 1, none⟩ b).setCell ⟨w.heap.size + 1, 2, none⟩ e) := fun W' a b e hk => hk.trans (keep3 W' (w.heap.size + 1) a b e) (fun x _ e => by omega)
  have HKR := Lib.hid KR
  clear KR
  obtain ⟨t0, t1, t2, tf⟩ := cells3 HZ.out.1
  obtain ⟨r0, r1, r2, rf⟩ := cells3 HZ.out.2.1
  have NO2 := Lib.hid (fun (h : ¬ LOK) W' (hk : Keep (fun b => w.heap.size ≤ b) w W') => NO.out W' undef undef h hk)
  clear NO
  by_cases h1 : sig &&& al = sig
  · rw [h1] at OF HK HM
    have eS : (((sig : Nat) : Int) != (sig : Int)) = false := by simp
    by_cases h2 : d = m
    · by_cases h3 : n ≤ 1024
      · obtain rfl : m = d := h2.symm
        have e2 : ((m : Int) != (m : Int)) = false := by simp
        have e3 : decide ((1024 : Int) < (n : Int)) = false := decide_eq_false (by omega)
        have HN3 := Lib.hid h3
        have YS := Lib.hid (show (∀ i, i < m → goodL (bl sig 64) sz n cols i) → LOK from fun h => LOH.out.2 ⟨h1, HM.out.symm, h3, h⟩)
        have LG := Lib.hid (fun (h : LOK) => (LOH.out.1 h).2.2.2)
        have NOS := Lib.hid (show ∀ i, i < m → ¬ goodL (bl sig 64) sz n cols i → ¬ LOK from fun i hi h hl => h ((LOH.out.1 hl).2.2.2 i hi))
        clear h1 h2 h3 LOH
        go_wp2_with fail
        with_reducible refine (OF.out _ (by exact (by repeat first | (with_reducible assumption) | (with_reducible exact Keep.refl _ _) | (with_reducible refine Keep.alloc ?_ _) | (with_reducible refine Keep.drew ?_) | (with_reducible refine Keep.drewN ?_ _) | (with_reducible refine Keep.setCell ?_ (.inl (by first | omega | (simp; done) | (simp; omega) | fail)) _)))).mono ?_
        rintro e w2 ⟨rfl, rfl⟩
        go_wp2
        go_loopw [11] (fun i wr => ∃ k : Nat, k ≤ m ∧ i = .int .i64 k ∧ Hid (Keep (fun _ => False) Z wr) ∧ Hid (∀ t, t < k → goodL (bl sig 64) sz n cols t)) (fun i _ => m - (intOf i).toNat)
        case atStart => exact ⟨0, by omega, rfl, Lib.hid (Keep.refl _ _), Lib.hid (fun t h => absurd h (by omega))⟩
        case round =>
          obtain ⟨k, hk, rfl, hkr, hgd⟩ := hrel
          have HZr := Lib.hid (And.intro ((hkr.out.block _ (Array.getElem?_eq_some_iff.1 HZ.out.1).1 (fun h => h)).trans HZ.out.1) ((hkr.out.block _ (Array.getElem?_eq_some_iff.1 HZ.out.2.1).1 (fun h => h)).trans HZ.out.2.1))
          have HWr := Lib.hid (show Keep (fun _ => False) w wr from HZW.out.trans hkr.out (fun _ _ h => h))
          clear t0 t1 t2 tf r0 r1 r2 rf
          obtain ⟨t0, t1, t2, tf⟩ := cells3 HZr.out.1
          obtain ⟨r0, r1, r2, rf⟩ := cells3 HZr.out.2
          by_cases hlt : k < m
          · have f1 : (k : Int) < (m : Int) := by omega
            have f0 : (0 : Int) ≤ (k : Int) := by omega
            obtain ⟨b1, o1, rfl, hcl⟩ := ints_at (L := (bl sig 64).map sz) ((HK.out.2.keep HZ.out.2.2 (fun _ _ _ h => h)).keep hkr.out (fun _ _ _ h => h)) (by rw [List.length_map]; exact HM.out) hlt
            have hse : ((bl sig 64).map sz).getD k 0 = sz ((bl sig 64).getD k 0) := by
              rw [List.getD_eq_getElem?_getD, List.getElem?_map, List.getD_eq_getElem?_getD, List.getElem?_eq_getElem (by rw [HM.out]; exact hlt)]; rfl
            rw [hse] at hcl
            obtain ⟨b2, o2, A1, d1, rfl, hcc, hby⟩ := bys_at (HC.out wr (HWr.out.mono (fun _ _ h => h.elim))) k hlt
            have GK := Lib.hid (show goodL (bl sig 64) sz n cols k ↔ (cols.getD k []).length = n * sz ((bl sig 64).getD k 0) from Iff.rfl)
            have hz64 := H64.out ((bl sig 64).getD k 0)
            have hwl := HW.out k
            have GN := Lib.hid (show goodL (bl sig 64) sz n cols k → ∀ t, t < k + 1 → goodL (bl sig 64) sz n cols t from fun h t ht => by
              by_cases e : t = k
              · rw [e]; exact h
              · exact hgd.out t (by omega))
            have NOk := Lib.hid (NOS.out k hlt)
            generalize sz ((bl sig 64).getD k 0) = z at *
            generalize (cols.getD k []).length = lk at *
            generalize goodL (bl sig 64) sz n cols k = GL at *
            have hm64 : n * z ≤ 65536 := Nat.mul_le_mul HN3.out hz64
            have ew : IntKind.i64.wrap ((n : Int) * (z : Int)) = ((n * z : Nat) : Int) := by rw [← Int.natCast_mul]; exact IntWalk.i64_in _ (by omega)
            obtain ⟨q, hq⟩ : ∃ q, n * z = q := ⟨_, rfl⟩
            rw [hq] at ew hm64 GK
            clear hq hse hby
            by_cases hg : lk = q
            · have eg : ((lk : Int) != (q : Int)) = false := by rw [hg]; simp
              have GN2 := Lib.hid (GN.out (GK.out.2 hg))
              clear hg
              go_wp2
              go_quiet (fail)
              go_wp2
              go_roundw
              case rel => exact ⟨k + 1, by omega, by go_num, Lib.hid (Keep.trans hkr.out (by exact (by repeat first | (with_reducible assumption) | (with_reducible exact Keep.refl _ _) | (with_reducible refine Keep.alloc ?_ _) | (with_reducible refine Keep.drew ?_) | (with_reducible refine Keep.drewN ?_ _) | (with_reducible refine Keep.setCell ?_ (.inl (by first | omega | (simp; done) | (simp; omega) | fail)) _))) (fun _ _ h => h)), GN2⟩
              case measure => simp [intOf]; omega
            · have eg : ((lk : Int) != (q : Int)) = true := by rw [bne_iff_ne]; omega
              have BAD := Lib.hid (NOk.out (fun h => hg (GK.out.1 h)))
              clear hg
              go_wp2
              go_quiet (fail)
              go_wp2
              refine bodyPost_ret (results_tabe Tryd.results16 _ _ (w.heap.size + 1) _ _ _ (by rfl) (heap_three (w := wr.drewN _) HZr.out.2 _ _ _) _ (by rfl)) rfl ?_
              exact NO2.out BAD.out _ (HKR.out _ _ _ _ ((HWr.out.drewN _).mono (fun _ _ h => h.elim)))
          · obtain rfl : k = m := by omega
            have f1 : ¬ (k : Int) < (k : Int) := by omega
            have OKL := Lib.hid (YS.out hgd.out)
            have HKZ := Lib.hid (show Keep (fun b => b = T ∨ Z.heap.size ≤ b) Z wr from hkr.out.mono (fun _ _ h => h.elim))
            go_wp2
            clear e2 e3 eS NOS YS NO2 OF hgd hkr
            have HLEN := Lib.hid (show (bl sig 64).length = k from HM.out)
            go_loopw [12] (fun i wl => ∃ (j : Nat) (A3 : Option Addr) (c3 : Nat), j ≤ n ∧ i = .int .i64 j ∧ Hid (wl.heap[T]? = some (.cells #[.slice Ac k cc, .slice As k cs, .slice A3 j c3] 35 (0, 0))) ∧ Hid (NBX entN (fun b => (H b ∧ b < w.heap.size) ∨ Z.heap.size ≤ b) Z.heap.size 91 wl (.slice A3 j c3) ((List.range j).map (rowR (bl sig 64) sz ids cols))) ∧ Hid (Keep (fun b => b = T ∨ Z.heap.size ≤ b) Z wl)) (fun i _ => n - (intOf i).toNat)
            case atStart => exact ⟨0, none, 0, by omega, rfl, HZr.out.1, NBX.nil _ _ _ _ _, HKZ.out⟩
            case round =>
              obtain ⟨j, A3, c3, hj, rfl, hbx, hnb, hkl⟩ := hrel
              have hzl := hkl.out.size
              have HWl := Lib.hid (show Keep (fun b => w.heap.size ≤ b) w wr from (HZW.out.mono (fun _ _ h => h.elim)).trans hkl.out (fun b _ e => by omega))
              have HRl := Lib.hid ((hkl.out.block (w.heap.size + 1) (by omega) (fun e => by omega)).trans HZ.out.2.1)
              clear t0 t1 t2 tf r0 r1 r2 rf
              obtain ⟨t0, t1, t2, tf⟩ := cells3 hbx.out
              obtain ⟨r0, r1, r2, rf⟩ := cells3 HRl.out
              by_cases hlt : j < n
              · have f1 : (j : Int) < (n : Int) := by omega
                have f0 : (0 : Int) ≤ (j : Int) := by omega
                have hI := HI.out wr HWl.out
                obtain ⟨bi, oi, rfl, -, i0, i1⟩ := ids_at hI HN.out hlt
                clear hI
                have RR := Lib.hid (show ∀ p, rowR (bl sig 64) sz ids cols j = ⟨ids.getD j default, p⟩ → True from fun _ _ => trivial)
                have HRR := Lib.hid (show (⟨⟨(ids.getD j default).ix, (ids.getD j default).gen⟩, (List.range k).map (partR (bl sig 64) sz cols j)⟩ : EnZ) = rowR (bl sig 64) sz ids cols j from by unfold rowR; rw [HLEN.out])
                generalize (ids.getD j default).ix = ix at *
                generalize (ids.getD j default).gen = gen at *
                clear RR
                obtain ⟨R, hR⟩ : ∃ R, wr.heap.size = R := ⟨_, rfl⟩
                go_upto_region 13 with fail
                refine wp_world (S := fun W => W.heap[R]? = some (.cells #[.int .i64 ix, .int .i64 gen, .slice none 0 0] 91 (0, 0)) ∧ Keep (fun _ => False) wr W) ⟨by rw [← hR]; exact heap_alloc_new wr _, (Keep.refl _ wr).alloc _⟩ ?_
                intro Y hY
                have HY := Lib.hid hY
                have hRY := (Array.getElem?_eq_some_iff.1 hY.1).1
                try rw [hR]
                rw [hR] at hzl
                have HR := Lib.hid hR
                clear hR hY t0 t1 t2 tf r0 r1 r2 rf i0 i1
                obtain ⟨wj, hwj⟩ : ∃ wj, wj = wr := ⟨_, rfl⟩
                subst hwj
                go_wp2
                go_loopw [14] (fun i wl => ∃ (t : Nat) (A5 : Option Addr) (c5 : Nat), t ≤ k ∧ i = .int .i64 t ∧ Hid (wl.heap[R]? = some (.cells #[.int .i64 ix, .int .i64 gen, .slice A5 t c5] 91 (0, 0))) ∧ Hid (NBX parN (fun b => H b ∧ b < w.heap.size) Y.heap.size 81 wl (.slice A5 t c5) ((List.range t).map (partR (bl sig 64) sz cols j))) ∧ Hid (Keep (fun b => b = R ∨ Y.heap.size ≤ b) Y wl)) (fun i _ => k - (intOf i).toNat)
                case atStart => exact ⟨0, none, 0, by omega, rfl, Lib.hid HY.out.1, NBX.nil _ _ _ _ _, Lib.hid (Keep.refl _ _)⟩
                case round =>
                  obtain ⟨t, A5, c5, ht, rfl, hrx, hnp, hkt⟩ := hrel
                  have hzt := hkt.out.size
                  have hrj := HR.out
                  have hyj := HY.out.2.size
                  have KTj := Lib.hid (show Keep (fun b => wj.heap.size ≤ b) wj wr from (HY.out.2.mono (fun _ _ h => h.elim)).trans hkt.out (fun b _ e => by omega))
                  have HTt := Lib.hid ((KTj.out.block T (Array.getElem?_eq_some_iff.1 hbx.out).1 (by omega)).trans hbx.out)
                  have HWt := Lib.hid (show Keep (fun b => w.heap.size ≤ b) w wr from HWl.out.trans KTj.out (fun b _ e => by omega))
                  have hT1 := HT1.out
                  have hZ1 := HZ.out.2.2.size
                  have HKt := Lib.hid (show Sl wr (fun b => X.heap.size ≤ b ∧ b < w1.heap.size) 1 (.slice Ac k cc) k (iv (ints (bl sig 64))) ∧ Sl wr (fun b => X.heap.size ≤ b ∧ b < w1.heap.size) 1 (.slice As k cs) k (iv (ints ((bl sig 64).map sz))) from
                    ⟨(((HK.out.1.mono (G := fun b => X.heap.size ≤ b ∧ b < w1.heap.size) (fun b hb h => ⟨h, hb⟩)).keep HZ.out.2.2 (fun _ _ _ h => h)).keep hkl.out (fun b _ h e => by omega)).keep KTj.out (fun b _ h e => by omega), (((HK.out.2.mono (G := fun b => X.heap.size ≤ b ∧ b < w1.heap.size) (fun b hb h => ⟨h, hb⟩)).keep HZ.out.2.2 (fun _ _ _ h => h)).keep hkl.out (fun b _ h e => by omega)).keep KTj.out (fun b _ h e => by omega)⟩)
                  clear hT1 hZ1
                  obtain ⟨t0, t1, t2, tf⟩ := cells3 HTt.out
                  obtain ⟨e0, e1, e2, ef⟩ := cells3 hrx.out
                  by_cases hlt2 : t < k
                  · have g1 : (t : Int) < (k : Int) := by omega
                    have g0 : (0 : Int) ≤ (t : Int) := by omega
                    obtain ⟨b1, o1, rfl, hcl⟩ := ints_at HKt.out.1 HLEN.out hlt2
                    obtain ⟨b3, o3, rfl, hsl⟩ := ints_at (L := (bl sig 64).map sz) HKt.out.2 (by rw [List.length_map]; exact HLEN.out) hlt2
                    have hse : ((bl sig 64).map sz).getD t 0 = sz ((bl sig 64).getD t 0) := by
                      rw [List.getD_eq_getElem?_getD, List.getElem?_map, List.getD_eq_getElem?_getD, List.getElem?_eq_getElem (by rw [HLEN.out]; exact hlt2)]; rfl
                    rw [hse] at hsl
                    obtain ⟨b2, o2, A1, d1, rfl, hcc, hby⟩ := bys_at (HC.out wr HWt.out) t hlt2
                    have hgl : (cols.getD t []).length = n * sz ((bl sig 64).getD t 0) := LG.out OKL.out t hlt2
                    have hz64 := H64.out ((bl sig 64).getD t 0)
                    have HBY := Lib.hid hby
                    obtain ⟨A1', d1', he, hd1, hd2, hd3, -⟩ := hby
                    injection he with he1 he2 he3
                    subst he1 he3
                    have PRT := Lib.hid (show partR (bl sig 64) sz cols j t = ⟨(((bl sig 64).getD t 0 : Nat) : Int), ((cols.getD t []).drop (j * sz ((bl sig 64).getD t 0))).take (sz ((bl sig 64).getD t 0))⟩ from rfl)
                    have hm64 : n * sz ((bl sig 64).getD t 0) ≤ 65536 := Nat.mul_le_mul HN3.out hz64
                    have hjz : j * sz ((bl sig 64).getD t 0) + sz ((bl sig 64).getD t 0) ≤ n * sz ((bl sig 64).getD t 0) := by rw [← Nat.succ_mul]; exact Nat.mul_le_mul_right _ hlt
                    rw [← hgl] at hm64 hjz
                    generalize sz ((bl sig 64).getD t 0) = z at *
                    generalize (bl sig 64).getD t 0 = c at *
                    generalize cols.getD t [] = bs at *
                    obtain ⟨lk, hlk⟩ : ∃ lk, bs.length = lk := ⟨_, rfl⟩
                    have HLK := Lib.hid hlk
                    rw [hlk] at hcc HBY hd1 hm64 hjz
                    have ew1 : IntKind.i64.wrap ((j : Int) * (z : Int)) = ((j * z : Nat) : Int) := by rw [← Int.natCast_mul]; exact IntWalk.i64_in _ (by omega)
                    obtain ⟨lo, hlo⟩ : ∃ lo, j * z = lo := ⟨_, rfl⟩
                    rw [hlo] at ew1 hjz PRT
                    have HLO := Lib.hid hlo
                    have ew2 : IntKind.i64.wrap ((lo : Int) + (z : Int)) = ((lo + z : Nat) : Int) := by rw [← Int.natCast_add]; exact IntWalk.i64_in _ (by omega)
                    obtain ⟨hi, hhi⟩ : ∃ hi, lo + z = hi := ⟨_, rfl⟩
                    have HHI := Lib.hid hhi
                    rw [hhi] at ew2 hjz
                    have q1 : lo ≤ hi := by omega
                    have q2 : hi ≤ d1 := by omega
                    have q3 : (lo : Int) ≤ (hi : Int) := by omega
                    have q4 : (hi : Int) ≤ (d1 : Int) := by omega
                    have q5 : (0 : Int) ≤ (lo : Int) := by omega
                    have q6 : (0 : Int) ≤ (hi : Int) := by omega
                    have q7 : hi - lo = z := by omega
                    have q8 : lo ≤ d1 := by omega
                    unfold maxLen at hd2
                    have HD3 := Lib.hid hd3
                    have HJZ := Lib.hid hjz
                    have q9 : z ≤ d1 - lo := by omega
                    have HQ7 := Lib.hid q7
                    clear hlo hhi hlk hgl hse hd3 q7 hm64 hjz
                    obtain ⟨ip, hip, hp0, hpp1, hpp2⟩ := info_parts info_part
                    have LEN := Lib.hid (show ((List.range t).map (partR (bl sig 64) sz cols j)).length = t by rw [List.length_map, List.length_range])
                    have MT := Lib.hid (range_map_next (partR (bl sig 64) sz cols j) t)
                    have NEXT := Lib.hid (show ∀ (wX w6 : World) (A6 : Option Addr) (c6 : Nat), Keep (fun _ => False) wr wX → NBX parN (fun b => H b ∧ b < w.heap.size) Y.heap.size 81 w6 (.slice A6 (t + 1) c6) (((List.range t).map (partR (bl sig 64) sz cols j)) ++ [⟨(c : Int), (bs.drop lo).take z⟩]) → Keep (fun k => ownB (.slice A5 t c5) = some k) wX w6 →
                      w6.heap[R]? = some (.cells #[.int .i64 ix, .int .i64 gen, .slice A5 t c5] 91 (0, 0)) ∧ Hid (∀ W', Keep (fun _ => False) (w6.setCell ⟨R, 2, none⟩ (.slice A6 (t + 1) c6)) W' → Hid (W'.heap[R]? = some (.cells #[.int .i64 ix, .int .i64 gen, .slice A6 (t + 1) c6] 91 (0, 0))) ∧ Hid (NBX parN (fun b => H b ∧ b < w.heap.size) Y.heap.size 81 W' (.slice A6 (t + 1) c6) ((List.range (t + 1)).map (partR (bl sig 64) sz cols j))) ∧ Hid (Keep (fun b => b = R ∨ Y.heap.size ≤ b) Y W')) from fun wX w6 A6 c6 g1 g2 g3 => by
                        have hown : ∀ k, ownB (.slice A5 t c5) = some k → Y.heap.size ≤ k := fun k e => (hnp.out.own_lt e).1
                        have h6 : w6.heap[R]? = _ := ((g1.block R (Array.getElem?_eq_some_iff.1 hrx.out).1 (fun h => h)).trans hrx.out) |> fun h => (g3.block R (Array.getElem?_eq_some_iff.1 h).1 (fun e => by have := hown R e; omega)).trans h
                        refine ⟨h6, fun W' k => ⟨?_, ?_, ?_⟩⟩
                        · have h7 := heap_setCell_same w6 R 2 _ _ (.slice A6 (t + 1) c6) h6
                          exact (k.block R (Array.getElem?_eq_some_iff.1 h7).1 (fun h => h)).trans h7
                        · have hks : Keep (fun b => b = R) w6 (w6.setCell ⟨R, 2, none⟩ (.slice A6 (t + 1) c6)) := Keep.setCell (S := fun b => b = R) (p := ⟨R, 2, none⟩) (Keep.refl _ _) (.inr rfl) _
                          have := (g2.keep hks (fun b e e2 => by have := (g2.own_lt e).1; omega) (fun b hb h _ e => by have := h.2; omega)).keep k (fun _ _ h => h) (fun _ _ _ _ h => h)
                          show NBX _ _ _ _ _ _ _
                          rw [MT.out, PRT.out]; exact this
                        · have hks : Keep (fun b => b = R ∨ Y.heap.size ≤ b) w6 (w6.setCell ⟨R, 2, none⟩ (.slice A6 (t + 1) c6)) := Keep.setCell (S := fun b => b = R ∨ Y.heap.size ≤ b) (p := ⟨R, 2, none⟩) (Keep.refl _ _) (.inr (.inl rfl)) _
                          exact (((hkt.out.trans g1 (fun _ _ h => h.elim)).trans g3 (fun b _ e => .inr (hown b e))).trans hks (fun _ _ h => h)).trans k (fun _ _ h => h.elim))
                    have HX5 := Lib.hid (show ∀ W' A' n' c', Keep (fun _ => False) wr W' → n' = z → (0 < z → ∀ a, A1 = some a → A' = some (a.add lo)) → z ≤ c' → c' ≤ maxLen → (A' = none → c' = 0) → By W' (fun b => (H b ∧ b < w.heap.size) ∧ ownB (.slice A5 t c5) ≠ some b) (.slice A' n' c') ((bs.drop lo).take z) from fun W' A' n' c' kk hn' hA hzc hc' hn0 => by
                      subst hn'
                      have h := HBY.out.piece (lo := lo) (m := n') (by rw [HLK.out]; have := HHI.out; have := HJZ.out; omega) hA hzc hc' hn0
                      exact By.mono (By.keep h kk (fun _ _ _ h => h)) (fun b hb h => ⟨h, fun e => by have := (hnp.out.own_lt e).1; have := h.2; omega⟩))
                    have HN5 := Lib.hid (show ∀ W', Keep (fun _ => False) wr W' → NBX parN (fun b => H b ∧ b < w.heap.size) Y.heap.size 81 W' (.slice A5 t c5) ((List.range t).map (partR (bl sig 64) sz cols j)) from fun W' k => hnp.out.keep k (fun _ _ h => h) (fun _ _ _ _ h => h))
                    have ha1 : ∀ o, (wr.alloc o).cell? ⟨R, 2, none⟩ = some (.slice A5 t c5) := fun o => ((Keep.refl (fun _ => False) wr).alloc o).cell (fun h => h) e2
                    have ha2 : ∀ o, (wr.drew.alloc o).cell? ⟨R, 2, none⟩ = some (.slice A5 t c5) := fun o => ((Keep.refl (fun _ => False) wr.drew).alloc o).cell (fun h => h) e2
                    go_upto_region 17 with fail
                    go_region_law (first
                      | ((refine step_pushX (by rfl) _ _ _ (by rfl) parN (fun b => H b ∧ b < w.heap.size) Y.heap.size 81 ip _ 32 Tryd.underlying38 hip hp0 hpp1 hpp2 rfl _ _ t LEN.out (by rfl) (HN5.out _ (by exact (by repeat first | (with_reducible assumption) | (with_reducible exact Keep.refl _ _) | (with_reducible refine Keep.alloc ?_ _) | (with_reducible refine Keep.drew ?_) | (with_reducible refine Keep.drewN ?_ _) | (with_reducible refine Keep.setCell ?_ (.inl (by first | omega | (simp; done) | (simp; omega) | fail)) _)))) _ _ ⟨(c : Int), (bs.drop lo).take z⟩ (.slice (if d1 = lo then A1 else Option.map (fun x => x.add lo) A1) (hi - lo) (d1 - lo)) (by rfl) (by first | exact lit_cells _ _ _ | (intro j' u' h'; rw [World.cell?_drew]; exact lit_cells _ _ _ j' u' h')) (HX5.out _ _ _ _ (by exact (by repeat first | (with_reducible assumption) | (with_reducible exact Keep.refl _ _) | (with_reducible refine Keep.alloc ?_ _) | (with_reducible refine Keep.drew ?_) | (with_reducible refine Keep.drewN ?_ _) | (with_reducible refine Keep.setCell ?_ (.inl (by first | omega | (simp; done) | (simp; omega) | fail)) _))) HQ7.out (fun hz a e => by rw [if_neg (by omega), e]; rfl) (by omega) (by unfold maxLen; omega) (fun e => by by_cases hdl : d1 = lo; omega; (rw [if_neg hdl] at e; have h9 : A1 = none := (by revert e; cases A1 <;> simp); have := HD3.out h9; omega))) (by unfold maxLen; omega) (by omega) (by simp; omega) ?_); intro A6 c6 w6 hn6 hk6; obtain ⟨h60, hnx⟩ := NEXT.out _ w6 A6 c6 (by exact (by repeat first | (with_reducible assumption) | (with_reducible exact Keep.refl _ _) | (with_reducible refine Keep.alloc ?_ _) | (with_reducible refine Keep.drew ?_) | (with_reducible refine Keep.drewN ?_ _) | (with_reducible refine Keep.setCell ?_ (.inl (by first | omega | (simp; done) | (simp; omega) | fail)) _))) hn6 hk6; obtain ⟨y0, y1, y2, yf⟩ := cells3 h60; clear hn6 hk6)
                      | fail)
                    all_goals
                      clear ha1 ha2 NEXT
                      go_wp2
                      go_roundw
                      case rel => obtain ⟨q1, q2, q3⟩ := hnx.out _ (by exact (by repeat first | (with_reducible assumption) | (with_reducible exact Keep.refl _ _) | (with_reducible refine Keep.alloc ?_ _) | (with_reducible refine Keep.drew ?_) | (with_reducible refine Keep.drewN ?_ _) | (with_reducible refine Keep.setCell ?_ (.inl (by first | omega | (simp; done) | (simp; omega) | fail)) _))); exact ⟨t + 1, A6, c6, by omega, by go_num, q1, q2, q3⟩
                      case measure => simp [intOf]; omega
                  · obtain rfl : t = k := by omega
                    have g1 : ¬ (t : Int) < (t : Int) := by omega
                    obtain ⟨ie, hie, he0, he1, he2⟩ := info_parts info_ent
                    have LENR := Lib.hid (show ((List.range j).map (rowR (bl sig 64) sz ids cols)).length = j by rw [List.length_map, List.length_range])
                    have MTR := Lib.hid (range_map_next (rowR (bl sig 64) sz ids cols) j)
                    have hwt := KTj.out.size
                    have HNR := Lib.hid (show ∀ W', Keep (fun _ => False) wr W' → NBX entN (fun b => (H b ∧ b < w.heap.size) ∨ Z.heap.size ≤ b) Z.heap.size 91 W' (.slice A3 j c3) ((List.range j).map (rowR (bl sig 64) sz ids cols)) from fun W' kk => by
                      obtain ⟨us, u1, u2, u3⟩ := hnb.out
                      have mv : ∀ (x : EnZ) (q : Value), NS parN wj (fun b => ((H b ∧ b < w.heap.size) ∨ Z.heap.size ≤ b) ∧ ownB (.slice A3 j c3) ≠ some b) q x.parts → NS parN W' (fun b => ((H b ∧ b < w.heap.size) ∨ Z.heap.size ≤ b) ∧ ownB (.slice A3 j c3) ≠ some b) q x.parts := fun x q h =>
                        ((((h.mono (G := fun b => (((H b ∧ b < w.heap.size) ∨ Z.heap.size ≤ b) ∧ ownB (.slice A3 j c3) ≠ some b) ∧ b < wj.heap.size) (fun b hb h => ⟨h, hb⟩)).keep KTj.out (fun b _ h e => by have := h.2; omega)).keep kk (fun _ _ _ h => h))).mono (fun b _ h => h.1)
                      exact ⟨us, u1, (u2.keep KTj.out (fun k e e2 => by have := (u2.ownB k e).2; omega)).keep kk (fun _ _ h => h), fun i x q hx hq => mv x q (u3 i x q hx hq)⟩)
                    have HXR := Lib.hid (show ∀ W', Keep (fun _ => False) wr W' → NS parN W' (fun b => ((H b ∧ b < w.heap.size) ∨ Z.heap.size ≤ b) ∧ ownB (.slice A3 j c3) ≠ some b) (.slice A5 t c5) ((List.range t).map (partR (bl sig 64) sz cols j)) from fun W' kk => ((hnp.out.ns.keep kk (fun _ _ _ h => h)).mono (fun b hb h => by
                      have ho : ∀ g, ownB (.slice A3 j c3) = some g → Z.heap.size ≤ g ∧ g < wj.heap.size := fun g e => hnb.out.own_lt e
                      rcases h with h | h
                      · exact ⟨.inl h, fun e => by have := ho b e; omega⟩
                      · exact ⟨.inr (by omega), fun e => by have := ho b e; omega⟩)))
                    have NXR := Lib.hid (show ∀ (wX w6 : World) (A6 : Option Addr) (c6 : Nat), Keep (fun _ => False) wr wX → NBX entN (fun b => (H b ∧ b < w.heap.size) ∨ Z.heap.size ≤ b) Z.heap.size 91 w6 (.slice A6 (j + 1) c6) (((List.range j).map (rowR (bl sig 64) sz ids cols)) ++ [⟨⟨ix, gen⟩, (List.range t).map (partR (bl sig 64) sz cols j)⟩]) → Keep (fun k => ownB (.slice A3 j c3) = some k) wX w6 →
                      w6.heap[T]? = some (.cells #[.slice Ac t cc, .slice As t cs, .slice A3 j c3] 35 (0, 0)) ∧ Hid (∀ W', Keep (fun _ => False) (w6.setCell ⟨T, 2, none⟩ (.slice A6 (j + 1) c6)) W' → Hid (W'.heap[T]? = some (.cells #[.slice Ac t cc, .slice As t cs, .slice A6 (j + 1) c6] 35 (0, 0))) ∧ Hid (NBX entN (fun b => (H b ∧ b < w.heap.size) ∨ Z.heap.size ≤ b) Z.heap.size 91 W' (.slice A6 (j + 1) c6) ((List.range (j + 1)).map (rowR (bl sig 64) sz ids cols))) ∧ Hid (Keep (fun b => b = T ∨ Z.heap.size ≤ b) Z W')) from fun wX w6 A6 c6 g1 g2 g3 => by
                      have hown : ∀ k, ownB (.slice A3 j c3) = some k → Z.heap.size ≤ k := fun k e => (hnb.out.own_lt e).1
                      have h6 : w6.heap[T]? = _ := ((g1.block T (Array.getElem?_eq_some_iff.1 HTt.out).1 (fun h => h)).trans HTt.out) |> fun h => (g3.block T (Array.getElem?_eq_some_iff.1 h).1 (fun e => by have := hown T e; omega)).trans h
                      refine ⟨h6, fun W' k => ⟨?_, ?_, ?_⟩⟩
                      · have h7 := heap_setCell_same w6 T 2 _ _ (.slice A6 (j + 1) c6) h6
                        exact (k.block T (Array.getElem?_eq_some_iff.1 h7).1 (fun h => h)).trans h7
                      · have hks : Keep (fun b => b = T) w6 (w6.setCell ⟨T, 2, none⟩ (.slice A6 (j + 1) c6)) := Keep.setCell (S := fun b => b = T) (p := ⟨T, 2, none⟩) (Keep.refl _ _) (.inr rfl) _
                        have := (g2.keep hks (fun b e e2 => by have := (g2.own_lt e).1; omega) (fun b hb h _ e => by rcases h with h | h <;> omega)).keep k (fun _ _ h => h) (fun _ _ _ _ h => h)
                        show NBX _ _ _ _ _ _ _
                        rw [MTR.out, ← HRR.out]; exact this
                      · have hks : Keep (fun b => b = T ∨ Z.heap.size ≤ b) w6 (w6.setCell ⟨T, 2, none⟩ (.slice A6 (j + 1) c6)) := Keep.setCell (S := fun b => b = T ∨ Z.heap.size ≤ b) (p := ⟨T, 2, none⟩) (Keep.refl _ _) (.inr (.inl rfl)) _
                        exact (((((hkl.out.trans KTj.out (fun b _ e => .inr (by omega))).trans g1 (fun _ _ h => h.elim)).trans g3 (fun b _ e => .inr (hown b e))).trans hks (fun _ _ h => h))).trans k (fun _ _ h => h.elim))
                    go_upto_region 18 with fail
                    have tk0 : ∀ o, (wr.alloc o).cell? ⟨T, 2, none⟩ = some (.slice A3 j c3) := fun o => ((Keep.refl (fun _ => False) wr).alloc o).cell (fun h => h) t2
                    go_wp2_with (first
                      | (at_builtin; refine wpList_pushXt (by rfl) _ _ _ (by rfl) entN (fun b => (H b ∧ b < w.heap.size) ∨ Z.heap.size ≤ b) Z.heap.size 91 ie _ 40 Tryd.underlying33 hie he0 he1 he2 rfl _ _ j LENR.out (by rfl) (HNR.out _ (by exact (by repeat first | (with_reducible assumption) | (with_reducible exact Keep.refl _ _) | (with_reducible refine Keep.alloc ?_ _) | (with_reducible refine Keep.drew ?_) | (with_reducible refine Keep.drewN ?_ _) | (with_reducible refine Keep.setCell ?_ (.inl (by first | omega | (simp; done) | (simp; omega) | fail)) _)))) _ _ ⟨⟨ix, gen⟩, (List.range t).map (partR (bl sig 64) sz cols j)⟩ (.slice A5 t c5) (by rfl) (by exact lit_cells _ _ _) (HXR.out _ (by exact (by repeat first | (with_reducible assumption) | (with_reducible exact Keep.refl _ _) | (with_reducible refine Keep.alloc ?_ _) | (with_reducible refine Keep.drew ?_) | (with_reducible refine Keep.drewN ?_ _) | (with_reducible refine Keep.setCell ?_ (.inl (by first | omega | (simp; done) | (simp; omega) | fail)) _)))) (by unfold maxLen; omega) (by have := HN3.out; omega) (by simp; omega) ?_)
                      | fail)
                    intro A6 c6 w6 hn6 hk6
                    obtain ⟨h60, hnx⟩ := NXR.out _ w6 A6 c6 (by exact (by repeat first | (with_reducible assumption) | (with_reducible exact Keep.refl _ _) | (with_reducible refine Keep.alloc ?_ _) | (with_reducible refine Keep.drew ?_) | (with_reducible refine Keep.drewN ?_ _) | (with_reducible refine Keep.setCell ?_ (.inl (by first | omega | (simp; done) | (simp; omega) | fail)) _))) hn6 hk6
                    clear hn6 hk6 t0 t1 t2 tf e0 e1 e2 ef tk0
                    obtain ⟨t0, t1, t2, tf⟩ := cells3 h60
                    go_wp2
                    go_roundw
                    case rel => obtain ⟨q1, q2, q3⟩ := hnx.out _ (by exact (by repeat first | (with_reducible assumption) | (with_reducible exact Keep.refl _ _) | (with_reducible refine Keep.alloc ?_ _) | (with_reducible refine Keep.drew ?_) | (with_reducible refine Keep.drewN ?_ _) | (with_reducible refine Keep.setCell ?_ (.inl (by first | omega | (simp; done) | (simp; omega) | fail)) _))); exact ⟨j + 1, A6, c6, by omega, by go_num, q1, q2, q3⟩
                    case measure => simp [intOf]; omega
              · obtain rfl : j = n := by omega
                have f1 : ¬ (j : Int) < (j : Int) := by omega
                go_wp2
                refine bodyPost_ret (results_tabe Tryd.results16 _ _ (w.heap.size + 1) _ _ _ (by rfl) (heap_three HRl.out _ _ _) _ (by rfl)) rfl ?_
                have ks := keep3 wr (w.heap.size + 1) (.slice Ac k cc) (.slice As k cs) (.slice A3 j c3)
                have hT1 := HT1.out
                have hZ1 := HZ.out.2.2.size
                refine YES.out _ _ _ _ _ _ _ _ _ _ OKL.out ⟨_, _, _, rfl, ?_, ?_, ?_⟩ (HKR.out _ _ _ _ HWl.out)
                · rw [HLEN.out]
                  exact ((((HK.out.1.mono (G := fun b => X.heap.size ≤ b ∧ b < w1.heap.size) (fun b hb h => ⟨h, hb⟩)).keep HZ.out.2.2 (fun _ _ _ h => h)).keep hkl.out (fun b _ h e => by omega)).keep ks (fun b _ h e => by omega)).mono (fun b _ h => .inr (by omega))
                · rw [HLEN.out]
                  exact ((((HK.out.2.mono (G := fun b => X.heap.size ≤ b ∧ b < w1.heap.size) (fun b hb h => ⟨h, hb⟩)).keep HZ.out.2.2 (fun _ _ _ h => h)).keep hkl.out (fun b _ h e => by omega)).keep ks (fun b _ h e => by omega)).mono (fun b _ h => .inr (by omega))
                · exact (hnb.out.ns.keep ks (fun b _ h e => by rcases h with (h | h) | h <;> omega)).mono (fun b _ h => by rcases h with (h | h) | h; exact .inl h; exact .inr (by omega); exact .inr (by omega))
      · have e2 : ((d : Int) != (m : Int)) = false := by rw [h2]; simp
        have e3 : (1024 : Int) < (n : Int) := by omega
        have BAD := Lib.hid (show ¬ LOK from fun h => h3 (LOH.out.1 h).2.2.1)
        clear h1 h2 h3 LOH HK HM
        go_wp2_with fail
        with_reducible refine (OF.out _ (by exact (by repeat first | (with_reducible assumption) | (with_reducible exact Keep.refl _ _) | (with_reducible refine Keep.alloc ?_ _) | (with_reducible refine Keep.drew ?_) | (with_reducible refine Keep.drewN ?_ _) | (with_reducible refine Keep.setCell ?_ (.inl (by first | omega | (simp; done) | (simp; omega) | fail)) _)))).mono ?_
        rintro e w2 ⟨rfl, rfl⟩
        go_wp2
        refine bodyPost_ret (results_tabe Tryd.results16 _ _ (w.heap.size + 1) _ _ _ (by rfl) (heap_three HZ.out.2.1 _ _ _) _ (by rfl)) rfl ?_
        exact NO2.out BAD.out _ (HKR.out _ _ _ _ (HZW.out.mono (fun _ _ h => h.elim)))
    · have e2 : ((d : Int) != (m : Int)) = true := by rw [bne_iff_ne]; omega
      have BAD := Lib.hid (show ¬ LOK from fun h => h2 (by rw [(LOH.out.1 h).2.1, HM.out]))
      clear h1 h2 LOH HK HM
      go_wp2_with fail
      with_reducible refine (OF.out _ (by exact (by repeat first | (with_reducible assumption) | (with_reducible exact Keep.refl _ _) | (with_reducible refine Keep.alloc ?_ _) | (with_reducible refine Keep.drew ?_) | (with_reducible refine Keep.drewN ?_ _) | (with_reducible refine Keep.setCell ?_ (.inl (by first | omega | (simp; done) | (simp; omega) | fail)) _)))).mono ?_
      rintro e w2 ⟨rfl, rfl⟩
      go_wp2
      refine bodyPost_ret (results_tabe Tryd.results16 _ _ (w.heap.size + 1) _ _ _ (by rfl) (heap_three HZ.out.2.1 _ _ _) _ (by rfl)) rfl ?_
      exact NO2.out BAD.out _ (HKR.out _ _ _ _ (HZW.out.mono (fun _ _ h => h.elim)))
  · have e1 : (((sig &&& al : Nat) : Int) != (sig : Int)) = true := by rw [bne_iff_ne]; omega
    have BAD := Lib.hid (show ¬ LOK from fun h => h1 (LOH.out.1 h).1)
    have hlt := HSI.out
    clear h1 LOH HK HM
    generalize sig &&& al = sga at *
    go_wp2_with fail
    with_reducible refine (OF.out _ (by exact (by repeat first | (with_reducible assumption) | (with_reducible exact Keep.refl _ _) | (with_reducible refine Keep.alloc ?_ _) | (with_reducible refine Keep.drew ?_) | (with_reducible refine Keep.drewN ?_ _) | (with_reducible refine Keep.setCell ?_ (.inl (by first | omega | (simp; done) | (simp; omega) | fail)) _)))).mono ?_
    rintro e w2 ⟨rfl, rfl⟩
    go_wp2
    refine bodyPost_ret (results_tabe Tryd.results16 _ _ (w.heap.size + 1) _ _ _ (by rfl) (heap_three HZ.out.2.1 _ _ _) _ (by rfl)) rfl ?_
    exact NO2.out BAD.out _ (HKR.out _ _ _ _ (HZW.out.mono (fun _ _ h => h.elim)))
end Go.Proofs.YtpkeahikfbmcpaaDoor

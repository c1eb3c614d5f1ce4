/- Contracts of ecs.Alive, Spawn, Despawn, named. -/
import Derived.Test.YtglliendhbkkhaaGreatDoorEcsPl
import Derived.Test.YtglliendhbkkhaaGreatDoorBits2
namespace Go.Proofs.YtglliendhbkkhaaGreatDoor
open Go.RowKit
set_option maxRecDepth 100000
set_option linter.unusedVariables false
set_option linter.unusedSimpArgs false

section
variable {w : World} {c : Cf} {xp q : Nat} {B : CoB} {a : Co}
set_option maxHeartbeats 1000000 in
theorem e_alive (h : CoM w c xp B q a) (x : IdZ) : Calls Tryz.prog 30 #[.pointer (some ⟨xp, 0, none⟩), .agg #[.int .i64 x.ix, .int .i64 x.gen]] w fun e w' => e = .returned (.bool (aliveI a.na x)) ∧ Keep (fun _ => False) w w' := by
  have AL := Lib.hid (fun X (hk : Keep (fun _ => False) w X) => id_alive (h.names.same hk) x)
  have K0 := Lib.hid ((Keep.refl (fun _ => False) w).alloc (.cells #[.int .i64 x.ix, .int .i64 x.gen] 40 (0, 0)))
  have HB := Lib.hid (heap_alloc_new w (.cells #[.int .i64 x.ix, .int .i64 x.gen] 40 (0, 0)))
  have c5 : w.cell? ⟨xp, 5, none⟩ = some (.pointer (some ⟨B.ip, 0, none⟩)) := (cells_of_row' h.box).1 5 _ rfl
  obtain ⟨b0, b1, bf⟩ := cells2 HB.out
  have SX := Lib.hid (show ∀ W', Keep (fun _ => False) (w.alloc (.cells #[.int .i64 x.ix, .int .i64 x.gen] 40 (0, 0))) W' → ((W'.cell? ⟨xp, 5, none⟩ = some (.pointer (some ⟨B.ip, 0, none⟩)) ∧ W'.cell? ⟨w.heap.size, 0, none⟩ = some (.int .i64 x.ix) ∧ W'.cell? ⟨w.heap.size, 1, none⟩ = some (.int .i64 x.gen)) ∧ Keep (fun _ => False) (w.alloc (.cells #[.int .i64 x.ix, .int .i64 x.gen] 40 (0, 0))) W') from fun W' hk => ⟨⟨(K0.out.trans hk (fun _ _ h => h)).cell (fun h => h) c5, hk.cell (fun h => h) b0, hk.cell (fun h => h) b1⟩, hk⟩)
  have K1 := Lib.hid (show ∀ W', Keep (fun _ => False) (w.alloc (.cells #[.int .i64 x.ix, .int .i64 x.gen] 40 (0, 0))) W' → Keep (fun _ => False) w W' from fun W' hk => K0.out.trans hk (fun _ _ h => h))
  obtain ⟨ix, gen⟩ := x
  dsimp only at *
  generalize aliveI a.na ⟨ix, gen⟩ = res at *
  clear h c5 b0 b1
  go_enter Tryz.func30, Tryz.ntmps30
  go_upto_region 1 with fail
  go_region_held3 (fun W' => (W'.cell? ⟨xp, 5, none⟩ = some (.pointer (some ⟨B.ip, 0, none⟩)) ∧ W'.cell? ⟨w.heap.size, 0, none⟩ = some (.int .i64 ix) ∧ W'.cell? ⟨w.heap.size, 1, none⟩ = some (.int .i64 gen)) ∧ Keep (fun _ => False) (w.alloc (.cells #[.int .i64 ix, .int .i64 gen] 40 (0, 0))) W') (exact SX.out _ (by exact (by repeat first | (with_reducible assumption) | (with_reducible exact Keep.refl _ _) | (with_reducible refine Keep.alloc ?_ _) | (with_reducible refine Keep.drew ?_) | (with_reducible refine Keep.drewN ?_ _) | (with_reducible refine Keep.setCell ?_ (.inl (by first | omega | (simp; done) | (simp; omega) | fail)) _)))) (first
    | (go_at_call 75; (with_reducible refine (AL.out _ (by exact K1.out _ (by exact (by repeat first | (with_reducible assumption) | (with_reducible exact Keep.refl _ _) | (with_reducible refine Keep.alloc ?_ _) | (with_reducible refine Keep.drew ?_) | (with_reducible refine Keep.drewN ?_ _) | (with_reducible refine Keep.setCell ?_ (.inl (by first | omega | (simp; done) | (simp; omega) | fail)) _))))).mono ?_); rintro e w4 ⟨rfl, hk4⟩; have k4 := Keep.trans (S := fun _ => False) (T := fun _ => False) (w := w.alloc (.cells #[.int .i64 ix, .int .i64 gen] 40 (0, 0))) (by exact (by repeat first | (with_reducible assumption) | (with_reducible exact Keep.refl _ _) | (with_reducible refine Keep.alloc ?_ _) | (with_reducible refine Keep.drew ?_) | (with_reducible refine Keep.drewN ?_ _) | (with_reducible refine Keep.setCell ?_ (.inl (by first | omega | (simp; done) | (simp; omega) | fail)) _))) hk4 (fun _ _ h => h); clear hk4)
    | fail)
  go_wp2
  go_ret
  exact ⟨rfl, K1.out _ (by exact (by repeat first | (with_reducible assumption) | (with_reducible exact Keep.refl _ _) | (with_reducible refine Keep.alloc ?_ _) | (with_reducible refine Keep.drew ?_) | (with_reducible refine Keep.drewN ?_ _) | (with_reducible refine Keep.setCell ?_ (.inl (by first | omega | (simp; done) | (simp; omega) | fail)) _)))⟩
theorem CoAt.besides {Foot S : Nat → Prop} {w1 w' : World} (h : CoAt w c xp Foot q a w1 B) (hk : Keep S w1 w') (hs : ∀ k, CoF xp B a k → ¬ S k) (hS : ∀ k, S k → w.heap.size ≤ k) : CoAt w c xp Foot q a w' B :=
  ⟨h.1.keep hk hs, h.2.1.trans hk (fun x hx e => by have := hS x e; omega), h.2.2⟩
/-- A core with other names. -/
def naC (a : Co) (n : Na) : Co := ⟨n, a.sigs, a.tabs, a.spots⟩
/-- A new entity. -/
def spawnC (sz : Nat → Nat) (a : Co) : Co × IdZ × Int :=
  if (takeI a.na).2.2 = 0 then (enterC sz (naC a (takeI a.na).1) (takeI a.na).2.1.ix.toNat (takeI a.na).2.1.gen.toNat 0 [], (takeI a.na).2.1, 0) else (a, zeroId, (takeI a.na).2.2)
theorem takeI_name {n : Na} (h : NaOk n) (h0 : (takeI n).2.2 = 0) : ∃ i g : Nat, (takeI n).2.1 = ⟨(i : Int), (g : Int)⟩ ∧ i < 1024 := by
  rcases list_last n.free with hf | ⟨f, i, hf⟩
  · rw [takeI_none hf] at h0 ⊢
    split
    · rename_i e; rw [if_pos e] at h0; cases h0
    · exact ⟨n.sl.length, 0, rfl, by have := h.few; have := h.ents; omega⟩
  · rw [takeI_last hf]
    refine ⟨i, (n.sl.getD i (0, false)).1, rfl, ?_⟩
    have := (h.fr i (by rw [hf]; simp)).1
    have := h.few
    have := h.ents
    omega
theorem takeI_err {n : Na} (h0 : (takeI n).2.2 ≠ 0) : takeI n = (n, zeroId, 9) := by
  rcases list_last n.free with hf | ⟨f, i, hf⟩
  · rw [takeI_none hf] at h0 ⊢
    split
    · rfl
    · rename_i e; rw [if_neg e] at h0; exact absurd rfl h0
  · rw [takeI_last hf] at h0
    exact absurd rfl h0
set_option maxHeartbeats 4000000 in
theorem e_spawn (h : CoM w c xp B q a) (hl : c.l.length ≤ 1000) (hT : Tab w) (hG : ¬ CoF xp B a 0) (hs : ∀ s ∈ a.sigs, s < 18446744073709551616 ∧ s &&& allOf c.l = s) (h0 : 0 < a.sigs.length) (hadd : (takeI a.na).2.2 = 0 → addC (tbAt a 0).ids.length (sgAt a 0) (szOf c.l) [] = 0) :
    Calls Tryz.prog 47 #[.pointer (some ⟨xp, 0, none⟩)] w fun e w' => e = .returned (.tuple #[.agg #[.int .i64 (spawnC (szOf c.l) a).2.1.ix, .int .i64 (spawnC (szOf c.l) a).2.1.gen], .int .i64 (spawnC (szOf c.l) a).2.2]) ∧ CoTo w c xp (CoF xp B a) q (spawnC (szOf c.l) a).1 w' := by
  have TK := Lib.hid (fun X (hk : Keep (fun _ => False) w X) => id_take (h.names.same hk))
  have K0 := Lib.hid ((Keep.refl (fun _ => False) w).alloc (.cells #[.int .i64 0, .int .i64 0] 40 (0, 0)))
  have HB := Lib.hid (heap_alloc_new w (.cells #[.int .i64 0, .int .i64 0] 40 (0, 0)))
  have H := Lib.hid h
  have HT := Lib.hid hT
  have HG := Lib.hid hG
  have HS := Lib.hid hs
  have hlt0 := Lib.hid (fun k (hk : CoF xp B a k) => h.lt k hk)
  have c5 : (w.alloc (.cells #[.int .i64 0, .int .i64 0] 40 (0, 0))).cell? ⟨xp, 5, none⟩ = some (.pointer (some ⟨B.ip, 0, none⟩)) := K0.out.cell (fun h => h) ((cells_of_row' h.box).1 5 _ rfl)
  have hok := h.names.ok
  by_cases he : (takeI a.na).2.2 = 0
  · have HA := Lib.hid (hadd he)
    obtain ⟨i, g, hid, hi4⟩ := takeI_name hok he
    have ES : spawnC (szOf c.l) a = (enterC (szOf c.l) (naC a (takeI a.na).1) i g 0 [], ⟨(i : Int), (g : Int)⟩, 0) := by
      unfold spawnC
      rw [if_pos he, hid]
      rfl
    rw [ES]
    dsimp only
    rw [he, hid] at TK
    clear h hT hG hs hadd he ES hid hok
    go_enter Tryz.func47, Tryz.ntmps47
    go_wp2_with fail
    with_reducible refine (TK.out _ (by exact (by repeat first | (with_reducible assumption) | (with_reducible exact Keep.refl _ _) | (with_reducible refine Keep.alloc ?_ _) | (with_reducible refine Keep.drew ?_) | (with_reducible refine Keep.drewN ?_ _) | (with_reducible refine Keep.setCell ?_ (.inl (by first | omega | (simp; done) | (simp; omega) | fail)) _)))).mono ?_
    rintro e w1 ⟨rfl, hto⟩
    obtain ⟨B1, h1, -⟩ := CoM.namesTo_ (H.out.same K0.out) hto
    change CoAt _ c xp (CoF xp B a) q (naC a (takeI a.na).1) w1 B1 at h1
    have z1 : w.heap.size + 1 ≤ w1.heap.size := by have := h1.2.1.size; simpa using this
    have HB1 := Lib.hid ((h1.2.1.block w.heap.size (by simp) (fun e => by have := hlt0.out _ e; omega)).trans HB.out)
    have NB1 := Lib.hid (show ∀ k, CoF xp B1 (naC a (takeI a.na).1) k → k ≠ w.heap.size ∧ k < w1.heap.size from fun k hk => ⟨fun e => by
      subst e
      rcases h1.2.2 _ hk with e | e
      · have := hlt0.out _ e; omega
      · simp at e; omega, h1.1.lt k hk⟩)
    have H1 := Lib.hid (CoAt.from_ K0.out h1)
    have EN := Lib.hid (fun X (hk : Keep (fun _ => False) w1 X) => show Calls Tryz.prog 96 #[.pointer (some ⟨xp, 0, none⟩), .agg #[.int .i64 (i : Int), .int .i64 (g : Int)], .int .i64 0, .slice none 0 0] X _ from e_enter (H1.out.1.same hk) hl ((H1.out.tab HT.out HG.out).1.same hk) (H1.out.tab HT.out HG.out).2 HS.out i g hi4 0 h0 [] (.slice none 0 0) (fun _ => False) (NS.nil _ _ _) (by simp) (fun _ h => h.elim) HA.out)
    clear hto h1
    obtain ⟨r0, r1, rf⟩ := cells2 HB1.out
    have n1 : ¬ w.heap.size = w1.heap.size := by omega
    have n2 : ¬ w1.heap.size = w.heap.size := by omega
    have HI := Lib.hid (heap_alloc_new w1 (.cells #[.int .i64 (i : Int), .int .i64 (g : Int)] 40 (0, 0)))
    go_wp2_with fail
    with_reducible refine (EN.out _ (by exact (by repeat first | (with_reducible assumption) | (with_reducible exact Keep.refl _ _) | (with_reducible refine Keep.alloc ?_ _) | (with_reducible refine Keep.drew ?_) | (with_reducible refine Keep.drewN ?_ _) | (with_reducible refine Keep.setCell ?_ (.inl (by first | omega | (simp; done) | (simp; omega) | fail)) _)))).mono ?_
    rintro e w2 ⟨rfl, B2, h2, -⟩
    have HI2 := Lib.hid ((h2.2.1.block w1.heap.size (by simp) (fun e => by have := (NB1.out _ e).2; omega)).trans HI.out)
    have HR2 := Lib.hid ((h2.2.1.block w.heap.size (by simp; omega) (fun e => (NB1.out _ e).1 rfl)).trans (((Keep.refl (fun _ => False) w1).alloc _ |>.block w.heap.size (by omega) (fun h => h)).trans HB1.out))
    have FIN := Lib.hid (CoAt.then_ H1.out (CoAt.from_ ((Keep.refl (fun _ => False) w1).alloc _) h2))
    have z2 := h2.2.1.size
    obtain ⟨r0, r1, rf⟩ := cells2 HR2.out
    obtain ⟨i0, i1, if_⟩ := cells2 HI2.out
    have NB2 := Lib.hid (show ∀ k, CoF xp B2 (enterC (szOf c.l) (naC a (takeI a.na).1) i g 0 []) k → k ≠ w.heap.size from fun k hk e => by
      rcases h2.2.2 _ hk with h | h
      · exact (NB1.out _ h).1 e
      · simp at h; omega)
    clear h2 EN TK
    go_wp2
    refine bodyPost_ret (results_idb Tryz.results47 _ _ w.heap.size _ _ (by rfl) (heap_twoJ HR2.out _ _) _ (by rfl)) rfl ⟨rfl, (FIN.out.besides (keep2 w2 w.heap.size _ _) (fun k hk => NB2.out k hk) (fun k e => by have : k = w.heap.size := e; omega)).to⟩
  · have ET := takeI_err he
    have ES : spawnC (szOf c.l) a = (a, zeroId, 9) := by
      unfold spawnC
      rw [if_neg he, ET]
    rw [ES]
    rw [ET] at TK
    dsimp only [zeroId] at TK ⊢
    clear h hT hG hs hadd he ES hok ET
    go_enter Tryz.func47, Tryz.ntmps47
    go_wp2_with fail
    with_reducible refine (TK.out _ (by exact (by repeat first | (with_reducible assumption) | (with_reducible exact Keep.refl _ _) | (with_reducible refine Keep.alloc ?_ _) | (with_reducible refine Keep.drew ?_) | (with_reducible refine Keep.drewN ?_ _) | (with_reducible refine Keep.setCell ?_ (.inl (by first | omega | (simp; done) | (simp; omega) | fail)) _)))).mono ?_
    rintro e w1 ⟨rfl, hto⟩
    obtain ⟨B1, h1, -⟩ := CoM.namesTo_ (H.out.same K0.out) hto
    have z1 : w.heap.size + 1 ≤ w1.heap.size := by have := h1.2.1.size; simpa using this
    have HB1 := Lib.hid ((h1.2.1.block w.heap.size (by simp) (fun e => by have := hlt0.out _ e; omega)).trans HB.out)
    have H1 := Lib.hid (CoAt.from_ K0.out h1)
    obtain ⟨r0, r1, rf⟩ := cells2 HB1.out
    have n1 : ¬ w.heap.size = w1.heap.size := by omega
    have n2 : ¬ w1.heap.size = w.heap.size := by omega
    have NB1 := Lib.hid (show ∀ k, CoF xp B1 a k → k ≠ w.heap.size from fun k hk e => by
      subst e
      rcases h1.2.2 _ hk with e | e
      · have := hlt0.out _ e; omega
      · simp at e; omega)
    have HA1 := Lib.hid (((Keep.refl (fun _ => False) w1).alloc (.cells #[.int .i64 0, .int .i64 0] 40 (0, 0)) |>.block w.heap.size (by omega) (fun h => h)).trans HB1.out)
    obtain ⟨ra0, ra1, raf⟩ := cells2 HA1.out
    clear hto h1
    go_wp2
    refine bodyPost_ret (results_idb Tryz.results47 _ _ w.heap.size _ _ (by rfl) (heap_twoJ HA1.out _ _) _ (by rfl)) rfl ⟨rfl, ((H1.out.same ((Keep.refl _ w1).alloc _)).besides (keep2 _ w.heap.size _ _) (fun k hk => NB1.out k hk) (fun k e => by have : k = w.heap.size := e; omega)).to⟩
/-- Where an entity stands. -/
structure Stands (a : Co) (i : Nat) : Prop where
  sp : i < a.spots.length
  nd : (spAt a i).node < a.tabs.length
  rw_ : (spAt a i).row < (tbAt a (spAt a i).node).ids.length
  ix : ∀ x ∈ (tbAt a (spAt a i).node).ids, 0 ≤ x.ix ∧ x.ix.toNat < a.spots.length
/-- An entity goes. -/
def despawnC (a : Co) (x : IdZ) : Co × Int := if aliveI a.na x = true then (naC (leaveC a x.ix.toNat) (giveI a.na x).1, 0) else (a, 5)
set_option maxHeartbeats 4000000 in
theorem e_despawn (h : CoM w c xp B q a) (hT : Tab w) (hG : ¬ CoF xp B a 0) (x : IdZ) (hst : aliveI a.na x = true → Stands a x.ix.toNat) :
    Calls Tryz.prog 56 #[.pointer (some ⟨xp, 0, none⟩), .agg #[.int .i64 x.ix, .int .i64 x.gen]] w fun e w' => e = .returned (.int .i64 (despawnC a x).2) ∧ CoTo w c xp (CoF xp B a) q (despawnC a x).1 w' := by
  have AL := Lib.hid (fun X (hk : Keep (fun _ => False) w X) => e_alive (h.same hk) x)
  have K0 := Lib.hid ((Keep.refl (fun _ => False) w).alloc (.cells #[.int .i64 x.ix, .int .i64 x.gen] 40 (0, 0)))
  have HB := Lib.hid (heap_alloc_new w (.cells #[.int .i64 x.ix, .int .i64 x.gen] 40 (0, 0)))
  have H := Lib.hid h
  have HT := Lib.hid hT
  have HG := Lib.hid hG
  have hlt0 := Lib.hid (fun k (hk : CoF xp B a k) => h.lt k hk)
  by_cases ha : aliveI a.na x = true
  · have ED : despawnC a x = (naC (leaveC a x.ix.toNat) (giveI a.na x).1, 0) := by unfold despawnC; rw [if_pos ha]
    have EG : (giveI a.na x).2 = 0 := by unfold giveI; rw [if_pos ha]
    have EGI := Lib.hid EG
    obtain ⟨i, rfl, -, -⟩ := aliveI_true ha
    have ST := Lib.hid (hst ha)
    rw [ha] at AL
    rw [ED]
    dsimp only [Int.toNat_natCast] at *
    clear h hT hG hst ha ED EG
    generalize (a.na.sl.getD i (0, false)).1 = g at *
    go_enter Tryz.func56, Tryz.ntmps56
    go_wp2_with fail
    with_reducible refine (AL.out _ (by exact (by repeat first | (with_reducible assumption) | (with_reducible exact Keep.refl _ _) | (with_reducible refine Keep.alloc ?_ _) | (with_reducible refine Keep.drew ?_) | (with_reducible refine Keep.drewN ?_ _) | (with_reducible refine Keep.setCell ?_ (.inl (by first | omega | (simp; done) | (simp; omega) | fail)) _)))).mono ?_
    rintro e w1 ⟨rfl, hk1⟩
    have K1 := Lib.hid (show Keep (fun _ => False) w w1 ∧ w1.heap[w.heap.size]? = some (.cells #[.int .i64 (i : Int), .int .i64 (g : Int)] 40 (0, 0)) from ⟨K0.out.trans hk1 (fun _ _ h => h), (hk1.block w.heap.size (by simp) (fun h => h)).trans HB.out⟩)
    clear hk1
    obtain ⟨b0, b1, bf⟩ := cells2 K1.out.2
    have LV := Lib.hid (fun X (hk : Keep (fun _ => False) w1 X) => e_leave (H.out.same (K1.out.1.trans hk (fun _ _ h => h))) (HT.out.same (K1.out.1.trans hk (fun _ _ h => h))) HG.out i g ST.out.sp ST.out.nd ST.out.rw_ ST.out.ix)
    go_wp2_with fail
    with_reducible refine (LV.out _ (by exact (by repeat first | (with_reducible assumption) | (with_reducible exact Keep.refl _ _) | (with_reducible refine Keep.alloc ?_ _) | (with_reducible refine Keep.drew ?_) | (with_reducible refine Keep.drewN ?_ _) | (with_reducible refine Keep.setCell ?_ (.inl (by first | omega | (simp; done) | (simp; omega) | fail)) _)))).mono ?_
    rintro e w2 ⟨A, n, cc, lo, hi, B2, rfl, -, -, -, -, -, h2, -, -⟩
    have z1 : w.heap.size < w1.heap.size := (Array.getElem?_eq_some_iff.1 K1.out.2).1
    have HB2 := Lib.hid ((h2.2.1.block w.heap.size z1 (fun e => by have := hlt0.out _ e; omega)).trans K1.out.2)
    have H2 := Lib.hid (CoAt.from_ K1.out.1 h2)
    have hL : (leaveC a i).na = a.na := rfl
    have c5 : w2.cell? ⟨xp, 5, none⟩ = some (.pointer (some ⟨B2.ip, 0, none⟩)) := (cells_of_row' h2.1.box).1 5 _ rfl
    have GV := Lib.hid (fun X (hk : Keep (fun _ => False) w2 X) => id_give (h2.1.names.same hk) ⟨(i : Int), (g : Int)⟩)
    rw [hL, EGI.out] at GV
    obtain ⟨b0, b1, bf⟩ := cells2 HB2.out
    have NT := Lib.hid (fun X Y (hk : Keep (fun _ => False) w2 X) (ht : IdTo X B2.ip (IdF B2.ip B2.vs B2.vf) (giveI a.na ⟨(i : Int), (g : Int)⟩).1 Y) => show CoTo w c xp (CoF xp B a) q (naC (leaveC a i) (giveI a.na ⟨(i : Int), (g : Int)⟩).1) Y from CoTo.then_ (H2.out.same hk) (CoM.namesTo (h2.1.same hk) ht))
    clear h2
    go_upto_region 6 with fail
    have SX := Lib.hid (show ∀ W', Keep (fun _ => False) w2 W' → ((W'.cell? ⟨xp, 5, none⟩ = some (.pointer (some ⟨B2.ip, 0, none⟩)) ∧ W'.cell? ⟨w.heap.size, 0, none⟩ = some (.int .i64 (i : Int)) ∧ W'.cell? ⟨w.heap.size, 1, none⟩ = some (.int .i64 (g : Int))) ∧ Keep (fun _ => False) w2 W') from fun W' hk => ⟨⟨hk.cell (fun h => h) c5, hk.cell (fun h => h) b0, hk.cell (fun h => h) b1⟩, hk⟩)
    go_region_law (first
      | (go_simp; go_at_call 107; (with_reducible refine (GV.out _ (by exact (by repeat first | (with_reducible assumption) | (with_reducible exact Keep.refl _ _) | (with_reducible refine Keep.alloc ?_ _) | (with_reducible refine Keep.drew ?_) | (with_reducible refine Keep.drewN ?_ _) | (with_reducible refine Keep.setCell ?_ (.inl (by first | omega | (simp; done) | (simp; omega) | fail)) _)))).mono ?_); rintro e w4 ⟨rfl, ht4⟩; have NT4 := Lib.hid (NT.out _ w4 (by exact (by repeat first | (with_reducible assumption) | (with_reducible exact Keep.refl _ _) | (with_reducible refine Keep.alloc ?_ _) | (with_reducible refine Keep.drew ?_) | (with_reducible refine Keep.drewN ?_ _) | (with_reducible refine Keep.setCell ?_ (.inl (by first | omega | (simp; done) | (simp; omega) | fail)) _))) ht4); clear ht4)
      | fail)
    all_goals
      go_wp2
      go_ret
      exact ⟨by simp, NT4.out.same (by exact (by repeat first | (with_reducible assumption) | (with_reducible exact Keep.refl _ _) | (with_reducible refine Keep.alloc ?_ _) | (with_reducible refine Keep.drew ?_) | (with_reducible refine Keep.drewN ?_ _) | (with_reducible refine Keep.setCell ?_ (.inl (by first | omega | (simp; done) | (simp; omega) | fail)) _)))⟩
  · have ED : despawnC a x = (a, 5) := by unfold despawnC; rw [if_neg ha]
    rw [ED]
    have hf : aliveI a.na x = false := by simpa using ha
    rw [hf] at AL
    obtain ⟨ix, gen⟩ := x
    dsimp only at *
    clear h hT hG hst ha ED hf
    go_enter Tryz.func56, Tryz.ntmps56
    go_wp2_with fail
    with_reducible refine (AL.out _ (by exact (by repeat first | (with_reducible assumption) | (with_reducible exact Keep.refl _ _) | (with_reducible refine Keep.alloc ?_ _) | (with_reducible refine Keep.drew ?_) | (with_reducible refine Keep.drewN ?_ _) | (with_reducible refine Keep.setCell ?_ (.inl (by first | omega | (simp; done) | (simp; omega) | fail)) _)))).mono ?_
    rintro e w1 ⟨rfl, hk1⟩
    have K1 := Lib.hid (K0.out.trans hk1 (fun _ _ h => h))
    clear hk1
    go_wp2
    go_ret
    exact ⟨rfl, (CoTo.same H.out.to K1.out)⟩
/-- An entity and a component: its size, whether it has it, the error. -/
def namedC (l : List Cp) (a : Co) (x : IdZ) (k : Int) : Int × Bool × Int :=
  if aliveI a.na x = true then (if 0 ≤ k ∧ k < l.length then (szAt l k.toNat, hasB (sgAt a (spAt a x.ix.toNat).node) k, 0) else (0, false, 6)) else (0, false, 5)
set_option maxHeartbeats 4000000 in
theorem e_named (h : CoM w c xp B q a) (x : IdZ) (k : Int) (hk : -9223372036854775808 ≤ k ∧ k ≤ 9223372036854775807) (hst : aliveI a.na x = true → Stands a x.ix.toNat) :
    Calls Tryz.prog 97 #[.pointer (some ⟨xp, 0, none⟩), .agg #[.int .i64 x.ix, .int .i64 x.gen], .int .i64 k] w fun e w' => e = .returned (.tuple #[.int .i64 (namedC c.l a x k).1, .bool (namedC c.l a x k).2.1, .int .i64 (namedC c.l a x k).2.2]) ∧ Keep (fun _ => False) w w' := by
  have AL := Lib.hid (fun X (hk : Keep (fun _ => False) w X) => e_alive (h.same hk) x)
  have K0 := Lib.hid ((Keep.refl (fun _ => False) w).alloc (.cells #[.int .i64 x.ix, .int .i64 x.gen] 40 (0, 0)))
  have HB := Lib.hid (heap_alloc_new w (.cells #[.int .i64 x.ix, .int .i64 x.gen] 40 (0, 0)))
  have H := Lib.hid h
  by_cases ha : aliveI a.na x = true
  · have SZ := Lib.hid (fun X (hk2 : Keep (fun _ => False) w X) => csize_any c B.uC B.CF k X (h.comps.same hk2) hk.1 hk.2)
    obtain ⟨tt, tf⟩ := cells_of_row' h.box
    obtain ⟨Au, cu, hu, -⟩ := h.comps
    have c0 : w.cell? ⟨xp, 0, none⟩ = some (.int .i64 c.log) := tt 0 _ rfl
    have c1 : w.cell? ⟨xp, 1, none⟩ = some (.int .i64 c.pages) := tt 1 _ rfl
    have c2 : w.cell? ⟨xp, 2, none⟩ = some (.int .i64 c.ents) := tt 2 _ rfl
    have c3 : w.cell? ⟨xp, 3, none⟩ = some (.int .i64 c.gens) := tt 3 _ rfl
    have c4 : w.cell? ⟨xp, 4, none⟩ = some B.uC := tt 4 _ rfl
    rw [hu] at c4 SZ
    unfold confV at SZ
    obtain ⟨i, rfl, -, -⟩ := aliveI_true ha
    have ST := hst ha
    rw [ha] at AL
    dsimp only [Int.toNat_natCast] at *
    have EN : namedC c.l a ⟨(i : Int), (a.na.sl.getD i (0, false)).1⟩ k = if 0 ≤ k ∧ k < c.l.length then (szAt c.l k.toNat, hasB (sgAt a (spAt a i).node) k, 0) else (0, false, 6) := by unfold namedC; rw [if_pos ha]; rfl
    rw [EN]
    obtain ⟨gT, cT, hcT1, hcT2, VT⟩ := h.viewT ST.nd
    obtain ⟨gS, cS, -, -, gSx, hgS, hcS1, hcS2, VS⟩ := h.viewS (by have := ST.sp; omega)
    have TD := Lib.hid (h.tab _ _ (getD_at tz0 ST.nd)).1
    have SG := Lib.hid (fun X (hk2 : Keep (fun _ => False) w X) => tb_sig (TD.out.same hk2))
    have HS := Lib.hid (fun X => bitsHas_any (sgAt a (spAt a i).node) k TD.out.lt64 X)
    have hsp := ST.sp
    have hnd := ST.nd
    have CX := Lib.hid (show ∀ W', Keep (fun _ => False) w W' → W'.cell? ⟨xp, 0, none⟩ = some (.int .i64 c.log) ∧ W'.cell? ⟨xp, 1, none⟩ = some (.int .i64 c.pages) ∧ W'.cell? ⟨xp, 2, none⟩ = some (.int .i64 c.ents) ∧ W'.cell? ⟨xp, 3, none⟩ = some (.int .i64 c.gens) ∧ W'.cell? ⟨xp, 4, none⟩ = some (.slice Au c.l.length cu) from fun W' hk => ⟨hk.cell (fun h => h) c0, hk.cell (fun h => h) c1, hk.cell (fun h => h) c2, hk.cell (fun h => h) c3, hk.cell (fun h => h) c4⟩)
    have SX := Lib.hid (show ∀ W', Keep (fun _ => False) w W' → W'.cell? ⟨xp, 7, none⟩ = some (.slice (some ⟨gT, 0, none⟩) a.tabs.length cT) ∧ W'.cell? ⟨xp, 8, none⟩ = some (.slice (some ⟨gS, 0, none⟩) a.spots.length cS) ∧ W'.cell? ⟨gS, i * 3, none⟩ = some (.int .i64 ((spAt a i).node : Int)) ∧ W'.cell? ⟨gT, (spAt a i).node, none⟩ = some (.pointer (some ⟨B.tp (spAt a i).node, 0, none⟩)) from fun W' hk => ⟨(VT W' hk).1, (VS W' hk).1, ((VS W' hk).2.1 i hsp).1, (VT W' hk).2⟩)
    change Hid (∀ X, Keep (fun _ => False) w X → Calls Tryz.prog _ _ X fun e w' => e = .returned (.int .u64 ((sgAt a (spAt a i).node : Nat) : Int)) ∧ X = w') at SG
    clear h hst ha EN ST VT VS tt tf hu c0 c1 c2 c3 c4 TD
    generalize (a.na.sl.getD i (0, false)).1 = g at *
    generalize (spAt a i).node = j at *
    generalize sgAt a j = sg at *
    generalize a.spots.length = ns at *
    generalize a.tabs.length = nt at *
    have i0 : (i : Int) < (ns : Int) := by omega
    have j0 : (j : Int) < (nt : Int) := by omega
    obtain ⟨rz, hrz⟩ : ∃ rz, (if 0 ≤ k ∧ k < (c.l.length : Int) then szAt c.l k.toNat else 0) = rz := ⟨_, rfl⟩
    obtain ⟨rb, hrb⟩ : ∃ rb, decide (0 ≤ k ∧ k < (c.l.length : Int)) = rb := ⟨_, rfl⟩
    have ER : (if 0 ≤ k ∧ k < (c.l.length : Int) then (szAt c.l k.toNat, hasB sg k, (0 : Int)) else (0, false, 6)) = if rb = true then (rz, hasB sg k, 0) else (0, false, 6) := by
      rw [← hrb, ← hrz]
      by_cases hr : 0 ≤ k ∧ k < (c.l.length : Int)
      · rw [if_pos hr, if_pos hr, decide_eq_true hr]; rfl
      · rw [if_neg hr, if_neg hr, decide_eq_false hr]; rfl
    rw [ER]
    rw [hrz, hrb] at SZ
    clear ER hrz hrb
    obtain ⟨sh, hsh⟩ : ∃ sh, (if rb = true then (rz, hasB sg k, (0 : Int)) else (0, false, 6)) = sh := ⟨_, rfl⟩
    rw [hsh]
    have HSH := Lib.hid hsh
    clear hsh
    go_enter Tryz.func97, Tryz.ntmps97
    go_wp2_with fail
    with_reducible refine (AL.out _ (by exact (by repeat first | (with_reducible assumption) | (with_reducible exact Keep.refl _ _) | (with_reducible refine Keep.alloc ?_ _) | (with_reducible refine Keep.drew ?_) | (with_reducible refine Keep.drewN ?_ _) | (with_reducible refine Keep.setCell ?_ (.inl (by first | omega | (simp; done) | (simp; omega) | fail)) _)))).mono ?_
    rintro e w1 ⟨rfl, hk1⟩
    have K1 := Lib.hid (show Keep (fun _ => False) w w1 ∧ w1.heap[w.heap.size]? = some (.cells #[.int .i64 (i : Int), .int .i64 (g : Int)] 40 (0, 0)) from ⟨K0.out.trans hk1 (fun _ _ h => h), (hk1.block w.heap.size (by simp) (fun h => h)).trans HB.out⟩)
    clear hk1
    obtain ⟨c0, c1, c2, c3, c4⟩ := CX.out w1 K1.out.1
    go_wp2_with fail
    with_reducible refine (SZ.out _ (by exact K1.out.1.trans (T := fun _ => False) (by exact (by repeat first | (with_reducible assumption) | (with_reducible exact Keep.refl _ _) | (with_reducible refine Keep.alloc ?_ _) | (with_reducible refine Keep.drew ?_) | (with_reducible refine Keep.drewN ?_ _) | (with_reducible refine Keep.setCell ?_ (.inl (by first | omega | (simp; done) | (simp; omega) | fail)) _))) (fun _ _ h => h))).mono ?_
    rintro e w2 ⟨rfl, hb2⟩
    have K2 := Lib.hid (show Keep (fun _ => False) w w2 ∧ w2.heap[w.heap.size]? = some (.cells #[.int .i64 (i : Int), .int .i64 (g : Int)] 40 (0, 0)) from by
      have k12 : Keep (fun _ => False) w1 w2 := Keep.trans (T := fun _ => False) (by exact (by repeat first | (with_reducible assumption) | (with_reducible exact Keep.refl _ _) | (with_reducible refine Keep.alloc ?_ _) | (with_reducible refine Keep.drew ?_) | (with_reducible refine Keep.drewN ?_ _) | (with_reducible refine Keep.setCell ?_ (.inl (by first | omega | (simp; done) | (simp; omega) | fail)) _))) (Keep.of_below' hb2) (fun _ _ h => h)
      exact ⟨K1.out.1.trans k12 (fun _ _ h => h), (k12.block w.heap.size (Array.getElem?_eq_some_iff.1 K1.out.2).1 (fun h => h)).trans K1.out.2⟩)
    clear hb2 SZ AL
    cases rb with
    | true =>
      obtain ⟨b0, b1, bf⟩ := cells2 K2.out.2
      have SY := Lib.hid (show ∀ W', Keep (fun _ => False) w2 W' → ((W'.cell? ⟨xp, 7, none⟩ = some (.slice (some ⟨gT, 0, none⟩) nt cT) ∧ W'.cell? ⟨xp, 8, none⟩ = some (.slice (some ⟨gS, 0, none⟩) ns cS) ∧ W'.cell? ⟨gS, i * 3, none⟩ = some (.int .i64 (j : Int)) ∧ W'.cell? ⟨gT, j, none⟩ = some (.pointer (some ⟨B.tp j, 0, none⟩)) ∧ W'.cell? ⟨w.heap.size, 0, none⟩ = some (.int .i64 (i : Int))) ∧ Keep (fun _ => False) w2 W') from fun W' hk => ⟨by
        obtain ⟨a1, a2, a3, a4⟩ := SX.out W' (K2.out.1.trans hk (fun _ _ h => h))
        exact ⟨a1, a2, a3, a4, hk.cell (fun h => h) b0⟩, hk⟩)
      clear b0 b1 c0 c1 c2 c3 c4
      go_upto_region 8 with fail
      go_region_held3 (fun W' => (W'.cell? ⟨xp, 7, none⟩ = some (.slice (some ⟨gT, 0, none⟩) nt cT) ∧ W'.cell? ⟨xp, 8, none⟩ = some (.slice (some ⟨gS, 0, none⟩) ns cS) ∧ W'.cell? ⟨gS, i * 3, none⟩ = some (.int .i64 (j : Int)) ∧ W'.cell? ⟨gT, j, none⟩ = some (.pointer (some ⟨B.tp j, 0, none⟩)) ∧ W'.cell? ⟨w.heap.size, 0, none⟩ = some (.int .i64 (i : Int))) ∧ Keep (fun _ => False) w2 W') (exact SY.out _ (by exact (by repeat first | (with_reducible assumption) | (with_reducible exact Keep.refl _ _) | (with_reducible refine Keep.alloc ?_ _) | (with_reducible refine Keep.drew ?_) | (with_reducible refine Keep.drewN ?_ _) | (with_reducible refine Keep.setCell ?_ (.inl (by first | omega | (simp; done) | (simp; omega) | fail)) _)))) (first
        | (go_at_call 77; (with_reducible refine (SG.out _ (by exact K2.out.1.trans (T := fun _ => False) (by exact (by repeat first | (with_reducible assumption) | (with_reducible exact Keep.refl _ _) | (with_reducible refine Keep.alloc ?_ _) | (with_reducible refine Keep.drew ?_) | (with_reducible refine Keep.drewN ?_ _) | (with_reducible refine Keep.setCell ?_ (.inl (by first | omega | (simp; done) | (simp; omega) | fail)) _))) (fun _ _ h => h))).mono ?_); rintro e w4 ⟨rfl, rfl⟩)
        | (go_at_call 139; (with_reducible refine (HS.out _).mono ?_); rintro e w5 ⟨rfl, rfl⟩)
        | fail)
      go_wp2
      go_ret3
      exact ⟨by rw [← HSH.out]; simp, K2.out.1.trans (T := fun _ => False) (by exact (by repeat first | (with_reducible assumption) | (with_reducible exact Keep.refl _ _) | (with_reducible refine Keep.alloc ?_ _) | (with_reducible refine Keep.drew ?_) | (with_reducible refine Keep.drewN ?_ _) | (with_reducible refine Keep.setCell ?_ (.inl (by first | omega | (simp; done) | (simp; omega) | fail)) _))) (fun _ _ h => h)⟩
    | false =>
      go_wp2
      go_ret3
      exact ⟨by rw [← HSH.out]; simp, K2.out.1.trans (T := fun _ => False) (by exact (by repeat first | (with_reducible assumption) | (with_reducible exact Keep.refl _ _) | (with_reducible refine Keep.alloc ?_ _) | (with_reducible refine Keep.drew ?_) | (with_reducible refine Keep.drewN ?_ _) | (with_reducible refine Keep.setCell ?_ (.inl (by first | omega | (simp; done) | (simp; omega) | fail)) _))) (fun _ _ h => h)⟩
  · have ED : namedC c.l a x k = (0, false, 5) := by unfold namedC; rw [if_neg ha]
    rw [ED]
    have hf : aliveI a.na x = false := by simpa using ha
    rw [hf] at AL
    obtain ⟨ix, gen⟩ := x
    dsimp only at *
    clear h hst ha ED hf
    go_enter Tryz.func97, Tryz.ntmps97
    go_wp2_with fail
    with_reducible refine (AL.out _ (by exact (by repeat first | (with_reducible assumption) | (with_reducible exact Keep.refl _ _) | (with_reducible refine Keep.alloc ?_ _) | (with_reducible refine Keep.drew ?_) | (with_reducible refine Keep.drewN ?_ _) | (with_reducible refine Keep.setCell ?_ (.inl (by first | omega | (simp; done) | (simp; omega) | fail)) _)))).mono ?_
    rintro e w1 ⟨rfl, hk1⟩
    have K1 := Lib.hid (K0.out.trans hk1 (fun _ _ h => h))
    clear hk1
    go_wp2
    go_ret3
    exact ⟨rfl, K1.out⟩
end
end Go.Proofs.YtglliendhbkkhaaGreatDoor
namespace Go.Proofs.YtglliendhbkkhaaGreatDoor
open Go.RowKit
set_option maxRecDepth 100000
set_option linter.unusedVariables false
set_option linter.unusedSimpArgs false

theorem Own.formO {w : World} {base n size : Nat} {e : TypeId} {v : Value} {xs : List Value} (h : Own w base e size v n xs) : ∃ A c, v = .slice A n c ∧ Rd w (fun k => Go.Proofs.YtglliendhbkkhaaGreatDoor.ownB v = some k) A (n * size) xs := by
  obtain ⟨hl, A, c, rfl, hnc, hc, hg⟩ := h
  refine ⟨A, c, rfl, hl, fun hm => ?_⟩
  have hn : 0 < n := Nat.pos_of_mul_pos_right hm
  obtain ⟨g, cur, rfl, hb, hgg, hcs, ht⟩ := hg (by omega)
  obtain ⟨c', rfl⟩ : ∃ c', c = c' + 1 := ⟨c - 1, by omega⟩
  refine ⟨g, 0, rfl, rfl, fun i u hu => ?_⟩
  rw [Nat.zero_add, cell_of_row w g i cur e (0, 0) hgg]
  rw [← ht, List.getElem?_take] at hu
  split at hu
  · simpa using hu
  · cases hu
theorem NBX.nsO {α β : Type} {N : Nst α β} {w : World} {X : Nat → Prop} {u : Value} {R : List α} {B : Nat} {e : TypeId} (h : NBX N X B e w u R) : NS N w (fun b => X b ∨ ownB u = some b) u R := by
  obtain ⟨us, h1, h2, h3⟩ := h
  refine ⟨us, h1, ?_, fun i x v hx hv => N.mono (h3 i x v hx hv) (fun _ _ h => .inl h.1)⟩
  have h4 : Own w B e N.m u (R.zip us).length ((R.zip us).flatMap N.cells) := by rw [zipN_len h1]; exact h2
  obtain ⟨A, c, rfl, hr⟩ := h4.formO
  obtain ⟨A', c', e', l1, l2, l3, -⟩ := h4.sl
  injection e' with e1 e2 e3
  subst e1 e3
  exact ⟨A, c, rfl, l1, l2, hr.mono (fun b _ hb => .inr hb), l3⟩
section
variable {α β : Type} {P : Program} {ops : Array Oper} {rest : List Oper} {o : Oper} {a : Act} {w : World} {K : Act → World → Prop} {Q : Exit → Act → World → Prop} {E : Prop}
theorem wp_pushY (s x : Operand) (t : TypeId) (ho : o.op = .call { callee := .builtin .append, args := #[s, x], argTypes := #[t, t] })
    (N : Nst α β) (X : Nat → Prop) (B : Nat) (e : TypeId) (i : TypeInfo) (z : Value) (bytes : Nat) (ht : P.underlying t = some (.slice e)) (hi : P.info? e = some i) (hz : i.zero = some z) (hsize : i.size = N.m) (hby : i.bytes = bytes) (hzs : z.cells.size = N.m)
    (v : Value) (R : List α) (n : Nat) (hn : R.length = n) (hv : a.eval s = v) (hnb : NBX N X B e w v R) (g c : Nat) (y : α) (q : β) (hy : a.eval x = .slice (some ⟨g, 0, none⟩) 1 c) (hc : ∀ j u, (N.cells (y, q))[j]? = some u → w.cell? ⟨g, j, none⟩ = some u) (hx : N.inn w (fun b => X b ∧ ownB v ≠ some b) y q)
    (h63 : n + 1 ≤ maxLen) (hbytes : (n + 1) * bytes ≤ 140737488355328) (hB : B ≤ w.heap.size)
    (h : ∀ A c w', NBX N X B e w' (.slice A (n + 1) c) (R ++ [y]) → Keep (fun k => ownB v = some k) w w' → (∀ k, ownB (.slice A (n + 1) c) = some k → ownB v = some k ∨ w.heap.size ≤ k) → K (a.put o.dst (.slice A (n + 1) c)) w') : o.wp P a w K Q := by
  subst hn
  obtain ⟨us, h1, h2, h3⟩ := hnb
  have hsrc : Src P N.m t (.slice (some ⟨g, 0, none⟩) 1 c) 1 (N.cells (y, q)) w := Src.ofSlice _ ht _ 1 c _ (by rw [N.len, Nat.one_mul]) (fun j u hu => by
    have : (⟨g, 0, none⟩ : Addr).add j = ⟨g, j, none⟩ := by unfold Addr.add; split <;> simp_all
    rw [this]; exact hc j u hu) (N.one hx)
  refine wp_append_gen w s x t t ho B e i z N.m bytes ht hi hz hsize hby hzs v R.length _ hv h2 _ 1 _ hy hsrc h63 hbytes hB ?_
  intro v' w' ho' hk hn
  obtain ⟨A, c', rfl, _⟩ := ho'.form
  refine h A c' w' ?_ hk hn
  have hz : (R ++ [y]).zip (us ++ [q]) = R.zip us ++ [(y, q)] := by rw [List.zip_append h1.symm]; rfl
  have mv : ∀ (y : α) (q : β), N.inn w (fun b => X b ∧ ownB v ≠ some b) y q → N.inn w' (fun b => X b ∧ ownB (.slice A (R.length + 1) c') ≠ some b) y q := fun y q h =>
    N.mono (N.keep (N.mono (G := fun b => (X b ∧ ownB v ≠ some b) ∧ b < w.heap.size) h (fun b hb h => ⟨h, hb⟩)) hk (fun b _ h e => h.1.2 e)) (fun b _ h => ⟨h.1.1, fun e => by
      rcases hn b e with e | e
      · exact h.1.2 e
      · have := h.2; omega⟩)
  refine ⟨us ++ [q], by rw [List.length_append, List.length_append, h1]; rfl, ?_, fun i x p hx' hp => ?_⟩
  · rw [hz, List.flatMap_append, List.flatMap_cons, List.flatMap_nil, List.append_nil, List.length_append]
    exact ho'
  · rcases Nat.lt_or_ge i R.length with hi | hi
    · rw [List.getElem?_append_left hi] at hx'
      rw [List.getElem?_append_left (by omega)] at hp
      exact mv x p (h3 i x p hx' hp)
    · rw [List.getElem?_append_right hi] at hx'
      rw [List.getElem?_append_right (by omega), h1] at hp
      match hj : i - R.length, hx', hp with
      | 0, hx', hp =>
        obtain rfl : y = x := by simpa using hx'
        obtain rfl : q = p := by simpa using hp
        exact mv _ _ hx
theorem step_pushY (hgd : Region.wanted o (yielded ops a.tmps) = true) (s x : Operand) (t : TypeId) (ho : o.op = .call { callee := .builtin .append, args := #[s, x], argTypes := #[t, t] })
    (N : Nst α β) (X : Nat → Prop) (B : Nat) (e : TypeId) (i : TypeInfo) (z : Value) (bytes : Nat) (ht : P.underlying t = some (.slice e)) (hi : P.info? e = some i) (hz : i.zero = some z) (hsize : i.size = N.m) (hby : i.bytes = bytes) (hzs : z.cells.size = N.m)
    (v : Value) (R : List α) (n : Nat) (hn : R.length = n) (hv : a.eval s = v) (hnb : NBX N X B e w v R) (g c : Nat) (y : α) (q : β) (hy : a.eval x = .slice (some ⟨g, 0, none⟩) 1 c) (hc : ∀ j u, (N.cells (y, q))[j]? = some u → w.cell? ⟨g, j, none⟩ = some u) (hx : N.inn w (fun b => X b ∧ ownB v ≠ some b) y q)
    (h63 : n + 1 ≤ maxLen) (hbytes : (n + 1) * bytes ≤ 140737488355328) (hB : B ≤ w.heap.size)
    (h : ∀ A c w', NBX N X B e w' (.slice A (n + 1) c) (R ++ [y]) → Keep (fun k => ownB v = some k) w w' → (∀ k, ownB (.slice A (n + 1) c) = some k → ownB v = some k ∨ w.heap.size ≤ k) → K (a.put o.dst (.slice A (n + 1) c)) w') :
    if Region.wanted o (yielded ops a.tmps) = true then Oper.wp P o a w K Q else E := by
  rw [if_pos hgd]
  exact wp_pushY s x t ho N X B e i z bytes ht hi hz hsize hby hzs v R n hn hv hnb g c y q hy hc hx h63 hbytes hB h
end
theorem NBX.monoX {α β : Type} {N : Nst α β} {w : World} {X X' : Nat → Prop} {u : Value} {R : List α} {B : Nat} {e : TypeId} (h : NBX N X B e w u R) (hx : ∀ b, X b → X' b) : NBX N X' B e w u R := by
  obtain ⟨us, h1, h2, h3⟩ := h
  exact ⟨us, h1, h2, fun i x v e1 e2 => N.mono (h3 i x v e1 e2) (fun b _ h => ⟨hx b h.1, h.2⟩)⟩
theorem NBX.lenS {α β : Type} {N : Nst α β} {w : World} {X : Nat → Prop} {A : Option Addr} {n c : Nat} {R : List α} {B : Nat} {e : TypeId} (h : NBX N X B e w (.slice A n c) R) : R.length = n := by
  obtain ⟨_, _, e⟩ := h.form
  injection e with _ e2 _
  exact e2.symm
theorem litP (W : World) (k : Int) (d : List UInt8) (q : Value) (e : TypeId) : ∀ j u, (parN.cells (⟨k, d⟩, q))[j]? = some u → (W.alloc (.cells #[.int .i64 k, q] e (0, 0))).cell? ⟨W.heap.size, j, none⟩ = some u := lit_cells W e [.int .i64 k, q]
theorem litPd (W : World) (k : Int) (d : List UInt8) (q : Value) (e : TypeId) : ∀ j u, (parN.cells (⟨k, d⟩, q))[j]? = some u → (W.alloc (.cells #[.int .i64 k, q] e (0, 0))).drew.cell? ⟨W.heap.size, j, none⟩ = some u := lit_cells W e [.int .i64 k, q]
theorem litPe (W : World) (k : Int) (d : List UInt8) (q : Value) (e : TypeId) : ∀ j u, (parN.cells (⟨k, d⟩, q))[j]? = some u → (W.drew.alloc (.cells #[.int .i64 k, q] e (0, 0))).cell? ⟨W.heap.size, j, none⟩ = some u := lit_cells W.drew e [.int .i64 k, q]
theorem CoM.gpCell {w : World} {c : Cf} {xp q : Nat} {B : CoB} {a : Co} (h : CoM w c xp B q a) : w.cell? ⟨xp, 6, none⟩ = some (.pointer (some ⟨B.gp, 0, none⟩)) := (cells_of_row' h.box).1 6 _ rfl
section
variable {w : World} {c : Cf} {xp q : Nat} {B : CoB} {a : Co}
/-- Set where an entity has the component. -/
theorem e_set_err (h : CoM w c xp B q a) (x : IdZ) (k : Int) (hk : -9223372036854775808 ≤ k ∧ k ≤ 9223372036854775807) (hst : aliveI a.na x = true → Stands a x.ix.toNat) (AD : Option Addr) (nD cD : Nat)
    (er : Int) (her : (if (namedC c.l a x k).2.2 ≠ 0 then (namedC c.l a x k).2.2 else if (nD : Int) ≠ (namedC c.l a x k).1 then 7 else 0) = er) (h0 : er ≠ 0) :
    Calls Tryz.prog 48 #[.pointer (some ⟨xp, 0, none⟩), .agg #[.int .i64 x.ix, .int .i64 x.gen], .int .i64 k, .slice AD nD cD] w fun e w' => e = .returned (.int .i64 er) ∧ Keep (fun _ => False) w w' := by
  have NM := Lib.hid (fun X (hk2 : Keep (fun _ => False) w X) => e_named (h.same hk2) x k hk hst)
  have K0 := Lib.hid ((Keep.refl (fun _ => False) w).alloc (.cells #[.int .i64 x.ix, .int .i64 x.gen] 40 (0, 0)))
  obtain ⟨⟨sz, hb, en⟩, hn⟩ : ∃ r, namedC c.l a x k = r := ⟨_, rfl⟩
  rw [hn] at NM her
  dsimp only at NM her
  obtain ⟨ix, gen⟩ := x
  dsimp only at *
  clear h hst hn
  by_cases h1 : en = 0
  · subst h1
    rw [if_neg (by decide)] at her
    have h2 : ((nD : Int) != sz) = true := by
      by_cases e : (nD : Int) = sz
      · rw [if_neg (by simpa using e)] at her; exact absurd her.symm h0
      · simpa using e
    have h3 : er = 7 := by
      rw [if_pos (by simpa using h2)] at her; exact her.symm
    subst h3
    clear her h0
    go_enter Tryz.func48, Tryz.ntmps48
    go_wp2_with fail
    with_reducible refine (NM.out _ (by exact (by repeat first | (with_reducible assumption) | (with_reducible exact Keep.refl _ _) | (with_reducible refine Keep.alloc ?_ _) | (with_reducible refine Keep.drew ?_) | (with_reducible refine Keep.drewN ?_ _) | (with_reducible refine Keep.setCell ?_ (.inl (by first | omega | (simp; done) | (simp; omega) | fail)) _)))).mono ?_
    rintro e w1 ⟨rfl, hk1⟩
    have K1 := Lib.hid (K0.out.trans hk1 (fun _ _ h => h))
    clear hk1
    go_wp2
    go_ret
    exact ⟨rfl, K1.out⟩
  · rw [if_pos h1] at her
    subst her
    have h2 : (en != 0) = true := by simpa using h1
    clear h0 h1
    go_enter Tryz.func48, Tryz.ntmps48
    go_wp2_with fail
    with_reducible refine (NM.out _ (by exact (by repeat first | (with_reducible assumption) | (with_reducible exact Keep.refl _ _) | (with_reducible refine Keep.alloc ?_ _) | (with_reducible refine Keep.drew ?_) | (with_reducible refine Keep.drewN ?_ _) | (with_reducible refine Keep.setCell ?_ (.inl (by first | omega | (simp; done) | (simp; omega) | fail)) _)))).mono ?_
    rintro e w1 ⟨rfl, hk1⟩
    have K1 := Lib.hid (K0.out.trans hk1 (fun _ _ h => h))
    clear hk1
    go_wp2
    go_ret
    exact ⟨rfl, K1.out⟩
set_option maxHeartbeats 4000000 in
theorem e_set_has (h : CoM w c xp B q a) (i g : Nat) (k : Int) (hk : -9223372036854775808 ≤ k ∧ k ≤ 9223372036854775807) (ST : Stands a i) (d : List UInt8) (AD : Option Addr) (nD cD : Nat) (F : Nat → Prop) (hd : By w F (.slice AD nD cD) d)
    (hnm : namedC c.l a ⟨(i : Int), (g : Int)⟩ k = ((nD : Int), true, 0)) :
    Calls Tryz.prog 48 #[.pointer (some ⟨xp, 0, none⟩), .agg #[.int .i64 (i : Int), .int .i64 (g : Int)], .int .i64 k, .slice AD nD cD] w fun e w' => e = .returned (.int .i64 (setC (tbAt a (spAt a i).node).ids.length (sgAt a (spAt a i).node) (szOf c.l) ((spAt a i).row : Int) k d)) ∧ CoTo w c xp (CoF xp B a) q ⟨a.na, a.sigs, a.tabs.set (spAt a i).node ⟨(tbAt a (spAt a i).node).ids, setK (tbAt a (spAt a i).node).ids.length (sgAt a (spAt a i).node) (szOf c.l) (tbAt a (spAt a i).node).col ((spAt a i).row : Int) k d⟩, a.spots⟩ w' := by
  have NM := Lib.hid (fun X (hk2 : Keep (fun _ => False) w X) => e_named (h.same hk2) ⟨(i : Int), (g : Int)⟩ k hk (fun _ => ST))
  rw [hnm] at NM
  dsimp only at NM
  have K0 := Lib.hid ((Keep.refl (fun _ => False) w).alloc (.cells #[.int .i64 (i : Int), .int .i64 (g : Int)] 40 (0, 0)))
  have HB := Lib.hid (heap_alloc_new w (.cells #[.int .i64 (i : Int), .int .i64 (g : Int)] 40 (0, 0)))
  have H := Lib.hid h
  have TD := Lib.hid (h.tab _ _ (getD_at tz0 ST.nd))
  have TS := Lib.hid (fun X (hk2 : Keep (fun _ => False) w X) => tb_set (TD.out.1.same hk2) TD.out.2 ((spAt a i).row : Int) k hk d (.slice AD nD cD) F (hd.keep hk2 (fun _ _ _ h => h)))
  have TT := Lib.hid (fun X Y (hk2 : Keep (fun _ => False) w X) (ht : TbTo X (TF (B.tp (spAt a i).node) (B.mb (spAt a i).node) (B.tv (spAt a i).node) (B.FC (spAt a i).node) (a.sigs.getD (spAt a i).node 0)) (B.tp (spAt a i).node) (a.sigs.getD (spAt a i).node 0) (szOf c.l) (tbAt a (spAt a i).node).ids (setK (tbAt a (spAt a i).node).ids.length (sgAt a (spAt a i).node) (szOf c.l) (tbAt a (spAt a i).node).col ((spAt a i).row : Int) k d) Y) => CoTo.from_ hk2 (CoM.tabTo (h.same hk2) (j := (spAt a i).node) ST.nd ht (setK_lens TD.out.2 _ _ _)))
  obtain ⟨gT, cT, hcT1, hcT2, VT⟩ := h.viewT ST.nd
  obtain ⟨gS, cS, -, -, gSx, hgS, hcS1, hcS2, VS⟩ := h.viewS (by have := ST.sp; omega)
  have hsp := ST.sp
  have hnd := ST.nd
  have SX := Lib.hid (show ∀ W', Keep (fun _ => False) w W' → W'.cell? ⟨xp, 7, none⟩ = some (.slice (some ⟨gT, 0, none⟩) a.tabs.length cT) ∧ W'.cell? ⟨xp, 8, none⟩ = some (.slice (some ⟨gS, 0, none⟩) a.spots.length cS) ∧ W'.cell? ⟨gS, i * 3, none⟩ = some (.int .i64 ((spAt a i).node : Int)) ∧ W'.cell? ⟨gS, i * 3 + 1, none⟩ = some (.int .i64 ((spAt a i).row : Int)) ∧ W'.cell? ⟨gS, i * 3 + 2, none⟩ = some (.bool (spAt a i).there) ∧ W'.cell? ⟨gT, (spAt a i).node, none⟩ = some (.pointer (some ⟨B.tp (spAt a i).node, 0, none⟩)) from fun W' hk => ⟨(VT W' hk).1, (VS W' hk).1, ((VS W' hk).2.1 i hsp).1, ((VS W' hk).2.1 i hsp).2.1, ((VS W' hk).2.1 i hsp).2.2, (VT W' hk).2⟩)
  clear h hnm ST VT VS TD hd
  change Hid (∀ X, Keep (fun _ => False) w X → Calls Tryz.prog _ _ X fun e w' => e = .returned (.int .i64 (setC (tbAt a (spAt a i).node).ids.length (sgAt a (spAt a i).node) (szOf c.l) ((spAt a i).row : Int) k d)) ∧ _) at TS
  generalize setC (tbAt a (spAt a i).node).ids.length (sgAt a (spAt a i).node) (szOf c.l) ((spAt a i).row : Int) k d = er at *
  generalize (spAt a i).node = j at *
  generalize (spAt a i).row = r at *
  generalize (spAt a i).there = th at *
  generalize a.spots.length = ns at *
  generalize a.tabs.length = nt at *
  have i0 : (i : Int) < (ns : Int) := by omega
  have j0 : (j : Int) < (nt : Int) := by omega
  go_enter Tryz.func48, Tryz.ntmps48
  go_wp2_with fail
  with_reducible refine (NM.out _ (by exact (by repeat first | (with_reducible assumption) | (with_reducible exact Keep.refl _ _) | (with_reducible refine Keep.alloc ?_ _) | (with_reducible refine Keep.drew ?_) | (with_reducible refine Keep.drewN ?_ _) | (with_reducible refine Keep.setCell ?_ (.inl (by first | omega | (simp; done) | (simp; omega) | fail)) _)))).mono ?_
  rintro e w1 ⟨rfl, hk1⟩
  have K1 := Lib.hid (show Keep (fun _ => False) w w1 ∧ w1.heap[w.heap.size]? = some (.cells #[.int .i64 (i : Int), .int .i64 (g : Int)] 40 (0, 0)) from ⟨K0.out.trans hk1 (fun _ _ h => h), (hk1.block w.heap.size (by simp) (fun h => h)).trans HB.out⟩)
  clear hk1
  have z1 : w.heap.size < w1.heap.size := (Array.getElem?_eq_some_iff.1 K1.out.2).1
  obtain ⟨b0, b1, bf⟩ := cells2 K1.out.2
  have SY := Lib.hid (show ∀ W', Keep (fun _ => False) w1 W' → ((W'.cell? ⟨xp, 8, none⟩ = some (.slice (some ⟨gS, 0, none⟩) ns cS) ∧ W'.cell? ⟨w.heap.size, 0, none⟩ = some (.int .i64 (i : Int)) ∧ W'.cell? ⟨gS, i * 3, none⟩ = some (.int .i64 (j : Int)) ∧ W'.cell? ⟨gS, i * 3 + 1, none⟩ = some (.int .i64 (r : Int)) ∧ W'.cell? ⟨gS, i * 3 + 2, none⟩ = some (.bool th)) ∧ Keep (fun _ => False) w1 W') from fun W' hk => ⟨by
    obtain ⟨a1, a2, a3, a4, a5, a6⟩ := SX.out W' (K1.out.1.trans hk (fun _ _ h => h))
    exact ⟨a2, hk.cell (fun h => h) b0, a3, a4, a5⟩, hk⟩)
  go_upto_region 6 with fail
  go_region_held3 (fun W' => (W'.cell? ⟨xp, 8, none⟩ = some (.slice (some ⟨gS, 0, none⟩) ns cS) ∧ W'.cell? ⟨w.heap.size, 0, none⟩ = some (.int .i64 (i : Int)) ∧ W'.cell? ⟨gS, i * 3, none⟩ = some (.int .i64 (j : Int)) ∧ W'.cell? ⟨gS, i * 3 + 1, none⟩ = some (.int .i64 (r : Int)) ∧ W'.cell? ⟨gS, i * 3 + 2, none⟩ = some (.bool th)) ∧ Keep (fun _ => False) w1 W') (exact SY.out _ (by exact (by repeat first | (with_reducible assumption) | (with_reducible exact Keep.refl _ _) | (with_reducible refine Keep.alloc ?_ _) | (with_reducible refine Keep.drew ?_) | (with_reducible refine Keep.drewN ?_ _) | (with_reducible refine Keep.setCell ?_ (.inl (by first | omega | (simp; done) | (simp; omega) | fail)) _)))) (fail)
  go_upto_region 8 with fail
  refine wp_world (S := fun X => Keep (fun _ => False) w1 X ∧ X.heap[w1.heap.size]? = some (.cells #[.int .i64 (j : Int), .int .i64 (r : Int), .bool th] 139 (0, 0))) ⟨by exact (by repeat first | (with_reducible assumption) | (with_reducible exact Keep.refl _ _) | (with_reducible refine Keep.alloc ?_ _) | (with_reducible refine Keep.drew ?_) | (with_reducible refine Keep.drewN ?_ _) | (with_reducible refine Keep.setCell ?_ (.inl (by first | omega | (simp; done) | (simp; omega) | fail)) _)), heap_alloc_at _ _ _ (by simp)⟩ ?_
  rintro X ⟨hk2, hs2⟩
  obtain ⟨s0, s1, s2, sf⟩ := cells3 hs2
  have KX := Lib.hid (K1.out.1.trans hk2 (fun _ _ h => h))
  have SZ := Lib.hid (show ∀ W', Keep (fun _ => False) X W' → ((W'.cell? ⟨xp, 7, none⟩ = some (.slice (some ⟨gT, 0, none⟩) nt cT) ∧ W'.cell? ⟨w1.heap.size, 0, none⟩ = some (.int .i64 (j : Int)) ∧ W'.cell? ⟨w1.heap.size, 1, none⟩ = some (.int .i64 (r : Int)) ∧ W'.cell? ⟨gT, j, none⟩ = some (.pointer (some ⟨B.tp j, 0, none⟩))) ∧ Keep (fun _ => False) X W') from fun W' hk => ⟨by
    obtain ⟨a1, a2, a3, a4, a5, a6⟩ := SX.out W' (KX.out.trans hk (fun _ _ h => h))
    exact ⟨a1, hk.cell (fun h => h) s0, hk.cell (fun h => h) s1, a6⟩, hk⟩)
  clear hk2 hs2
  obtain ⟨⟨a1, a2, a3, a4⟩, -⟩ := SZ.out X (Keep.refl _ _)
  go_region_law (first
    | (go_simp; go_at_call 98; (with_reducible refine (TS.out _ (by exact KX.out.trans (T := fun _ => False) (by exact (by repeat first | (with_reducible assumption) | (with_reducible exact Keep.refl _ _) | (with_reducible refine Keep.alloc ?_ _) | (with_reducible refine Keep.drew ?_) | (with_reducible refine Keep.drewN ?_ _) | (with_reducible refine Keep.setCell ?_ (.inl (by first | omega | (simp; done) | (simp; omega) | fail)) _))) (fun _ _ h => h))).mono ?_); rintro e w4 ⟨rfl, hto⟩; have FIN := Lib.hid (TT.out _ w4 (by exact KX.out.trans (T := fun _ => False) (by exact (by repeat first | (with_reducible assumption) | (with_reducible exact Keep.refl _ _) | (with_reducible refine Keep.alloc ?_ _) | (with_reducible refine Keep.drew ?_) | (with_reducible refine Keep.drewN ?_ _) | (with_reducible refine Keep.setCell ?_ (.inl (by first | omega | (simp; done) | (simp; omega) | fail)) _))) (fun _ _ h => h)) hto); clear hto)
    | fail)
  all_goals
    go_wp2
    go_ret
    exact ⟨by simp, FIN.out.same (by exact (by repeat first | (with_reducible assumption) | (with_reducible exact Keep.refl _ _) | (with_reducible refine Keep.alloc ?_ _) | (with_reducible refine Keep.drew ?_) | (with_reducible refine Keep.drewN ?_ _) | (with_reducible refine Keep.setCell ?_ (.inl (by first | omega | (simp; done) | (simp; omega) | fail)) _)))⟩
/-- A core whose graph has a set more. -/
def sgC (a : Co) (x : Nat) : Co := ⟨a.na, nodeS a.sigs x, a.tabs, a.spots⟩
theorem nodeS_getD {S : List Nat} {x j : Nat} (h : j < S.length) : (nodeS S x).getD j 0 = S.getD j 0 := by
  unfold nodeS
  split
  · rfl
  · rw [List.getD_eq_getElem?_getD, List.getElem?_append_left h, List.getD_eq_getElem?_getD]
/-- The graph has turned, the code's way. -/
theorem CoM.graphWith (h : CoM w c xp B q a) {x : Nat} {w' : World} (ht : GrTo w B.gp B.GF (q + 1) (nodeS a.sigs x) w') (hq : q + 1 ≤ 1000000) (hs : a.sigs.length + 1 ≤ 1000000) : ∃ B', CoAt w c xp (CoF xp B a) (q + 1) (sgC a x) w' B' ∧ B'.tp = B.tp ∧ B'.gp = B.gp :=
  h.graphTo_ ht (fun j hj => nodeS_getD (Nat.lt_of_lt_of_le hj h.few)) (nodeS_len _ _).1 hq (by have := (nodeS_len a.sigs x).2; omega)
theorem entP_len (a : Co) (i : Nat) : (entP a i).length ≤ 64 := by
  unfold entP rowT
  rw [List.length_map]
  exact bl_len _ 64
theorem nf_set {w X w5 : World} {B5 : CoB} {q : Nat} {a2 : Co} {F Foot : Nat → Prop} {lo hi : Nat} {v v' : Value} (h5 : CoAt X c xp Foot q a2 w5 B5) (hF : ∀ b, F b → ¬ Foot b) (hw : w.heap.size ≤ X.heap.size) (hlo : X.heap.size ≤ lo) (l6 : ∀ k, CoF xp B5 a2 k → k < lo ∨ hi ≤ k) (own : ∀ b, ownB v = some b → lo ≤ b ∧ b < hi) (fresh : ∀ b, ownB v' = some b → ownB v = some b ∨ w5.heap.size ≤ b) :
    ∀ b, ((lo ≤ b ∧ b < hi) ∨ (F b ∧ b < w.heap.size)) ∨ ownB v' = some b → ¬ CoF xp B5 a2 b := by
  rintro b ((hb | hb) | hb) e
  · have := l6 b e; omega
  · rcases h5.2.2 b e with h | h
    · exact hF b hb.1 h
    · omega
  · rcases fresh b hb with h | h
    · have := own b h; have := l6 b e; omega
    · have := h5.1.lt b e; omega
set_option maxHeartbeats 8000000 in
theorem e_set_new (h : CoM w c xp B q a) (hl : c.l.length ≤ 1000) (hT : Tab w) (hG : ¬ CoF xp B a 0) (i g : Nat) (hi4 : i < 1024) (k : Int) (hk : -9223372036854775808 ≤ k ∧ k ≤ 9223372036854775807) (ST : Stands a i) (d : List UInt8) (AD : Option Addr) (nD cD : Nat) (F : Nat → Prop) (hd : By w F (.slice AD nD cD) d)
    (hF : ∀ b, F b → ¬ CoF xp B a b) (hq : q + 1 ≤ 1000000) (hsl : a.sigs.length + 1 ≤ 1000000) (hnm : namedC c.l a ⟨(i : Int), (g : Int)⟩ k = ((nD : Int), false, 0)) (sg : Nat) (hsg : stepSig (sgAt a (spAt a i).node) k true = sg) (nd : Nat) (hnd : nodeI a.sigs sg = nd) (hn' : nd < (nodeS a.sigs sg).length)
    (hs : ∀ s ∈ nodeS a.sigs sg, s < 18446744073709551616 ∧ s &&& allOf c.l = s) (hadd : addC (tbAt (leaveC (sgC a sg) i) nd).ids.length (sgAt (leaveC (sgC a sg) i) nd) (szOf c.l) (entP (sgC a sg) i ++ [⟨k, d⟩]) = 0) :
    Calls Tryz.prog 48 #[.pointer (some ⟨xp, 0, none⟩), .agg #[.int .i64 (i : Int), .int .i64 (g : Int)], .int .i64 k, .slice AD nD cD] w fun e w' => e = .returned (.int .i64 0) ∧ CoTo w c xp (CoF xp B a) (q + 1) (enterC (szOf c.l) (leaveC (sgC a sg) i) i g nd (entP (sgC a sg) i ++ [⟨k, d⟩])) w' := by
  obtain ⟨ip, hip, hp0, hp1, hp2⟩ := info_parts info_part
  have NM := Lib.hid (fun X (hk2 : Keep (fun _ => False) w X) => e_named (h.same hk2) ⟨(i : Int), (g : Int)⟩ k hk (fun _ => ST))
  rw [hnm] at NM
  dsimp only at NM
  have K0 := Lib.hid ((Keep.refl (fun _ => False) w).alloc (.cells #[.int .i64 (i : Int), .int .i64 (g : Int)] 40 (0, 0)))
  have HB := Lib.hid (heap_alloc_new w (.cells #[.int .i64 (i : Int), .int .i64 (g : Int)] 40 (0, 0)))
  have H := Lib.hid h
  have HT := Lib.hid hT
  have HG := Lib.hid hG
  have hlt0 := Lib.hid (fun k (hk : CoF xp B a k) => h.lt k hk)
  have HD := Lib.hid (And.intro hd hF)
  have xp0 : xp < w.heap.size := (Array.getElem?_eq_some_iff.1 h.box).1
  -- the graph
  have GW := Lib.hid (show ∀ X, Keep (fun _ => False) w X → Calls Tryz.prog 99 #[.pointer (some ⟨B.gp, 0, none⟩), .int .i64 ((spAt a i).node : Int), .int .i64 k] X fun e w' => e = .returned (.int .i64 (nd : Int)) ∧ ∃ B', CoAt X c xp (CoF xp B a) (q + 1) (sgC a sg) w' B' ∧ w'.cell? ⟨xp, 6, none⟩ = some (.pointer (some ⟨B.gp, 0, none⟩)) from fun X hk2 => by
    have hlt : (spAt a i).node < a.sigs.length := Nat.lt_of_lt_of_le ST.nd h.few
    have hg := gis_with (GrIs.keep h.graph hk2 (fun _ _ h => h)) ((spAt a i).node : Int) k (by have := h.asked; omega) (by omega) (by simpa [Lit.wf, IntKind.min, IntKind.max, IntKind.signed, IntKind.bits] using hk)
    rw [if_pos ⟨by omega, by omega⟩, if_pos ⟨by omega, by omega⟩, Int.toNat_natCast] at hg
    rw [show a.sigs.getD (spAt a i).node 0 = sgAt a (spAt a i).node from rfl, hsg, hnd] at hg
    exact hg.mono fun e w' ⟨h1, h2⟩ => ⟨h1, by
      obtain ⟨B', h3, -, h4⟩ := CoM.graphWith (h.same hk2) h2 hq hsl
      exact ⟨B', h3, h4 ▸ h3.1.gpCell⟩⟩)
  have LV := Lib.hid (show ∀ X0 X Y B4, Keep (fun _ => False) w X0 → CoAt X0 c xp (CoF xp B a) (q + 1) (sgC a sg) X B4 → Keep (fun _ => False) X Y → Calls Tryz.prog 100 #[.pointer (some ⟨xp, 0, none⟩), .agg #[.int .i64 (i : Int), .int .i64 (g : Int)]] Y (fun e w' => ∃ A n cc lo hi B', e = .returned (.slice A n cc) ∧ Y.heap.size ≤ lo ∧ lo ≤ hi ∧ hi ≤ w'.heap.size ∧ NBX parN (fun b => lo ≤ b ∧ b < hi) lo 91 w' (.slice A n cc) (entP (sgC a sg) i) ∧ (∀ k, ownB (.slice A n cc) = some k → k < hi) ∧ CoAt Y c xp (CoF xp B4 (sgC a sg)) (q + 1) (leaveC (sgC a sg) i) w' B' ∧ (∀ k, CoF xp B' (leaveC (sgC a sg) i) k → k < lo ∨ hi ≤ k) ∧ w'.heap[xp]? = Y.heap[xp]?) from fun X0 X Y B4 hk0 h4 hk4 => by
    have ht := h4.tab (HT.out.same hk0) HG.out
    exact e_leave (h4.1.same hk4) (ht.1.same hk4) ht.2 i g ST.sp ST.nd ST.rw_ ST.ix)
  have PL := Lib.hid (entP_len (sgC a sg) i)
  have EN := Lib.hid (show ∀ X0 X Y B5 u G, Keep (fun _ => False) w X0 → CoAt X0 c xp (CoF xp B a) (q + 1) (leaveC (sgC a sg) i) X B5 → Keep (fun _ => False) X Y → NS parN Y G u (entP (sgC a sg) i ++ [⟨k, d⟩]) → (∀ b, G b → ¬ CoF xp B5 (leaveC (sgC a sg) i) b) → Calls Tryz.prog 96 #[.pointer (some ⟨xp, 0, none⟩), .agg #[.int .i64 (i : Int), .int .i64 (g : Int)], .int .i64 (nd : Int), u] Y fun e w' => e = .returned (.tuple #[]) ∧ ∃ B6, CoAt Y c xp (CoF xp B5 (leaveC (sgC a sg) i)) (q + 1) (enterC (szOf c.l) (leaveC (sgC a sg) i) i g nd (entP (sgC a sg) i ++ [⟨k, d⟩])) w' B6 ∧ w'.cell? ⟨xp, 6, none⟩ = Y.cell? ⟨xp, 6, none⟩ from fun X0 X Y B5 u G hk0 h5 hk5 hu hG => by
    have ht := h5.tab (HT.out.same hk0) HG.out
    exact (e_enter (h5.1.same hk5) hl (ht.1.same hk5) ht.2 hs i g hi4 nd hn' _ u G hu (by have := PL.out; rw [List.length_append, List.length_singleton]; omega) hG hadd).mono fun e w' ⟨e1, B6, h6, g6⟩ => ⟨e1, B6, h6, by rw [h6.1.gpCell, (h5.1.same hk5).gpCell, g6]⟩)
  obtain ⟨tt, tf⟩ := cells_of_row' h.box
  have c6 : w.cell? ⟨xp, 6, none⟩ = some (.pointer (some ⟨B.gp, 0, none⟩)) := tt 6 _ rfl
  obtain ⟨gS, cS, -, -, gSx, hgS, hcS1, hcS2, VS⟩ := h.viewS (by have := ST.sp; omega)
  have hsp := ST.sp
  have SX := Lib.hid (show ∀ W', Keep (fun _ => False) w W' → W'.cell? ⟨xp, 6, none⟩ = some (.pointer (some ⟨B.gp, 0, none⟩)) ∧ W'.cell? ⟨xp, 8, none⟩ = some (.slice (some ⟨gS, 0, none⟩) a.spots.length cS) ∧ W'.cell? ⟨gS, i * 3, none⟩ = some (.int .i64 ((spAt a i).node : Int)) ∧ W'.cell? ⟨gS, i * 3 + 1, none⟩ = some (.int .i64 ((spAt a i).row : Int)) ∧ W'.cell? ⟨gS, i * 3 + 2, none⟩ = some (.bool (spAt a i).there) from fun W' hk => ⟨hk.cell (fun h => h) c6, (VS W' hk).1, ((VS W' hk).2.1 i hsp).1, ((VS W' hk).2.1 i hsp).2.1, ((VS W' hk).2.1 i hsp).2.2⟩)
  clear h hnm ST VS hd hF hs hadd hsg hnd hT hG tt tf c6
  generalize entP (sgC a sg) i = PP at *
  generalize leaveC (sgC a sg) i = a2 at *
  generalize sgC a sg = a1 at *
  generalize (spAt a i).node = j at *
  generalize (spAt a i).row = r at *
  generalize (spAt a i).there = th at *
  generalize a.spots.length = ns at *
  have i0 : (i : Int) < (ns : Int) := by omega
  go_enter Tryz.func48, Tryz.ntmps48
  go_wp2_with fail
  with_reducible refine (NM.out _ (by exact (by repeat first | (with_reducible assumption) | (with_reducible exact Keep.refl _ _) | (with_reducible refine Keep.alloc ?_ _) | (with_reducible refine Keep.drew ?_) | (with_reducible refine Keep.drewN ?_ _) | (with_reducible refine Keep.setCell ?_ (.inl (by first | omega | (simp; done) | (simp; omega) | fail)) _)))).mono ?_
  rintro e w1 ⟨rfl, hk1⟩
  have K1 := Lib.hid (show Keep (fun _ => False) w w1 ∧ w1.heap[w.heap.size]? = some (.cells #[.int .i64 (i : Int), .int .i64 (g : Int)] 40 (0, 0)) from ⟨K0.out.trans hk1 (fun _ _ h => h), (hk1.block w.heap.size (by simp) (fun h => h)).trans HB.out⟩)
  clear hk1
  have z1 : w.heap.size < w1.heap.size := (Array.getElem?_eq_some_iff.1 K1.out.2).1
  obtain ⟨b0, b1, bf⟩ := cells2 K1.out.2
  have SY := Lib.hid (show ∀ W', Keep (fun _ => False) w1 W' → ((W'.cell? ⟨xp, 8, none⟩ = some (.slice (some ⟨gS, 0, none⟩) ns cS) ∧ W'.cell? ⟨w.heap.size, 0, none⟩ = some (.int .i64 (i : Int)) ∧ W'.cell? ⟨gS, i * 3, none⟩ = some (.int .i64 (j : Int)) ∧ W'.cell? ⟨gS, i * 3 + 1, none⟩ = some (.int .i64 (r : Int)) ∧ W'.cell? ⟨gS, i * 3 + 2, none⟩ = some (.bool th)) ∧ Keep (fun _ => False) w1 W') from fun W' hk => ⟨by
    obtain ⟨a1, a2, a3, a4, a5⟩ := SX.out W' (K1.out.1.trans hk (fun _ _ h => h))
    exact ⟨a2, hk.cell (fun h => h) b0, a3, a4, a5⟩, hk⟩)
  go_upto_region 6 with fail
  go_region_held3 (fun W' => (W'.cell? ⟨xp, 8, none⟩ = some (.slice (some ⟨gS, 0, none⟩) ns cS) ∧ W'.cell? ⟨w.heap.size, 0, none⟩ = some (.int .i64 (i : Int)) ∧ W'.cell? ⟨gS, i * 3, none⟩ = some (.int .i64 (j : Int)) ∧ W'.cell? ⟨gS, i * 3 + 1, none⟩ = some (.int .i64 (r : Int)) ∧ W'.cell? ⟨gS, i * 3 + 2, none⟩ = some (.bool th)) ∧ Keep (fun _ => False) w1 W') (exact SY.out _ (by exact (by repeat first | (with_reducible assumption) | (with_reducible exact Keep.refl _ _) | (with_reducible refine Keep.alloc ?_ _) | (with_reducible refine Keep.drew ?_) | (with_reducible refine Keep.drewN ?_ _) | (with_reducible refine Keep.setCell ?_ (.inl (by first | omega | (simp; done) | (simp; omega) | fail)) _)))) (fail)
  go_upto_region 9 with fail
  refine wp_world (S := fun X => Keep (fun _ => False) w1 X ∧ X.heap[w1.heap.size]? = some (.cells #[.int .i64 (j : Int), .int .i64 (r : Int), .bool th] 139 (0, 0))) ⟨by exact (by repeat first | (with_reducible assumption) | (with_reducible exact Keep.refl _ _) | (with_reducible refine Keep.alloc ?_ _) | (with_reducible refine Keep.drew ?_) | (with_reducible refine Keep.drewN ?_ _) | (with_reducible refine Keep.setCell ?_ (.inl (by first | omega | (simp; done) | (simp; omega) | fail)) _)), heap_alloc_at _ _ _ (by simp)⟩ ?_
  rintro X ⟨hk2, hs2⟩
  obtain ⟨s0, s1, s2, sf⟩ := cells3 hs2
  obtain ⟨b0, b1, bf⟩ := cells2 ((hk2.block w.heap.size z1 (fun h => h)).trans K1.out.2)
  have KX := Lib.hid (K1.out.1.trans hk2 (fun _ _ h => h))
  have hzX : w1.heap.size < X.heap.size := (Array.getElem?_eq_some_iff.1 hs2).1
  have BX := Lib.hid (show ∀ W', Keep (CoF xp B a) X W' → W'.cell? ⟨w.heap.size, 0, none⟩ = some (.int .i64 (i : Int)) ∧ W'.cell? ⟨w.heap.size, 1, none⟩ = some (.int .i64 (g : Int)) ∧ W'.cell? ⟨w1.heap.size, 0, none⟩ = some (.int .i64 (j : Int)) from fun W' hk => ⟨hk.cell (fun h => by have := hlt0.out _ h; dsimp only at this; omega) b0, hk.cell (fun h => by have := hlt0.out _ h; dsimp only at this; omega) b1, hk.cell (fun h => by have := hlt0.out _ h; dsimp only at this; omega) s0⟩)
  have c6 := (SX.out X KX.out).1
  clear hk2 hs2
  have SS := Lib.hid (show ∀ V W', (V.cell? ⟨xp, 6, none⟩ = some (.pointer (some ⟨B.gp, 0, none⟩)) ∧ Keep (CoF xp B a) X V) → Keep (fun _ => False) V W' → W'.cell? ⟨w.heap.size, 0, none⟩ = some (.int .i64 (i : Int)) ∧ W'.cell? ⟨w.heap.size, 1, none⟩ = some (.int .i64 (g : Int)) ∧ W'.cell? ⟨w1.heap.size, 0, none⟩ = some (.int .i64 (j : Int)) ∧ W'.cell? ⟨xp, 6, none⟩ = some (.pointer (some ⟨B.gp, 0, none⟩)) from fun V W' h1 h2 => by
    obtain ⟨e1, e2, e3⟩ := BX.out W' (h1.2.trans h2 (fun _ _ h => h.elim))
    exact ⟨e1, e2, e3, h2.cell (fun h => h) h1.1⟩)
  have V0 := Lib.hid (And.intro c6 (Keep.refl (CoF xp B a) X))
  have KXX := Lib.hid (fun Y (hk : Keep (fun _ => False) X Y) => KX.out.trans hk (fun _ _ h => h))
  go_region_held3 (fun W' => W'.cell? ⟨w.heap.size, 0, none⟩ = some (.int .i64 (i : Int)) ∧ W'.cell? ⟨w.heap.size, 1, none⟩ = some (.int .i64 (g : Int)) ∧ W'.cell? ⟨w1.heap.size, 0, none⟩ = some (.int .i64 (j : Int)) ∧ W'.cell? ⟨xp, 6, none⟩ = some (.pointer (some ⟨B.gp, 0, none⟩))) (first | exact SS.out _ _ V7.out (by exact (by repeat first | (with_reducible assumption) | (with_reducible exact Keep.refl _ _) | (with_reducible refine Keep.alloc ?_ _) | (with_reducible refine Keep.drew ?_) | (with_reducible refine Keep.drewN ?_ _) | (with_reducible refine Keep.setCell ?_ (.inl (by first | omega | (simp; done) | (simp; omega) | fail)) _))) | exact SS.out _ _ V6.out (by exact (by repeat first | (with_reducible assumption) | (with_reducible exact Keep.refl _ _) | (with_reducible refine Keep.alloc ?_ _) | (with_reducible refine Keep.drew ?_) | (with_reducible refine Keep.drewN ?_ _) | (with_reducible refine Keep.setCell ?_ (.inl (by first | omega | (simp; done) | (simp; omega) | fail)) _))) | exact SS.out _ _ V5.out (by exact (by repeat first | (with_reducible assumption) | (with_reducible exact Keep.refl _ _) | (with_reducible refine Keep.alloc ?_ _) | (with_reducible refine Keep.drew ?_) | (with_reducible refine Keep.drewN ?_ _) | (with_reducible refine Keep.setCell ?_ (.inl (by first | omega | (simp; done) | (simp; omega) | fail)) _))) | exact SS.out _ _ V4.out (by exact (by repeat first | (with_reducible assumption) | (with_reducible exact Keep.refl _ _) | (with_reducible refine Keep.alloc ?_ _) | (with_reducible refine Keep.drew ?_) | (with_reducible refine Keep.drewN ?_ _) | (with_reducible refine Keep.setCell ?_ (.inl (by first | omega | (simp; done) | (simp; omega) | fail)) _))) | exact SS.out _ _ V0.out (by exact (by repeat first | (with_reducible assumption) | (with_reducible exact Keep.refl _ _) | (with_reducible refine Keep.alloc ?_ _) | (with_reducible refine Keep.drew ?_) | (with_reducible refine Keep.drewN ?_ _) | (with_reducible refine Keep.setCell ?_ (.inl (by first | omega | (simp; done) | (simp; omega) | fail)) _)))) (first
    | (go_at_call 99; (with_reducible refine (GW.out _ (by exact KXX.out _ (by exact (by repeat first | (with_reducible assumption) | (with_reducible exact Keep.refl _ _) | (with_reducible refine Keep.alloc ?_ _) | (with_reducible refine Keep.drew ?_) | (with_reducible refine Keep.drewN ?_ _) | (with_reducible refine Keep.setCell ?_ (.inl (by first | omega | (simp; done) | (simp; omega) | fail)) _))))).mono ?_); rintro e w4 ⟨rfl, B4, h4, c64⟩; have hx4 : CoAt X c xp (CoF xp B a) (q + 1) a1 w4 B4 := CoAt.from_ (by exact (by repeat first | (with_reducible assumption) | (with_reducible exact Keep.refl _ _) | (with_reducible refine Keep.alloc ?_ _) | (with_reducible refine Keep.drew ?_) | (with_reducible refine Keep.drewN ?_ _) | (with_reducible refine Keep.setCell ?_ (.inl (by first | omega | (simp; done) | (simp; omega) | fail)) _))) h4; have V4 := Lib.hid (And.intro c64 hx4.2.1); have H4 := Lib.hid hx4; (try have AL4 := Lib.hid (show (∀ j u, (parN.cells (⟨k, d⟩, .slice AD nD cD))[j]? = some u → w4.cell? ⟨X.heap.size, j, none⟩ = some u) ∧ ¬ CoF xp B4 a1 X.heap.size from ⟨fun j u hu => h4.2.1.cell (fun e => by have := hlt0.out _ e; dsimp only at this; omega) (by first | with_reducible exact litP _ _ _ _ _ _ _ hu | with_reducible exact litPd _ _ _ _ _ _ _ hu | with_reducible exact litPe _ _ _ _ _ _ _ hu | fail), fun e => (h4.2.2 _ e).elim (fun e => by have := hlt0.out _ e; omega) (fun e => by simp at e; omega)⟩)); clear h4 c64 hx4)
    | (go_at_call 100; ((with_reducible refine (LV.out X _ _ _ KX.out H4.out (by exact (by repeat first | (with_reducible assumption) | (with_reducible exact Keep.refl _ _) | (with_reducible refine Keep.alloc ?_ _) | (with_reducible refine Keep.drew ?_) | (with_reducible refine Keep.drewN ?_ _) | (with_reducible refine Keep.setCell ?_ (.inl (by first | omega | (simp; done) | (simp; omega) | fail)) _)))).mono ?_)); rintro e w5 ⟨A5, n5, c5, lo, hi, B5, rfl, l1, l2, l3, l4, l5, h5, l6, l7⟩; (have hx5 : CoAt X c xp (CoF xp B a) (q + 1) a2 w5 B5 := (H4.out.same (by exact (by repeat first | (with_reducible assumption) | (with_reducible exact Keep.refl _ _) | (with_reducible refine Keep.alloc ?_ _) | (with_reducible refine Keep.drew ?_) | (with_reducible refine Keep.drewN ?_ _) | (with_reducible refine Keep.setCell ?_ (.inl (by first | omega | (simp; done) | (simp; omega) | fail)) _)))).then_ h5); (have c65 : w5.cell? ⟨xp, 6, none⟩ = some (.pointer (some ⟨B.gp, 0, none⟩)) := (World.cell?_of_block (a := ⟨xp, 6, none⟩) l7).trans (Keep.cell (S := fun _ => False) (by exact (by repeat first | (with_reducible assumption) | (with_reducible exact Keep.refl _ _) | (with_reducible refine Keep.alloc ?_ _) | (with_reducible refine Keep.drew ?_) | (with_reducible refine Keep.drewN ?_ _) | (with_reducible refine Keep.setCell ?_ (.inl (by first | omega | (simp; done) | (simp; omega) | fail)) _))) (fun h => h) V4.out.1)); have V5 := Lib.hid (And.intro c65 hx5.2.1); have H5 := Lib.hid hx5; have L5 := Lib.hid (And.intro l4 (And.intro l5 l6)); have LEN := Lib.hid (show PP.length = n5 from l4.lenS); have HLO := Lib.hid (show X.heap.size ≤ lo from Nat.le_trans (Keep.size (S := CoF xp B a) (Keep.trans (T := fun _ => False) V4.out.2 (by exact (by repeat first | (with_reducible assumption) | (with_reducible exact Keep.refl _ _) | (with_reducible refine Keep.alloc ?_ _) | (with_reducible refine Keep.drew ?_) | (with_reducible refine Keep.drewN ?_ _) | (with_reducible refine Keep.setCell ?_ (.inl (by first | omega | (simp; done) | (simp; omega) | fail)) _))) (fun _ _ h => h.elim))) l1); (try have AL5 := Lib.hid (show ∀ j u, (parN.cells (⟨k, d⟩, .slice AD nD cD))[j]? = some u → w5.cell? ⟨w4.heap.size, j, none⟩ = some u from fun j u hu => h5.2.1.cell (fun e => absurd (H4.out.1.lt _ e) (Nat.lt_irrefl _)) (by first | with_reducible exact litP _ _ _ _ _ _ _ hu | with_reducible exact litPd _ _ _ _ _ _ _ hu | with_reducible exact litPe _ _ _ _ _ _ _ hu | fail))); (try have AL5 := Lib.hid (show ∀ j u, (parN.cells (⟨k, d⟩, .slice AD nD cD))[j]? = some u → w5.cell? ⟨X.heap.size, j, none⟩ = some u from fun j u hu => h5.2.1.cell AL4.out.2 (Keep.cell (S := fun _ => False) (by exact (by repeat first | (with_reducible assumption) | (with_reducible exact Keep.refl _ _) | (with_reducible refine Keep.alloc ?_ _) | (with_reducible refine Keep.drew ?_) | (with_reducible refine Keep.drewN ?_ _) | (with_reducible refine Keep.setCell ?_ (.inl (by first | omega | (simp; done) | (simp; omega) | fail)) _))) (fun h => h) (AL4.out.1 j u hu)))); have D5 := Lib.hid (show By w5 (fun b => F b ∧ b < w.heap.size) (.slice AD nD cD) d from By.mono ((((By.mono HD.out.1 (G := fun b => F b ∧ b < w.heap.size) (fun b hb h => ⟨h, hb⟩)).keep KX.out (fun _ _ _ h => h))).keep hx5.2.1 (fun b _ h e => HD.out.2 b h.1 e)) (fun _ _ h => h)); clear h5 c65 hx5 l4 l5 l6 l7)
    | ((refine step_pushY (by rfl) _ _ _ (by rfl) parN (fun b => (lo ≤ b ∧ b < hi) ∨ (F b ∧ b < w.heap.size)) lo 91 ip _ 32 Tryz.underlying87 hip hp0 hp1 hp2 rfl _ _ n5 LEN.out (by rfl) (L5.out.1.monoX (fun _ h => .inl h) |>.keep (S := fun _ => False) (by exact (by repeat first | (with_reducible assumption) | (with_reducible exact Keep.refl _ _) | (with_reducible refine Keep.alloc ?_ _) | (with_reducible refine Keep.drew ?_) | (with_reducible refine Keep.drewN ?_ _) | (with_reducible refine Keep.setCell ?_ (.inl (by first | omega | (simp; done) | (simp; omega) | fail)) _))) (fun _ _ h => h) (fun _ _ _ _ h => h)) _ _ ⟨k, d⟩ (.slice AD nD cD) (by rfl) (by first | with_reducible exact litP _ _ _ _ _ | with_reducible exact AL5.out) (By.mono (By.keep (S := fun _ => False) D5.out (by exact (by repeat first | (with_reducible assumption) | (with_reducible exact Keep.refl _ _) | (with_reducible refine Keep.alloc ?_ _) | (with_reducible refine Keep.drew ?_) | (with_reducible refine Keep.drewN ?_ _) | (with_reducible refine Keep.setCell ?_ (.inl (by first | omega | (simp; done) | (simp; omega) | fail)) _))) (fun _ _ _ h => h)) (fun b _ h => ⟨.inr h, fun e => by have h1 := (L5.out.1.own_lt e).1; have h2 := h.2; have h3 := HLO.out; omega⟩)) (by unfold maxLen; have := LEN.out; have := PL.out; omega) (by have := LEN.out; have := PL.out; omega) (by first | omega | (simp; omega) | fail) ?_); intro A6 c6 w6 hn6 hk6 ho6; (have hk56 : Keep (fun k => ownB (Value.slice A5 n5 c5) = some k) w5 w6 := Keep.trans (T := fun k => ownB (Value.slice A5 n5 c5) = some k) (by exact (by repeat first | (with_reducible assumption) | (with_reducible exact Keep.refl _ _) | (with_reducible refine Keep.alloc ?_ _) | (with_reducible refine Keep.drew ?_) | (with_reducible refine Keep.drewN ?_ _) | (with_reducible refine Keep.setCell ?_ (.inl (by first | omega | (simp; done) | (simp; omega) | fail)) _))) hk6 (fun _ _ h => h)); (have L6 := Lib.hid (And.intro hn6 (show ∀ b, ownB (Value.slice A6 (n5 + 1) c6) = some b → ownB (Value.slice A5 n5 c5) = some b ∨ w5.heap.size ≤ b from fun b e => (ho6 b e).imp_right (fun e => by first | exact e | (simp at e; omega) | fail)))); (have NF := Lib.hid (nf_set (w := w) (v := .slice A5 n5 c5) (v' := .slice A6 (n5 + 1) c6) H5.out HD.out.2 (by omega) HLO.out L5.out.2.2 (fun b e => ⟨(L5.out.1.own_lt e).1, L5.out.2.1 b e⟩) L6.out.2)); (have hx6 := H5.out.besides (w' := w6) hk56 (fun b hb e => by have h1 := L5.out.2.1 b e; have h2 := L5.out.1.own_lt e; have h3 := L5.out.2.2 b hb; omega) (fun b e => by have h2 := L5.out.1.own_lt e; have h0 := HLO.out; omega)); (have c66 : w6.cell? ⟨xp, 6, none⟩ = some (.pointer (some ⟨B.gp, 0, none⟩)) := hk56.cell (fun e => by have h2 := L5.out.1.own_lt e; have h0 := HLO.out; dsimp only at h2; omega) V5.out.1); have V6 := Lib.hid (And.intro c66 hx6.2.1); have H6 := Lib.hid hx6; clear hn6 hk6 ho6 hk56 hx6 c66)
    | (go_at_call 96; (with_reducible refine (EN.out X _ _ _ _ _ KX.out H6.out (by exact (by repeat first | (with_reducible assumption) | (with_reducible exact Keep.refl _ _) | (with_reducible refine Keep.alloc ?_ _) | (with_reducible refine Keep.drew ?_) | (with_reducible refine Keep.drewN ?_ _) | (with_reducible refine Keep.setCell ?_ (.inl (by first | omega | (simp; done) | (simp; omega) | fail)) _))) (L6.out.1.nsO.keep (S := fun _ => False) (by exact (by repeat first | (with_reducible assumption) | (with_reducible exact Keep.refl _ _) | (with_reducible refine Keep.alloc ?_ _) | (with_reducible refine Keep.drew ?_) | (with_reducible refine Keep.drewN ?_ _) | (with_reducible refine Keep.setCell ?_ (.inl (by first | omega | (simp; done) | (simp; omega) | fail)) _))) (fun _ _ _ h => h)) NF.out).mono ?_); rintro e w7 ⟨rfl, B7, h7, c67⟩; (have hx7 := (H6.out.same (by exact (by repeat first | (with_reducible assumption) | (with_reducible exact Keep.refl _ _) | (with_reducible refine Keep.alloc ?_ _) | (with_reducible refine Keep.drew ?_) | (with_reducible refine Keep.drewN ?_ _) | (with_reducible refine Keep.setCell ?_ (.inl (by first | omega | (simp; done) | (simp; omega) | fail)) _)))).then_ h7); (have d67 : w7.cell? ⟨xp, 6, none⟩ = some (.pointer (some ⟨B.gp, 0, none⟩)) := c67.trans (Keep.cell (S := fun _ => False) (by exact (by repeat first | (with_reducible assumption) | (with_reducible exact Keep.refl _ _) | (with_reducible refine Keep.alloc ?_ _) | (with_reducible refine Keep.drew ?_) | (with_reducible refine Keep.drewN ?_ _) | (with_reducible refine Keep.setCell ?_ (.inl (by first | omega | (simp; done) | (simp; omega) | fail)) _))) (fun h => h) V6.out.1)); have V7 := Lib.hid (And.intro d67 hx7.2.1); have H7 := Lib.hid hx7; clear h7 c67 hx7 d67)
    | fail)
  all_goals
    go_wp2
    go_ret
    exact ⟨by simp, (CoAt.from_ KX.out (H7.out.same (by exact (by repeat first | (with_reducible assumption) | (with_reducible exact Keep.refl _ _) | (with_reducible refine Keep.alloc ?_ _) | (with_reducible refine Keep.drew ?_) | (with_reducible refine Keep.drewN ?_ _) | (with_reducible refine Keep.setCell ?_ (.inl (by first | omega | (simp; done) | (simp; omega) | fail)) _))))).to⟩
end
end Go.Proofs.YtglliendhbkkhaaGreatDoor

/- Contracts of vivariumref18.SameTail (of two alike), vivariumlaw18.live. -/
import Derived.Test.YtfjgbnnjfapcmaaScan5
import Derived.Test.YtfjgbnnjfapcmaaScanPl
import Derived.Test.YtfjgbnnjfapcmaaSeal7
namespace Go.Proofs.Ytfjgbnnjfapcmaa
open Go.RowKit
set_option maxRecDepth 100000
set_option linter.unusedVariables false
set_option linter.unusedSimpArgs false

def tailV (t : Tl) (v : Value) : Value := .agg #[v, .int .i64 t.lsn, .int .i64 t.ep, .int .i64 t.sq]
theorem rsameTail_any (t : Tl) (u v : Value) (F G : Nat → Prop) (w : World) (hu : Bys w F u t.recs) (hv : Bys w G v t.recs) :
    Calls Try.prog 30 #[tailV t u, tailV t v] w fun e w' => e = .returned (.bool true) ∧ Below w.heap.size w w' := by
  obtain ⟨R, lsn, ep, sq⟩ := t
  unfold tailV
  simp only at hu hv ⊢
  have SM := Lib.hid (fun W (hk : Keep (fun _ => False) w W) => show Calls Try.prog 29 #[u, v] W fun e w' => e = .returned (.bool true) ∧ Keep (fun _ => False) W w' from by have := rsame17 R R u v F G W (hu.keep hk (fun _ _ _ h => h)) (hv.keep hk (fun _ _ _ h => h)); rwa [decide_eq_true rfl] at this)
  obtain ⟨A, c, rfl, -⟩ := hu.form
  obtain ⟨B, d, rfl, -⟩ := hv.form
  clear hu hv
  generalize R.length = n at *
  go_enter Try.func30, Try.ntmps30
  go_upto_region 1 with fail
  refine wp_world (S := fun X => X.heap[w.heap.size]? = some (.cells #[.slice A n c, .int .i64 lsn, .int .i64 ep, .int .i64 sq] 44 (0, 0)) ∧ X.heap[w.heap.size + 1]? = some (.cells #[.slice B n d, .int .i64 lsn, .int .i64 ep, .int .i64 sq] 44 (0, 0)) ∧ Below w.heap.size w X) ⟨(heap_alloc_old _ _ (by simp)).trans (heap_alloc_new w _), heap_alloc_at _ _ _ (by simp), ((Below.refl _ w).alloc (Nat.le_refl _) _).alloc (by simp) _⟩ ?_
  intro X hX
  have HX := Lib.hid hX
  clear hX
  obtain ⟨c0, c1, c2, c3, cf⟩ := cells4 HX.out.1
  obtain ⟨d0, d1, d2, d3, df⟩ := cells4 HX.out.2.1
  go_wp2_with fail
  with_reducible refine (SM.out _ (Keep.of_below' HX.out.2.2)).mono ?_
  rintro e w1 ⟨rfl, hk⟩
  have H1 := Lib.hid (And.intro ((hk.block _ (Array.getElem?_eq_some_iff.1 HX.out.1).1 (fun h => h)).trans HX.out.1) (And.intro ((hk.block _ (Array.getElem?_eq_some_iff.1 HX.out.2.1).1 (fun h => h)).trans HX.out.2.1) (HX.out.2.2.trans (hk.to_below'.mono HX.out.2.2.size))))
  clear hk c0 c1 c2 c3 cf d0 d1 d2 d3 df HX
  obtain ⟨c0, c1, c2, c3, cf⟩ := cells4 H1.out.1
  obtain ⟨d0, d1, d2, d3, df⟩ := cells4 H1.out.2.1
  go_wp2
  go_ret
  exact ⟨rfl, H1.out.2.2⟩
theorem ListSt.nb {B : Nat} {w : World} {u : Value} {R : List (List UInt8)} (h : ListSt B w u R) : NB bsN B 29 w u R := by
  obtain ⟨cs, h1, h2⟩ := h
  have hl : cs.length = R.length := by have := h1.1; omega
  refine ⟨cs, hl, ?_, fun i x v hx hv => ?_⟩
  · show Own w B _ 1 u R.length ((R.zip cs).flatMap (fun p => [p.2]))
    rw [zip_snd hl]; exact h1
  · obtain ⟨y, hy, hb⟩ := h2 i x hx
    rw [hv] at hy
    obtain rfl := Option.some.inj hy
    exact By.mono hb (fun b _ h => h.2)
theorem lit_cellsAt {w : World} {g : Nat} (e : TypeId) (cs : List Value) (h : g = w.heap.size) : ∀ j u, cs[j]? = some u → (w.alloc (.cells cs.toArray e)).cell? ⟨g, j, none⟩ = some u := by
  subst h; exact lit_cells w e cs
/-- A box for a tail that nothing was laid in yet. -/
def AlT (W : World) (p : Nat) : Prop := W.heap[p]? = some (.cells #[.slice none 0 0, .int .i64 0, .int .i64 0, .int .i64 0] 44 (0, 0))
section
variable {W W' : World} {p : Nat}
theorem AlT.new (W : World) : AlT (W.alloc (.cells #[.slice none 0 0, .int .i64 0, .int .i64 0, .int .i64 0] 44)) W.heap.size := heap_alloc_new W _
theorem AlT.lt (h : AlT W p) : p < W.heap.size := (Array.getElem?_eq_some_iff.1 h).1
theorem AlT.alloc (h : AlT W p) (o : Obj) : AlT (W.alloc o) p := (heap_alloc_old _ _ h.lt).trans h
theorem AlT.drew (h : AlT W p) : AlT W.drew p := h
theorem AlT.below (h : AlT W p) (hb : Below W.heap.size W W') : AlT W' p := (hb.block _ h.lt).trans h
theorem AlT.below2 (h : AlT W p) (hb : Below W.heap.size W W') : AlT W' p ∧ p < W.heap.size := ⟨h.below hb, h.lt⟩
theorem AlT.keep {S : Nat → Prop} (h : AlT W p) (hk : Keep S W W') (hp : ¬ S p) : AlT W' p := (hk.block _ h.lt hp).trans h
theorem AlT.cells (h : AlT W p) : (W.cell? ⟨p, 0, none⟩ = some (.slice none 0 0) ∧ W.cell? ⟨p, 1, none⟩ = some (.int .i64 0) ∧ W.cell? ⟨p, 2, none⟩ = some (.int .i64 0) ∧ W.cell? ⟨p, 3, none⟩ = some (.int .i64 0)) ∧ (∀ i, W.frozen? ⟨p, i, none⟩ = false) := by
  obtain ⟨c0, c1, c2, c3, cf⟩ := cells4 h
  exact ⟨⟨c0, c1, c2, c3⟩, cf⟩
end
theorem cells_alloc {w : World} {g : Nat} {cs : List Value} (h : ∀ j u, cs[j]? = some u → w.cell? ⟨g, j, none⟩ = some u) (o : Obj) : ∀ j u, cs[j]? = some u → (w.alloc o).cell? ⟨g, j, none⟩ = some u := fun j u hu =>
  ((Keep.refl (fun _ => False) w).alloc o).cell (fun h => h) (h j u hu)
theorem cells_keep {w w' : World} {g : Nat} {cs : List Value} (hk : Keep (fun _ => False) w w') (h : ∀ j u, cs[j]? = some u → w.cell? ⟨g, j, none⟩ = some u) : ∀ j u, cs[j]? = some u → w'.cell? ⟨g, j, none⟩ = some u := fun j u hu =>
  hk.cell (fun h => h) (h j u hu)
theorem made_zeros : madeCells (Value.int .u8 0).cells (512 * 1) = (bv (List.replicate 512 0)).toArray := by kernel_rfl
theorem run_make512 (W : World) : (Instr.makeSlice 29 (.int .i64 512) (.int .i64 512)).run Try.prog W = .ok (.slice (some ⟨W.heap.size, 0, none⟩) 512 512) (W.alloc (.cells (bv (List.replicate 512 0)).toArray 5)) := by
  obtain ⟨i0, hi0, hz0, hz1, hz2⟩ := info_parts info_byte
  have := run_makeSlice (P := Try.prog) W 29 5 i0 _ Try.underlying29 hi0 hz0 .i64 .i64 512 512 (by decide) (by decide) (by rw [hz1]; decide) (by rw [hz2]; decide) (by decide)
  rw [this, hz1]
  rw [show ((512 : Int).toNat * 1) = 512 * 1 from rfl, made_zeros]
  rfl
theorem zeros_at {ZZ : Array Value} {z : List UInt8} {W w' : World} {g n : Nat} {F : Nat → Prop} (ZB : ∀ (W : World) (g : Nat), g = W.heap.size → By (W.alloc (.cells ZZ 5)) (fun b => b = g) (.slice (some ⟨g, 0, none⟩) n n) z)
    (hk : Keep (fun _ => False) (W.alloc (.cells ZZ 5)) w') (hg : g = W.heap.size) (hF : F g) : By w' F (.slice (some ⟨g, 0, none⟩) n n) z :=
  By.mono (By.keep (S := fun _ => False) (ZB W g hg) hk (fun _ _ _ h => h)) (fun b _ h => h ▸ hF)
theorem Bys.at1 {w : World} {F : Nat → Prop} {A : Option Addr} {n d : Nat} {r : List UInt8} (h : Bys w F (.slice A n d) [r]) : ∃ b o u, A = some ⟨b, o, none⟩ ∧ w.cell? ⟨b, o, none⟩ = some u ∧ By w F u r := by
  obtain ⟨A', c, e, _, _, hat⟩ := h.form
  injection e with e1 e2 e3
  subst e1
  obtain ⟨b, o, u, h1, h2, h3⟩ := hat 0 (by simp)
  exact ⟨b, o, u, h1, h2, h3⟩
/-- The tail that live looks at. -/
def LvT (w1 : World) (y s : Value) (wx : World) : Prop :=
  ∃ (q : Nat) (A : Option Addr) (d : Nat), s = .pointer (some ⟨q, 0, none⟩) ∧ wx.heap[q]? = some (.cells #[.slice A 1 d, .int .i64 5, .int .i64 3, .int .i64 10] 44 (0, 0)) ∧ Bys wx (fun _ => True) (.slice A 1 d) [liveR] ∧ By wx (fun _ => True) y liveR ∧ Keep (fun _ => False) w1 wx
theorem LvT.set_ {w1 w6 : World} {q B : Nat} {F : Nat → Prop} {A : Option Addr} {d : Nat} {y : Value} (hk : Keep (fun _ => False) w1 w6) (AL : AlT w6 q) (hr : Bys w6 (fun b => B ≤ b) (.slice A 1 d) [liveR]) (hy : By w1 F y liveR) (hq : w1.heap.size ≤ q) (hB : q < B) :
    LvT w1 y (.pointer (some ⟨q, 0, none⟩)) ((((w6.setCell ⟨q, 0, none⟩ (.slice A 1 d)).setCell ⟨q, 1, none⟩ (.int .i64 5)).setCell ⟨q, 2, none⟩ (.int .i64 3)).setCell ⟨q, 3, none⟩ (.int .i64 10)) := by
  have K9 := hk.trans (keepS4 w6 q (.slice A 1 d) (.int .i64 5) (.int .i64 3) (.int .i64 10)) (fun x h e => by subst e; omega)
  exact ⟨q, A, d, rfl, stored4 AL _ _ _ _, (hr.keep (keepS4 w6 q _ _ _ _) (fun b _ h e => by omega)).mono (fun _ _ _ => trivial), (By.keep hy K9 (fun _ _ _ h => h)).mono (fun _ _ _ => trivial), K9⟩
theorem LvT.new {w1 w6 : World} {F G : Nat → Prop} {A : Option Addr} {d : Nat} {y : Value} (hk : Keep (fun _ => False) w1 w6) (hr : Bys w6 G (.slice A 1 d) [liveR]) (hy : By w1 F y liveR) :
    LvT w1 y (.pointer (some ⟨w6.heap.size, 0, none⟩)) (w6.alloc (.cells #[.slice A 1 d, .int .i64 5, .int .i64 3, .int .i64 10] 44)) :=
  ⟨_, A, d, rfl, heap_alloc_new _ _, (hr.keep ((Keep.refl (fun _ => False) w6).alloc _) (fun _ _ _ h => h)).mono (fun _ _ _ => trivial), (By.keep (S := fun _ => False) hy (hk.alloc _) (fun _ _ _ h => h)).mono (fun _ _ _ => trivial), hk.alloc _⟩
set_option maxHeartbeats 8000000 in
theorem live18 (w : World) : Calls Try.prog 9 #[] w fun e w' => e = .returned (.bool true) ∧ Below w.heap.size w w' := by
  have FB := Lib.hid (fun W => rfbytes_any [] (.slice none 0 0) (fun _ => True) W (NS.nil _ _ _) rfl)
  have hl5 := liveR_len
  have SE := Lib.hid (fun W v F (h : By W F v liveR) => rsealed_any 3 4 9 liveR v F W h (by omega) (by decide) (by decide))
  have SC := Lib.hid (fun W v F (h : Bys W F v liveL) => scan_any liveC (.slice none 0 0) (fun _ => True) liveL v F 4 2 9 W (CL.nil _ _) h (fun s hs => by
    rcases List.mem_append.1 hs with hs | hs
    · rw [live_sealed] at hs
      obtain rfl : s = _ := by simpa using hs
      rw [sealB_len]; decide
    · obtain rfl : s = List.replicate 512 0 := List.mem_singleton.1 hs
      rw [List.length_replicate]; decide) (by decide))
  rw [live_scan] at SC
  unfold ScanP at SC
  have SM := Lib.hid (fun W b d Fb Fd (h1 : By W Fb b liveR) (h2 : By W Fd d liveR) => show Calls Try.prog 14 #[b, d] W fun e w' => e = .returned (.bool true) ∧ W = w' from by have := same_any liveR liveR b d Fb Fd W h1 h2; rwa [decide_eq_true rfl] at this)
  unfold confV liveC at SC
  simp only at SC
  obtain ⟨is, his, hs0, hs1, hs2⟩ := info_parts info_bytes
  have MK := run_make512
  have ZB := Lib.hid (show ∀ (W : World) (g : Nat), g = W.heap.size → By (W.alloc (.cells (bv (List.replicate 512 0)).toArray 5)) (fun b => b = g) (.slice (some ⟨g, 0, none⟩) 512 512) (List.replicate 512 0) from fun W g e => by subst e; exact Sl.lit W 5 (bv (List.replicate 512 0)) (by rw [bv_len, List.length_replicate]; decide))
  generalize (bv (List.replicate 512 0)).toArray = ZZ at MK ZB
  have LS := Lib.hid (show (sealedF 3 4 9 liveR).length = 1 by rw [live_sealed]; rfl)
  unfold liveR at FB
  change Hid (∀ W, Calls _ _ _ W (BytesPost W liveR)) at FB
  go_enter Try.func9, Try.ntmps9
  go_upto_region 2 with fail
  refine wp_world (S := fun X => KSt w X (.int .i64 2) (.int .i64 4) (.int .i64 1) (.int .i64 1) (.slice none 0 0)) (KSt.mk_ w _ _ _ _ _) ?_
  intro X hX
  have HX := Lib.hid hX
  clear hX
  go_wp2_with fail
  with_reducible refine (FB.out _).mono ?_
  rintro e w1 ⟨A1, n1, d1, rfl, hy1, hb1⟩
  have H1 := Lib.hid (And.intro (HX.out.below hb1) hy1)
  clear hy1 hb1 HX
  go_upto_region 3 with fail
  have CE := Lib.hid (show ∀ W', Keep (fun _ => False) w1 W' → W'.cell? ⟨w.heap.size, 0, none⟩ = some (.int .i64 2) ∧ W'.cell? ⟨w.heap.size, 1, none⟩ = some (.int .i64 4) ∧ W'.cell? ⟨w.heap.size, 2, none⟩ = some (.int .i64 1) ∧ W'.cell? ⟨w.heap.size, 3, none⟩ = some (.int .i64 1) ∧ W'.cell? ⟨w.heap.size, 4, none⟩ = some (.slice none 0 0) ∧ Keep (fun _ => False) w1 W' from fun W' hk => by
    have h := (hk.block _ H1.out.1.lt (fun h => h)).trans H1.out.1.1
    obtain ⟨c0, c1, c2, c3, c4, -⟩ := cells5 h
    exact ⟨c0, c1, c2, c3, c4, hk⟩)
  go_cut [3] (fun s wx => LvT w1 (.slice A1 n1 d1) s wx)
  case first =>
    go_region_held3 (fun W' => W'.cell? ⟨w.heap.size, 0, none⟩ = some (.int .i64 2) ∧ W'.cell? ⟨w.heap.size, 1, none⟩ = some (.int .i64 4) ∧ W'.cell? ⟨w.heap.size, 2, none⟩ = some (.int .i64 1) ∧ W'.cell? ⟨w.heap.size, 3, none⟩ = some (.int .i64 1) ∧ W'.cell? ⟨w.heap.size, 4, none⟩ = some (.slice none 0 0) ∧ Keep (fun _ => False) w1 W') (exact CE.out _ (by exact (by repeat first | (with_reducible assumption) | (with_reducible exact Keep.refl _ _) | (with_reducible refine Keep.alloc ?_ _) | (with_reducible refine Keep.drew ?_) | (with_reducible refine Keep.drewN ?_ _) | (with_reducible refine Keep.setCell ?_ (.inl (by first | omega | (simp; done) | (simp; omega) | fail)) _)))) (first
      | (go_at_call 24; (with_reducible refine (SE.out _ _ _ (By.keep (S := fun _ => False) H1.out.2 (by exact (by repeat first | (with_reducible assumption) | (with_reducible exact Keep.refl _ _) | (with_reducible refine Keep.alloc ?_ _) | (with_reducible refine Keep.drew ?_) | (with_reducible refine Keep.drewN ?_ _) | (with_reducible refine Keep.setCell ?_ (.inl (by first | omega | (simp; done) | (simp; omega) | fail)) _))) (fun _ _ _ h => h))).mono ?_); rintro e w3 ⟨u3, rfl, hl3, hb3⟩; obtain ⟨A3, d3, rfl⟩ := hl3.form; rw [LS.out] at hl3 ⊢; have hk3 : Keep (fun _ => False) w1 w3 := Keep.trans (T := fun _ => False) (by exact (by repeat first | (with_reducible assumption) | (with_reducible exact Keep.refl _ _) | (with_reducible refine Keep.alloc ?_ _) | (with_reducible refine Keep.drew ?_) | (with_reducible refine Keep.drewN ?_ _) | (with_reducible refine Keep.setCell ?_ (.inl (by first | omega | (simp; done) | (simp; omega) | fail)) _))) (Keep.of_below' hb3) (fun _ _ h => h); have sz3 := hk3.size; have hk3b := Keep.of_below' hb3; (first | (have AL3 := (AlT.below (AlT.new _) hb3)) | (have AL3 := (AlT.below (AlT.drew (AlT.new _)) hb3)) | (have AL3 := (AlT.below (AlT.alloc (AlT.new _) _) hb3)) | (have AL3 := (AlT.below (AlT.drew (AlT.alloc (AlT.new _) _)) hb3)) | (have AL3 := (AlT.below (AlT.alloc (AlT.alloc (AlT.new _) _) _) hb3)) | (have AL3 := (AlT.below (AlT.drew (AlT.alloc (AlT.alloc (AlT.new _) _) _)) hb3)) | (have AL3 := (AlT.below (AlT.alloc (AlT.alloc (AlT.alloc (AlT.new _) _) _) _) hb3)) | (have AL3 := (AlT.below (AlT.drew (AlT.alloc (AlT.alloc (AlT.alloc (AlT.new _) _) _) _)) hb3)) | skip); (try simp at AL3))
      | ((refine step_push (by rfl) _ _ _ (by rfl) bsN w1.heap.size 29 is _ 24 Try.underlying25 his hs0 hs1 hs2 rfl _ (sealedF 3 4 9 liveR) 1 LS.out (by rfl) ((hl3.nb.base (B' := w1.heap.size) (by first | exact Nat.le_refl _ | (simp; done) | (simp; omega))).same (by exact (by repeat first | (with_reducible assumption) | (with_reducible exact Keep.refl _ _) | (with_reducible refine Keep.alloc ?_ _) | (with_reducible refine Keep.drew ?_) | (with_reducible refine Keep.drewN ?_ _) | (with_reducible refine Keep.setCell ?_ (.inl (by first | omega | (simp; done) | (simp; omega) | fail)) _)))) _ 1 (List.replicate 512 0) _ (by rfl) (by first | exact (lit_cellsAt _ _ (by first | (simp; done) | rfl)) | exact (cells_alloc (lit_cellsAt _ _ (by first | (simp; done) | rfl)) _) | exact (cells_keep hk3b (lit_cellsAt _ _ (by first | (simp; done) | rfl))) | exact (cells_keep hk3b (cells_alloc (lit_cellsAt _ _ (by first | (simp; done) | rfl)) _)) | exact (cells_alloc (cells_keep hk3b (lit_cellsAt _ _ (by first | (simp; done) | rfl))) _)) (zeros_at ZB.out (by repeat first | (with_reducible assumption) | (with_reducible exact Keep.refl _ _) | (with_reducible refine Keep.alloc ?_ _) | (with_reducible refine Keep.drew ?_) | (with_reducible refine Keep.trans ?_ hk3b (fun _ _ h => h))) (by first | (simp; done) | rfl) (fun e => by have := hl3.nb.own_lt e; (first | omega | (simp at this <;> omega)))) (by decide) (by decide) (by have := hk3.size; (try simp); omega) ?_); intro A5 c5 w5 hn5 hk5; have hk6 : Keep (fun _ => False) w1 w5 := Keep.trans (T := fun k => ownB (.slice A3 1 d3) = some k) (by exact (by repeat first | (with_reducible assumption) | (with_reducible exact Keep.refl _ _) | (with_reducible refine Keep.alloc ?_ _) | (with_reducible refine Keep.drew ?_) | (with_reducible refine Keep.drewN ?_ _) | (with_reducible refine Keep.setCell ?_ (.inl (by first | omega | (simp; done) | (simp; omega) | fail)) _))) hk5 (fun x hx e => by have := (hl3.nb.own_lt e).1; (first | omega | (simp at this <;> omega))); have sz5 := hk6.size; (first | (have AL5 := (AlT.keep AL3 hk5 (fun e => by have := hl3.nb.own_lt e; (first | omega | (simp at this <;> omega))))) | (have AL5 := (AlT.keep (AlT.alloc AL3 _) hk5 (fun e => by have := hl3.nb.own_lt e; (first | omega | (simp at this <;> omega))))) | (have AL5 := (AlT.keep (AlT.alloc (AlT.alloc AL3 _) _) hk5 (fun e => by have := hl3.nb.own_lt e; (first | omega | (simp at this <;> omega))))) | (have AL5 := (AlT.keep (AlT.alloc (AlT.alloc (AlT.alloc AL3 _) _) _) hk5 (fun e => by have := hl3.nb.own_lt e; (first | omega | (simp at this <;> omega))))) | (have AL5 := (AlT.keep (AlT.new _) hk5 (fun e => by have := hl3.nb.own_lt e; (first | omega | (simp at this <;> omega))))) | (have AL5 := (AlT.keep (AlT.alloc (AlT.new _) _) hk5 (fun e => by have := hl3.nb.own_lt e; (first | omega | (simp at this <;> omega))))) | (have AL5 := (AlT.keep (AlT.alloc (AlT.alloc (AlT.new _) _) _) hk5 (fun e => by have := hl3.nb.own_lt e; (first | omega | (simp at this <;> omega))))) | (have AL5 := (AlT.keep (AlT.alloc (AlT.alloc (AlT.alloc (AlT.new _) _) _) _) hk5 (fun e => by have := hl3.nb.own_lt e; (first | omega | (simp at this <;> omega))))) | skip); (try simp at AL5))
      | (go_at_call 28; (with_reducible refine (SC.out _ _ _ (hn5.bys.keep (S := fun _ => False) (by exact (by repeat first | (with_reducible assumption) | (with_reducible exact Keep.refl _ _) | (with_reducible refine Keep.alloc ?_ _) | (with_reducible refine Keep.drew ?_) | (with_reducible refine Keep.drewN ?_ _) | (with_reducible refine Keep.setCell ?_ (.inl (by first | omega | (simp; done) | (simp; omega) | fail)) _))) (fun _ _ _ h => h))).mono ?_); rintro e w6 ⟨v6, rfl, hr6, hb6⟩; obtain ⟨A6, c6, rfl⟩ : ∃ A c, v6 = .slice A 1 c := (by obtain ⟨A, c, e, -⟩ := hr6.form; exact ⟨A, c, e⟩); have hk7 : Keep (fun _ => False) w1 w6 := Keep.trans (T := fun _ => False) (by exact (by repeat first | (with_reducible assumption) | (with_reducible exact Keep.refl _ _) | (with_reducible refine Keep.alloc ?_ _) | (with_reducible refine Keep.drew ?_) | (with_reducible refine Keep.drewN ?_ _) | (with_reducible refine Keep.setCell ?_ (.inl (by first | omega | (simp; done) | (simp; omega) | fail)) _))) (Keep.of_below' hb6) (fun _ _ h => h); (first | (have AL6 := (AlT.below AL5 hb6)) | (have AL6 := (AlT.below (AlT.drew AL5) hb6)) | (have AL6 := (AlT.below (AlT.alloc AL5 _) hb6)) | (have AL6 := (AlT.below (AlT.drew (AlT.alloc AL5 _)) hb6)) | (have AL6 := (AlT.below (AlT.alloc (AlT.alloc AL5 _) _) hb6)) | (have AL6 := (AlT.below (AlT.drew (AlT.alloc (AlT.alloc AL5 _) _)) hb6)) | (have AL6 := (AlT.below (AlT.alloc (AlT.alloc (AlT.alloc AL5 _) _) _) hb6)) | (have AL6 := (AlT.below (AlT.drew (AlT.alloc (AlT.alloc (AlT.alloc AL5 _) _) _)) hb6)) | (have AL6 := (AlT.below (AlT.new _) hb6)) | (have AL6 := (AlT.below (AlT.drew (AlT.new _)) hb6)) | (have AL6 := (AlT.below (AlT.alloc (AlT.new _) _) hb6)) | (have AL6 := (AlT.below (AlT.drew (AlT.alloc (AlT.new _) _)) hb6)) | (have AL6 := (AlT.below (AlT.alloc (AlT.alloc (AlT.new _) _) _) hb6)) | (have AL6 := (AlT.below (AlT.drew (AlT.alloc (AlT.alloc (AlT.new _) _) _)) hb6)) | (have AL6 := (AlT.below (AlT.alloc (AlT.alloc (AlT.alloc (AlT.new _) _) _) _) hb6)) | (have AL6 := (AlT.below (AlT.drew (AlT.alloc (AlT.alloc (AlT.alloc (AlT.new _) _) _) _)) hb6)) | skip); (try simp at AL6); (try have l5 := AL5.lt); (first | (obtain ⟨⟨t0, t1, t2, t3⟩, tf⟩ := AL6.cells) | skip))
      | fail)
    all_goals
      go_wp2_with fail
      go_meet
      first
        | (with_reducible exact LvT.new hk7 hr6 H1.out.2)
        | (with_reducible refine LvT.set_ hk7 AL6 hr6 H1.out.2 ?_ ?_) <;> first | omega | (simp; done) | (simp; omega)
        | fail "SEE"
  case rest =>
    obtain ⟨q, A, d, rfl, hq, hr, hy, hk⟩ := hcut
    have HC := Lib.hid (And.intro hr (And.intro hy (H1.out.1.2.trans (hk.to_below'.mono H1.out.1.2.size))))
    obtain ⟨c0, c1, c2, c3, cf⟩ := cells4 hq
    obtain ⟨b, o, u, e1, x1, y1⟩ := hr.at1
    subst e1
    obtain ⟨A2, d2, rfl, -⟩ := id y1
    have Y1 := Lib.hid y1
    clear hr hy hk hq y1 CE H1
    rw [hl5] at x1 Y1
    go_wp2_with fail
    with_reducible refine (SM.out _ _ _ _ _ Y1.out HC.out.2.1).mono ?_
    rintro e w9 ⟨rfl, rfl⟩
    go_wp2
    go_ret
    exact ⟨rfl, HC.out.2.2⟩
end Go.Proofs.Ytfjgbnnjfapcmaa

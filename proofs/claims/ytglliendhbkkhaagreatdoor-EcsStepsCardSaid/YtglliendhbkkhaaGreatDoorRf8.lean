/- Contracts of vivariumref06.Give (of one alive), vivariumref11.Despawn. -/
import Derived.Test.YtglliendhbkkhaaGreatDoorRf1
namespace Go.Proofs.YtglliendhbkkhaaGreatDoor
open Go.RowKit
set_option maxRecDepth 100000
set_option linter.unusedVariables false
set_option linter.unusedSimpArgs false

theorem results_in2 {fn : Func} {p t : Tmp} (h : fn.results = #[.cell p 93, .tmp t]) (tmps : Array Value) (w : World) (g : Nat) (c0 c1 c2 c3 : Value)
    (hp : tmps.getD p undef = .pointer (some ⟨g, 0, none⟩)) (hg : w.heap[g]? = some (.cells #[c0, c1, c2, c3] 93 (0, 0))) (b : Value) (hb : tmps.getD t undef = b) : (results fn tmps).run Tryz.prog w = .ok (.tuple #[.agg #[c0, c1, c2, c3], b]) w := by
  have hr := run_loadVar_row (P := Tryz.prog) w g 93 93 #[c0, c1, c2, c3] (0, 0) _ hg under_in rfl size_in
  have e : (results fn tmps).run Tryz.prog w = ((asAddr (tmps.getD p undef)).run Tryz.prog w).andThen fun a w₁ => ((loadVar 93 a).run Tryz.prog w₁).andThen fun v w₂ => .ok (.tuple #[v, tmps.getD t undef]) w₂ := by
    simp only [results, h]
    simp [Sem.run_bind, Result.andThen]
  rw [e, hp, hb]
  simp [asAddr, hr]
theorem own_pos {w : World} {B m n c : Nat} {e : TypeId} {A : Option Addr} {xs : List Value} (h : Own w B e m (.slice A n c) n xs) (hc : 0 < n) : ∃ g, A = some ⟨g, 0, none⟩ ∧ B ≤ g ∧ g < w.heap.size ∧ 0 < c ∧ ownB (.slice A n c) = some g := by
  obtain ⟨hl, A', c', hv, hnc, hcm, hg⟩ := h
  injection hv with e1 e2 e3
  subst e1 e3
  obtain ⟨g, cur, rfl, hb, hgg, hcs, htk⟩ := hg (by omega)
  refine ⟨g, rfl, hb, (Array.getElem?_eq_some_iff.1 hgg).1, by omega, ?_⟩
  obtain ⟨d, rfl⟩ : ∃ d, c = d + 1 := ⟨c - 1, by omega⟩
  rfl
theorem iv_setA (l : List Int) (i : Nat) (z : Int) : (iv l).set i (.int .i64 z) = iv (l.set i z) := by
  unfold iv
  rw [List.map_set]
theorem step_intA {ops : Array Oper} {o : Oper} {a : Act} {w : World} {K : Act → World → Prop} {Q : Exit → Act → World → Prop} {E : Prop} (hgd : Region.wanted o (yielded ops a.tmps) = true) (s x : Operand)
    (ho : o.op = .call { callee := .builtin .append, args := #[s, x], argTypes := #[25, 25] }) (B : Nat) (v : Value) (n : Nat) (D : List Value) (hv : a.eval s = v) (hown : Own w B 3 1 v n D) (vx : Value) (k : Nat) (ys : List Value)
    (hy : a.eval x = vx) (hsrc : Src Tryz.prog 1 25 vx k ys w) (hk : n + k ≤ 1099511627776) (hB : B ≤ w.heap.size)
    (h : ∀ A c w', Own w' B 3 1 (.slice A (n + k) c) (n + k) (D ++ ys) → Keep (fun k => ownB v = some k) w w' → (∀ k', ownB (.slice A (n + k) c) = some k' → ownB v = some k' ∨ w.heap.size ≤ k') → K (a.put o.dst (.slice A (n + k) c)) w') :
    if Region.wanted o (yielded ops a.tmps) = true then Oper.wp Tryz.prog o a w K Q else E := by
  obtain ⟨is, his, hs0, hs1, hs2⟩ := info_parts info_intA
  refine step_append_gen w hgd s x _ _ ho B 3 is _ 1 8 Tryz.underlying25 his hs0 hs1 hs2 rfl v n _ hv hown vx k ys hy hsrc (by unfold maxLen; omega) (by omega) hB ?_
  intro v' w' ho' hk' hn'
  obtain ⟨A, c', rfl, _⟩ := ho'.form
  exact h A c' w' ho' hk' hn'
theorem lit0 {w : World} {g : Nat} (e : TypeId) (v : Value) (h : g = w.heap.size) : (w.alloc (.cells #[v] e)).cell? ⟨g, 0, none⟩ = some v := by
  subst h; exact lit_cells w e [v] 0 v rfl
/-- What Give tells. -/
def GvPost (ents lim : Int) (gens free : List Int) (F : Nat → Prop) (i : Nat) (w : World) (e : Ending) (w' : World) : Prop :=
  ∃ A c B d, e = .returned (.tuple #[inV ents lim (.slice A gens.length c) (.slice B (if gens.getD i 0 + 1 < lim then free ++ [(i : Int)] else free).length d), .int .i64 0]) ∧ Sl w' (fun b => w.heap.size ≤ b) 1 (.slice A gens.length c) gens.length (iv (gens.set i (gens.getD i 0 + 1))) ∧
    Sl w' (SF F w) 1 (.slice B (if gens.getD i 0 + 1 < lim then free ++ [(i : Int)] else free).length d) (if gens.getD i 0 + 1 < lim then free ++ [(i : Int)] else free).length (iv (if gens.getD i 0 + 1 < lim then free ++ [(i : Int)] else free)) ∧ Keep (fun _ => False) w w'
set_option maxHeartbeats 2000000 in
theorem r6_give (ents lim : Int) (gens free : List Int) (g f : Value) (F : Nat → Prop) (i : Nat) (w : World) (hg : Sl w F 1 g gens.length (iv gens)) (hf : Sl w F 1 f free.length (iv free)) (hi : i < gens.length) (hn : ¬ (i : Int) ∈ free) (hl : gens.getD i 0 < lim) (h0 : 0 ≤ gens.getD i 0) (hlim : lim ≤ 1099511627776) (hgl : gens.length ≤ 1000000) (hfl : free.length ≤ 1000000) :
    Calls Tryz.prog 110 #[inV ents lim g f, .agg #[.int .i64 (i : Int), .int .i64 (gens.getD i 0)]] w (GvPost ents lim gens free F i w) := by
  have AL := Lib.hid (fun X (hk : Keep (fun _ => False) w X) => r6_alive_ok ents lim gens free g f F i X (hg.keep hk (fun _ _ _ h => h)) (hf.keep hk (fun _ _ _ h => h)) hi hn hl)
  have GF := Lib.hid (And.intro hg hf)
  obtain ⟨Ag, cg, rfl, g1, g2, -⟩ := id hg
  obtain ⟨Af, cf, rfl, f1, f2, -⟩ := id hf
  have HX0 := Lib.hid (show (iv gens)[i]? = some (.int .i64 (gens.getD i 0)) from ivI_at hi)
  unfold inV maxLen at *
  unfold GvPost
  unfold inV
  obtain ⟨x, hx⟩ : ∃ x, gens.getD i 0 = x := ⟨_, rfl⟩
  rw [hx] at AL HX0 hl h0 ⊢
  clear hn hg hf hx
  obtain ⟨ng, hng⟩ : ∃ ng, gens.length = ng := ⟨_, rfl⟩
  obtain ⟨nf, hnf⟩ : ∃ nf, free.length = nf := ⟨_, rfl⟩
  have HNG := Lib.hid hng
  have HNF := Lib.hid hnf
  rw [hng, hnf] at AL GF
  rw [hng] at g1 hi hgl ⊢
  rw [hnf] at f1 hfl ⊢
  clear hng hnf
  go_enter Tryz.func110, Tryz.ntmps110
  go_upto_region 1 with fail
  refine wp_world (S := fun X => X.heap[w.heap.size]? = some (.cells #[.int .i64 ents, .int .i64 lim, .slice Ag ng cg, .slice Af nf cf] 93 (0, 0)) ∧ X.heap[w.heap.size + 1]? = some (.cells #[.int .i64 (i : Int), .int .i64 x] 40 (0, 0)) ∧ X.heap[w.heap.size + 1 + 1]? = some (.cells #[.int .i64 0, .int .i64 0, .slice none 0 0, .slice none 0 0] 93 (0, 0)) ∧ Keep (fun _ => False) w X) ⟨(by (try simp only [heap_drew']); (try simp only [World.heap_drewN]); repeat (first | exact heap_alloc_at _ _ _ (by first | rfl | simp) | rw [Below.heap_alloc _ _ _ (by first | (simp; done) | (simp; omega))])), (by (try simp only [heap_drew']); (try simp only [World.heap_drewN]); repeat (first | exact heap_alloc_at _ _ _ (by first | rfl | simp) | rw [Below.heap_alloc _ _ _ (by first | (simp; done) | (simp; omega))])), (by (try simp only [heap_drew']); (try simp only [World.heap_drewN]); repeat (first | exact heap_alloc_at _ _ _ (by first | rfl | simp) | rw [Below.heap_alloc _ _ _ (by first | (simp; done) | (simp; omega))])), by exact (by repeat first | (with_reducible assumption) | (with_reducible exact Keep.refl _ _) | (with_reducible refine Keep.alloc ?_ _) | (with_reducible refine Keep.drew ?_) | (with_reducible refine Keep.drewN ?_ _) | (with_reducible refine Keep.setCell ?_ (.inl (by first | omega | (simp; done) | (simp; omega) | fail)) _))⟩ ?_
  rintro X ⟨b1, b2, b3, hkX⟩
  have HX := Lib.hid (And.intro b1 (And.intro b2 (And.intro b3 hkX)))
  obtain ⟨x0, x1, x2, x3, xf⟩ := cells4 b1
  obtain ⟨y0, y1, yf⟩ := cells2 b2
  clear b1 b2 b3
  have tt : (!true) = false := rfl
  go_wp2_with fail
  with_reducible refine (AL.out X hkX).mono ?_
  rintro e w1 ⟨rfl, k1⟩
  have z1 : w.heap.size + 1 + 1 < w1.heap.size := by have := k1.size; have := (Array.getElem?_eq_some_iff.1 HX.out.2.2.1).1; omega
  have B1 := Lib.hid (show w1.heap[w.heap.size]? = _ ∧ w1.heap[w.heap.size + 1]? = _ ∧ w1.heap[w.heap.size + 1 + 1]? = _ ∧ Keep (fun _ => False) w w1 from ⟨(k1.block _ (Array.getElem?_eq_some_iff.1 HX.out.1).1 (fun h => h)).trans HX.out.1, (k1.block _ (Array.getElem?_eq_some_iff.1 HX.out.2.1).1 (fun h => h)).trans HX.out.2.1, (k1.block _ (Array.getElem?_eq_some_iff.1 HX.out.2.2.1).1 (fun h => h)).trans HX.out.2.2.1, hkX.trans k1 (fun _ _ h => h)⟩)
  clear x0 x1 x2 x3 xf y0 y1 yf k1 hkX
  obtain ⟨x0, x1, x2, x3, xf⟩ := cells4 B1.out.1
  have x2' := ((Keep.refl (fun _ => False) w1).alloc (.cells #[] 3 (0, 0))).cell (fun h => h) x2
  go_wp2_with (first
    | (at_builtin; refine wpList_intA (by rfl) _ _ (by rfl) w1.heap.size _ 0 [] (by rfl) (own_zeroA _ _ _ _ _) _ ng (iv gens) (by rfl) ?_ (by omega) (by simp) ?_)
    | fail)
  · exact src_int ((GF.out.1.keep B1.out.2.2.2 (fun _ _ _ h => h)).keep ((Keep.refl _ w1).alloc _) (fun _ _ _ h => h))
  intro A6 c6 w6 ho6 hk6 hn6
  have k6 : Keep (fun _ => False) w1 w6 := ((Keep.refl (fun _ => False) w1).alloc (.cells #[] 3 (0, 0))).trans hk6 (fun b hb e => by cases e)
  have O6 := Lib.hid (show Own w6 w1.heap.size 3 1 (.slice A6 ng c6) ng (iv gens) from ho6)
  clear ho6 hk6 hn6 x2'
  have z6 := k6.size
  have B6 := Lib.hid (show w6.heap[w.heap.size]? = _ ∧ w6.heap[w.heap.size + 1]? = _ ∧ w6.heap[w.heap.size + 1 + 1]? = _ ∧ Keep (fun _ => False) w w6 from ⟨(k6.block _ (by omega) (fun h => h)).trans B1.out.1, (k6.block _ (by omega) (fun h => h)).trans B1.out.2.1, (k6.block _ (by omega) (fun h => h)).trans B1.out.2.2.1, B1.out.2.2.2.trans k6 (fun _ _ h => h)⟩)
  obtain ⟨gb, rfl, hgb1, hgb2, hc6, hown6⟩ := own_pos O6.out (by omega)
  clear x0 x1 x2 x3 xf k6
  obtain ⟨x0, x1, x2, x3, xf⟩ := cells4 B6.out.1
  go_upto_region 4 with fail
  have ky : Keep (fun b => b = w.heap.size) w6 (w6.setCell ⟨w.heap.size, 2, none⟩ (.slice (some ⟨gb, 0, none⟩) ng c6)) := Keep.setCell (p := ⟨w.heap.size, 2, none⟩) (Keep.refl (fun b => b = w.heap.size) w6) (.inr rfl) _
  refine wp_world (S := fun Y => Y.heap[w.heap.size]? = some (.cells #[.int .i64 ents, .int .i64 lim, .slice (some ⟨gb, 0, none⟩) ng c6, .slice Af nf cf] 93 (0, 0)) ∧ Y.heap[w.heap.size + 1]? = some (.cells #[.int .i64 (i : Int), .int .i64 x] 40 (0, 0)) ∧ Y.heap[w.heap.size + 1 + 1]? = some (.cells #[.int .i64 0, .int .i64 0, .slice none 0 0, .slice none 0 0] 93 (0, 0)) ∧ Keep (fun _ => False) w Y ∧ Own Y w1.heap.size 3 1 (.slice (some ⟨gb, 0, none⟩) ng c6) ng (iv gens) ∧ w6.heap.size ≤ Y.heap.size)
    ⟨heap_setCell_same w6 w.heap.size 2 _ _ _ B6.out.1, (ky.block _ (by omega) (fun h => by have : w.heap.size + 1 = w.heap.size := h; omega)).trans B6.out.2.1, (ky.block _ (by omega) (fun h => by have : w.heap.size + 1 + 1 = w.heap.size := h; omega)).trans B6.out.2.2.1, B6.out.2.2.2.trans ky (fun b hb h => by have : b = w.heap.size := h; omega), O6.out.keep ky (fun b e h => by have := (O6.out.ownB b e).1; have : b = w.heap.size := h; omega), ky.size⟩ ?_
  rintro Y ⟨h1, h2, h3, h4, h5, h6⟩
  have HY := Lib.hid (And.intro h1 (And.intro h2 (And.intro h3 (And.intro h4 h5))))
  clear x0 x1 x2 x3 xf ky
  obtain ⟨x0, x1, x2, x3, xf⟩ := cells4 h1
  obtain ⟨y0, y1, yf⟩ := cells2 h2
  obtain ⟨oc, ofz⟩ := h5.atG hc6
  have v0 := oc i _ HX0.out
  have vf := ofz i
  have i1 : (i : Int) < (ng : Int) := by omega
  have i0 : (0 : Int) ≤ (i : Int) := by omega
  clear h1 h2 h3 h4 h5 oc ofz
  go_upto_region 5 with fail
  have ky : Keep (fun b => b = gb) Y (Y.setCell ⟨gb, i, none⟩ (.int .i64 (x + 1))) := Keep.setCell (p := ⟨gb, i, none⟩) (Keep.refl (fun b => b = gb) Y) (.inr rfl) _
  refine wp_world (S := fun Z => Z.heap[w.heap.size]? = some (.cells #[.int .i64 ents, .int .i64 lim, .slice (some ⟨gb, 0, none⟩) ng c6, .slice Af nf cf] 93 (0, 0)) ∧ Z.heap[w.heap.size + 1]? = some (.cells #[.int .i64 (i : Int), .int .i64 x] 40 (0, 0)) ∧ Z.heap[w.heap.size + 1 + 1]? = some (.cells #[.int .i64 0, .int .i64 0, .slice none 0 0, .slice none 0 0] 93 (0, 0)) ∧ Keep (fun _ => False) w Z ∧ Own Z w1.heap.size 3 1 (.slice (some ⟨gb, 0, none⟩) ng c6) ng (iv (gens.set i (x + 1))) ∧ w6.heap.size ≤ Z.heap.size)
    ⟨(ky.block _ (by omega) (fun h => by have : w.heap.size = gb := h; omega)).trans HY.out.1, (ky.block _ (by omega) (fun h => by have : w.heap.size + 1 = gb := h; omega)).trans HY.out.2.1, (ky.block _ (by omega) (fun h => by have : w.heap.size + 1 + 1 = gb := h; omega)).trans HY.out.2.2.1, HY.out.2.2.2.1.trans ky (fun b hb h => by have : b = gb := h; omega), by rw [← iv_setA]; exact HY.out.2.2.2.2.setG hc6, Nat.le_trans h6 ky.size⟩ ?_
  rintro Z ⟨h1, h2, h3, h4, h5, h7⟩
  have HZ := Lib.hid (And.intro h1 (And.intro h2 (And.intro h3 (And.intro h4 h5))))
  clear x0 x1 x2 x3 xf y0 y1 yf v0 vf ky
  obtain ⟨x0, x1, x2, x3, xf⟩ := cells4 h1
  obtain ⟨y0, y1, yf⟩ := cells2 h2
  obtain ⟨z0, z2, z3, z4, zf⟩ := cells4 h3
  obtain ⟨oc, ofz⟩ := h5.atG hc6
  have v0 := oc i (.int .i64 (x + 1)) (by
    rw [← iv_setA, List.getElem?_set_self (by have := HNG.out; simp [iv]; omega)])
  clear h1 h2 h3 h4 h5 oc ofz
  have SX := Lib.hid (show ∀ W', Keep (fun _ => False) Z W' → (W'.cell? ⟨w.heap.size, 1, none⟩ = some (.int .i64 lim) ∧ W'.cell? ⟨w.heap.size, 2, none⟩ = some (.slice (some ⟨gb, 0, none⟩) ng c6) ∧ W'.cell? ⟨w.heap.size + 1, 0, none⟩ = some (.int .i64 (i : Int)) ∧ W'.cell? ⟨gb, i, none⟩ = some (.int .i64 (x + 1))) from fun W' hk => ⟨hk.cell (fun h => h) x1, hk.cell (fun h => h) x2, hk.cell (fun h => h) y0, hk.cell (fun h => h) v0⟩)
  go_region_held3 (fun W' => (W'.cell? ⟨w.heap.size, 1, none⟩ = some (.int .i64 lim) ∧ W'.cell? ⟨w.heap.size, 2, none⟩ = some (.slice (some ⟨gb, 0, none⟩) ng c6) ∧ W'.cell? ⟨w.heap.size + 1, 0, none⟩ = some (.int .i64 (i : Int)) ∧ W'.cell? ⟨gb, i, none⟩ = some (.int .i64 (x + 1)))) (exact SX.out _ (by exact (by repeat first | (with_reducible assumption) | (with_reducible exact Keep.refl _ _) | (with_reducible refine Keep.alloc ?_ _) | (with_reducible refine Keep.drew ?_) | (with_reducible refine Keep.drewN ?_ _) | (with_reducible refine Keep.setCell ?_ (.inl (by first | omega | (simp; done) | (simp; omega) | fail)) _)))) (fail)
  by_cases hlt : x + 1 < lim
  · go_upto_region 6 with fail
    refine wp_world (S := fun V => Keep (fun _ => False) Z V) (by exact (by repeat first | (with_reducible assumption) | (with_reducible exact Keep.refl _ _) | (with_reducible refine Keep.alloc ?_ _) | (with_reducible refine Keep.drew ?_) | (with_reducible refine Keep.drewN ?_ _) | (with_reducible refine Keep.setCell ?_ (.inl (by first | omega | (simp; done) | (simp; omega) | fail)) _))) ?_
    intro V kV
    have zV := kV.size
    have HV := Lib.hid (show V.heap[w.heap.size]? = _ ∧ V.heap[w.heap.size + 1]? = _ ∧ V.heap[w.heap.size + 1 + 1]? = _ ∧ Keep (fun _ => False) w V ∧ Own V w1.heap.size 3 1 (.slice (some ⟨gb, 0, none⟩) ng c6) ng (iv (gens.set i (x + 1))) from ⟨(kV.block _ (by omega) (fun h => h)).trans HZ.out.1, (kV.block _ (by omega) (fun h => h)).trans HZ.out.2.1, (kV.block _ (by omega) (fun h => h)).trans HZ.out.2.2.1, HZ.out.2.2.2.1.trans kV (fun _ _ h => h), HZ.out.2.2.2.2.keep kV (fun _ _ h => h)⟩)
    clear x0 x1 x2 x3 xf y0 y1 yf z0 z2 z3 z4 zf v0 kV
    obtain ⟨x0, x1, x2, x3, xf⟩ := cells4 HV.out.1
    obtain ⟨y0, y1, yf⟩ := cells2 HV.out.2.1
    have AV := Lib.hid (show ∀ W', Keep (fun _ => False) V W' → W'.heap[w.heap.size]? = some (.cells #[.int .i64 ents, .int .i64 lim, .slice (some ⟨gb, 0, none⟩) ng c6, .slice Af nf cf] 93 (0, 0)) ∧ W'.heap[w.heap.size + 1]? = some (.cells #[.int .i64 (i : Int), .int .i64 x] 40 (0, 0)) from fun W' hk => ⟨(hk.block _ (by omega) (fun h => h)).trans HV.out.1, (hk.block _ (by omega) (fun h => h)).trans HV.out.2.1⟩)
    have x3a : ∀ o, (V.alloc o).cell? ⟨w.heap.size, 3, none⟩ = some (.slice Af nf cf) := fun o => ((Keep.refl (fun _ => False) V).alloc o).cell (fun h => h) x3
    have y0a : ∀ o, (V.alloc o).cell? ⟨w.heap.size + 1, 0, none⟩ = some (.int .i64 (i : Int)) := fun o => ((Keep.refl (fun _ => False) V).alloc o).cell (fun h => h) y0
    have x3b : ∀ o o', ((V.alloc o).alloc o').cell? ⟨w.heap.size, 3, none⟩ = some (.slice Af nf cf) := fun o o' => (((Keep.refl (fun _ => False) V).alloc o).alloc o').cell (fun h => h) x3
    go_cut [5] (fun t wx => t = .int .i64 0 ∧ Hid (∃ B d, wx.heap[w.heap.size]? = some (.cells #[.int .i64 ents, .int .i64 lim, .slice (some ⟨gb, 0, none⟩) ng c6, .slice B (nf + 1) d] 93 (0, 0)) ∧ wx.heap[w.heap.size + 1 + 1]? = some (.cells #[.int .i64 0, .int .i64 0, .slice none 0 0, .slice none 0 0] 93 (0, 0)) ∧ Keep (fun _ => False) w wx ∧ Own wx w1.heap.size 3 1 (.slice (some ⟨gb, 0, none⟩) ng c6) ng (iv (gens.set i (x + 1))) ∧ Own wx w6.heap.size 3 1 (.slice B (nf + 1) d) (nf + 1) (iv (free ++ [(i : Int)]))))
    case first =>
      go_region_law (first
        | (refine step_intA (by rfl) _ _ (by rfl) V.heap.size _ 0 [] (by rfl) (own_zeroA _ _ _ _ _) _ nf (iv free) (by rfl) (src_int (GF.out.2.keep (HV.out.2.2.2.1.trans (T := fun _ => False) (by exact (by repeat first | (with_reducible assumption) | (with_reducible exact Keep.refl _ _) | (with_reducible refine Keep.alloc ?_ _) | (with_reducible refine Keep.drew ?_) | (with_reducible refine Keep.drewN ?_ _) | (with_reducible refine Keep.setCell ?_ (.inl (by first | omega | (simp; done) | (simp; omega) | fail)) _))) (fun _ _ h => h)) (fun _ _ _ h => h))) (by omega) (by first | omega | (simp; done) | (simp; omega)) ?_; intro A8 c8 w8 ho8 hk8 hn8; have kV8 : Keep (fun _ => False) V w8 := Keep.trans (T := fun _ => False) (by exact (by repeat first | (with_reducible assumption) | (with_reducible exact Keep.refl _ _) | (with_reducible refine Keep.alloc ?_ _) | (with_reducible refine Keep.drew ?_) | (with_reducible refine Keep.drewN ?_ _) | (with_reducible refine Keep.setCell ?_ (.inl (by first | omega | (simp; done) | (simp; omega) | fail)) _))) (hk8.mono (fun _ _ e => by cases e)) (fun _ _ h => h); have KV8 := Lib.hid kV8; have L8 := Lib.hid (hk8.mono (T := fun _ => False) (fun _ _ e => by cases e)); have O8 := Lib.hid (show Own w8 V.heap.size 3 1 (.slice A8 nf c8) nf (iv free) from by simpa using ho8); obtain ⟨y0', y1', yf'⟩ := cells2 (AV.out w8 kV8).2; obtain ⟨x0', x1', x2', x3', xf'⟩ := cells4 (AV.out w8 kV8).1; clear ho8 hk8 hn8 kV8)
        | (go_loud (refine step_intA (by rfl) _ _ (by rfl) V.heap.size _ nf (iv free) (by rfl) (O8.out.keep (S := fun _ => False) (by exact (by repeat first | (with_reducible assumption) | (with_reducible exact Keep.refl _ _) | (with_reducible refine Keep.alloc ?_ _) | (with_reducible refine Keep.drew ?_) | (with_reducible refine Keep.drewN ?_ _) | (with_reducible refine Keep.setCell ?_ (.inl (by first | omega | (simp; done) | (simp; omega) | fail)) _))) (fun _ _ h => h)) _ 1 (iv [(i : Int)]) (by rfl) (src_at Tryz.underlying25 (x := .int .i64 (i : Int)) rfl (by first
            | exact lit0 _ _ (by first | rfl | (simp; done))
            | (rw [World.cell?_drew]; exact lit0 _ _ (by first | rfl | (simp; done)))
            | exact L8.out.cell (fun h => h) (lit0 _ _ (by first | rfl | (simp; done)))
            | exact L8.out.cell (fun h => h) (((Keep.refl (fun _ => False) _).alloc _).cell (fun h => h) (lit0 _ _ (by first | rfl | (simp; done))))
            | (rw [World.cell?_drew]; exact L8.out.cell (fun h => h) (lit0 _ _ (by first | rfl | (simp; done))))
            | (rw [World.cell?_drew]; exact L8.out.cell (fun h => h) (((Keep.refl (fun _ => False) _).alloc _).cell (fun h => h) (lit0 _ _ (by first | rfl | (simp; done))))))) (by omega) (by (try simp); have := KV8.out.size; omega) ?_); intro A9 c9 w9 ho9 hk9 hn9; go_loud (have K89 := Lib.hid (show Keep (fun k => ownB (Value.slice A8 nf c8) = some k) w8 w9 from Keep.trans (T := fun k => ownB (Value.slice A8 nf c8) = some k) (by exact (by repeat first | (with_reducible assumption) | (with_reducible exact Keep.refl _ _) | (with_reducible refine Keep.alloc ?_ _) | (with_reducible refine Keep.drew ?_) | (with_reducible refine Keep.drewN ?_ _) | (with_reducible refine Keep.setCell ?_ (.inl (by first | omega | (simp; done) | (simp; omega) | fail)) _))) hk9 (fun _ _ h => h)); have KV9 := Lib.hid (show Keep (fun _ => False) V w9 from KV8.out.trans K89.out (fun b hb e => by have := (O8.out.ownB b e).1; omega)); have O9 := Lib.hid (show Own w9 V.heap.size 3 1 (.slice A9 (nf + 1) c9) (nf + 1) (iv (free ++ [(i : Int)])) from by rw [show iv (free ++ [(i : Int)]) = iv free ++ iv [(i : Int)] by simp [iv]]; exact ho9); obtain ⟨u0, u1, u2, u3, uf⟩ := cells4 (AV.out w9 KV9.out).1; clear ho9 hk9 hn9))
        | fail)
      all_goals
        go_wp2_with fail
        go_meet
        refine ⟨by rfl, Lib.hid ?_⟩
        refine ⟨A9, c9, heap_setCell_same w9 w.heap.size 3 _ _ _ (AV.out w9 KV9.out).1, ?_, ?_, ?_, ?_⟩
        · exact (((KV9.out.mono (T := fun b => b = w.heap.size) (fun _ _ h => h.elim)).trans (Keep.setCell (p := ⟨w.heap.size, 3, none⟩) (Keep.refl (fun b => b = w.heap.size) w9) (.inr rfl) _) (fun _ _ h => h)).block _ (by omega) (fun h => by have : w.heap.size + 1 + 1 = w.heap.size := h; omega)).trans HV.out.2.2.1
        · exact HV.out.2.2.2.1.trans ((KV9.out.mono (T := fun b => b = w.heap.size) (fun _ _ h => h.elim)).trans (Keep.setCell (p := ⟨w.heap.size, 3, none⟩) (Keep.refl (fun b => b = w.heap.size) w9) (.inr rfl) _) (fun _ _ h => h)) (fun b hb h => by have : b = w.heap.size := h; omega)
        · exact HV.out.2.2.2.2.keep ((KV9.out.mono (T := fun b => b = w.heap.size) (fun _ _ h => h.elim)).trans (Keep.setCell (p := ⟨w.heap.size, 3, none⟩) (Keep.refl (fun b => b = w.heap.size) w9) (.inr rfl) _) (fun _ _ h => h)) (fun b e h => by have := (HV.out.2.2.2.2.ownB b e).1; have : b = w.heap.size := h; omega)
        · exact (O9.out.keep (Keep.setCell (p := ⟨w.heap.size, 3, none⟩) (Keep.refl (fun b => b = w.heap.size) w9) (.inr rfl) _) (fun b e h => by have := (O9.out.ownB b e).1; have : b = w.heap.size := h; omega)).mono (by omega)
    case rest =>
      obtain ⟨rfl, hend⟩ := hcut
      obtain ⟨B, d, e1, e2, e3, e4, e5⟩ := hend.out
      clear x0 x1 x2 x3 xf y0 y1 yf x3a y0a x3b
      obtain ⟨x0, x1, x2, x3, xf⟩ := cells4 e1
      obtain ⟨z0, z2, z3, z4, zf⟩ := cells4 e2
      go_wp2
      have k4 := keep4 wc (w.heap.size + 1 + 1) (.int .i64 ents) (.int .i64 lim) (.slice (some ⟨gb, 0, none⟩) ng c6) (.slice B (nf + 1) d)
      refine bodyPost_ret (results_in2 Tryz.results110 _ _ (w.heap.size + 1 + 1) (.int .i64 ents) (.int .i64 lim) (.slice (some ⟨gb, 0, none⟩) ng c6) (.slice B (nf + 1) d) ?_ ?_ (.int .i64 0) ?_) ?_ ⟨some ⟨gb, 0, none⟩, c6, B, d, ?_, ?_, ?_, ?_⟩
      · rfl
      · exact heap_4J e2 _ _ _ _
      · rfl
      · rfl
      · rw [HNF.out]
      · exact (e4.sl.keep k4 (fun b _ h e => by have : b = w.heap.size + 1 + 1 := e; have : w1.heap.size ≤ b := h; omega)).mono (fun b _ h => by have : w1.heap.size ≤ b := h; omega)
      · rw [HNF.out]
        exact (e5.sl.keep k4 (fun b _ h e => by have : b = w.heap.size + 1 + 1 := e; have : w6.heap.size ≤ b := h; omega)).mono (fun b _ h => .inr (by have : w6.heap.size ≤ b := h; omega))
      · exact e3.trans k4 (fun b hb h => by have : b = w.heap.size + 1 + 1 := h; omega)
  · go_upto_region 7 with fail
    refine wp_world (S := fun V => Keep (fun _ => False) Z V) (by exact (by repeat first | (with_reducible assumption) | (with_reducible exact Keep.refl _ _) | (with_reducible refine Keep.alloc ?_ _) | (with_reducible refine Keep.drew ?_) | (with_reducible refine Keep.drewN ?_ _) | (with_reducible refine Keep.setCell ?_ (.inl (by first | omega | (simp; done) | (simp; omega) | fail)) _))) ?_
    intro V kV
    have zV := kV.size
    have HV := Lib.hid (show V.heap[w.heap.size]? = _ ∧ V.heap[w.heap.size + 1]? = _ ∧ V.heap[w.heap.size + 1 + 1]? = _ ∧ Keep (fun _ => False) w V ∧ Own V w1.heap.size 3 1 (.slice (some ⟨gb, 0, none⟩) ng c6) ng (iv (gens.set i (x + 1))) from ⟨(kV.block _ (by omega) (fun h => h)).trans HZ.out.1, (kV.block _ (by omega) (fun h => h)).trans HZ.out.2.1, (kV.block _ (by omega) (fun h => h)).trans HZ.out.2.2.1, HZ.out.2.2.2.1.trans kV (fun _ _ h => h), HZ.out.2.2.2.2.keep kV (fun _ _ h => h)⟩)
    clear x0 x1 x2 x3 xf y0 y1 yf z0 z2 z3 z4 zf v0 kV
    obtain ⟨x0, x1, x2, x3, xf⟩ := cells4 HV.out.1
    obtain ⟨z0, z2, z3, z4, zf⟩ := cells4 HV.out.2.2.1
    go_wp2
    have k4 := keep4 V (w.heap.size + 1 + 1) (.int .i64 ents) (.int .i64 lim) (.slice (some ⟨gb, 0, none⟩) ng c6) (.slice Af nf cf)
    refine bodyPost_ret (results_in2 Tryz.results110 _ _ (w.heap.size + 1 + 1) (.int .i64 ents) (.int .i64 lim) (.slice (some ⟨gb, 0, none⟩) ng c6) (.slice Af nf cf) ?_ ?_ (.int .i64 0) ?_) ?_ ⟨some ⟨gb, 0, none⟩, c6, Af, cf, ?_, ?_, ?_, ?_⟩
    · rfl
    · exact heap_4J HV.out.2.2.1 _ _ _ _
    · rfl
    · rfl
    · rw [HNF.out]
    · exact (HV.out.2.2.2.2.sl.keep k4 (fun b _ h e => by have : b = w.heap.size + 1 + 1 := e; have : w1.heap.size ≤ b := h; omega)).mono (fun b _ h => by have : w1.heap.size ≤ b := h; omega)
    · rw [HNF.out]
      exact ((GF.out.2.mono (G := fun b => F b ∧ b < w.heap.size) (fun b hb h => ⟨h, hb⟩)).keep (HV.out.2.2.2.1.trans k4 (fun b hb h => by have : b = w.heap.size + 1 + 1 := h; omega)) (fun _ _ _ h => h)).mono (fun b _ h => .inl h)
    · exact HV.out.2.2.2.1.trans k4 (fun b hb h => by have : b = w.heap.size + 1 + 1 := h; omega)
end Go.Proofs.YtglliendhbkkhaaGreatDoor

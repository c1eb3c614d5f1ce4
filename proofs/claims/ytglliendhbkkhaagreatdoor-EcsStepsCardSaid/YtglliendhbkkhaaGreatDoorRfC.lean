/- Contract of vivariumref11.Spawn. -/
import Derived.Test.YtglliendhbkkhaaGreatDoorRfB
import Derived.Test.YtglliendhbkkhaaGreatDoorRf9
namespace Go.Proofs.YtglliendhbkkhaaGreatDoor
open Go.RowKit
set_option maxRecDepth 100000
set_option linter.unusedVariables false
set_option linter.unusedSimpArgs false

theorem results_sp {fn : Func} {p q t : Tmp} (h : fn.results = #[.cell p 28, .cell q 40, .tmp t]) (tmps : Array Value) (w : World) (g gq : Nat) (c0 c1 c2 d0 d1 : Value)
    (hp : tmps.getD p undef = .pointer (some ⟨g, 0, none⟩)) (hg : w.heap[g]? = some (.cells #[c0, c1, c2] 28 (0, 0)))
    (hq : tmps.getD q undef = .pointer (some ⟨gq, 0, none⟩)) (hgq : w.heap[gq]? = some (.cells #[d0, d1] 40 (0, 0))) (b : Value) (hb : tmps.getD t undef = b) : (results fn tmps).run Tryz.prog w = .ok (.tuple #[.agg #[c0, c1, c2], .agg #[d0, d1], b]) w := by
  have hr := run_loadVar_row (P := Tryz.prog) w g 28 28 #[c0, c1, c2] (0, 0) _ hg under_stE rfl size_stE
  have hr2 := run_loadVar_row (P := Tryz.prog) w gq 40 40 #[d0, d1] (0, 0) _ hgq under_id rfl size_id
  have e : (results fn tmps).run Tryz.prog w = ((asAddr (tmps.getD p undef)).run Tryz.prog w).andThen fun a w₁ => ((loadVar 28 a).run Tryz.prog w₁).andThen fun v w₂ => ((asAddr (tmps.getD q undef)).run Tryz.prog w₂).andThen fun a w₃ => ((loadVar 40 a).run Tryz.prog w₃).andThen fun v2 w₄ => .ok (.tuple #[v, v2, tmps.getD t undef]) w₄ := by
    simp only [results, h]
    simp [Sem.run_bind, Result.andThen]
  rw [e, hp, hq, hb]
  simp [asAddr, hr, hr2]
theorem Sl.front {w : World} {F : Nat → Prop} {A : Option Addr} {n c m : Nat} {xs : List Value} (h : Sl w F 1 (.slice A n c) n xs) (hm : m ≤ n) : Sl w F 1 (.slice A m c) m (xs.take m) := by
  obtain ⟨A1, c1, e, h1, h2, h3, hr⟩ := h
  injection e with e1 e2 e3
  subst e1 e3
  have := hr.piece (size := 1) (lo := 0) (hi := m) (by omega) (by omega) (A' := A) (fun b off e _ => by rw [e]; simp)
  rw [Nat.zero_mul, List.drop_zero, Nat.sub_zero, Nat.mul_one] at this
  exact ⟨A, c, rfl, by omega, h2, h3, by rw [Nat.mul_one]; exact this⟩
/-- What Take tells, in the document's words. -/
def TkPost (ents lim : Int) (G2 Fr : List Int) (id : IdZ) (er : Int) (F : Nat → Prop) (w X : World) (e : Ending) (w' : World) : Prop :=
  ∃ A ca B cb, e = .returned (.tuple #[inV ents lim (.slice A G2.length ca) (.slice B Fr.length cb), .agg #[.int .i64 id.ix, .int .i64 id.gen], .int .i64 er]) ∧ Sl w' (fun b => FL F w b ∨ X.heap.size ≤ b) 1 (.slice A G2.length ca) G2.length (iv G2) ∧ Sl w' (fun b => FL F w b ∨ X.heap.size ≤ b) 1 (.slice B Fr.length cb) Fr.length (iv Fr) ∧ Keep (fun _ => False) X w'
theorem r6_take (ents lim : Int) (s : SZ) (g f : Value) (F : Nat → Prop) (w : World) (hg : Sl w F 1 g s.gens.length (iv s.gens)) (hf : Sl w F 1 f s.free.length (iv s.free)) (hn : s.gens.length ≤ 1000000) (hfr : ∀ i, s.free.getLast? = some i → ∃ k : Nat, i = (k : Int) ∧ k < s.gens.length) :
    ∃ G2 Fr id er, (er = 0 → spawnR ents s = (⟨G2, Fr, insI id s.ents⟩, id, 0)) ∧ (er ≠ 0 → spawnR ents s = (s, ⟨0, 0⟩, er)) ∧ ∀ X, Keep (fun _ => False) w X → Calls Tryz.prog 114 #[inV ents lim g f] X (TkPost ents lim G2 Fr id er F w X) := by
  have g0 : Sl w (FL F w) 1 g s.gens.length (iv s.gens) := hg.mono (fun b hb h => ⟨h, hb⟩)
  have f0 : Sl w (FL F w) 1 f s.free.length (iv s.free) := hf.mono (fun b hb h => ⟨h, hb⟩)
  obtain ⟨Ag, cg, eg, -⟩ := id hg
  obtain ⟨Af, cf, ef, -⟩ := id hf
  cases hl : s.free.getLast? with
  | some i =>
    obtain ⟨k, rfl, hk⟩ := hfr i hl
    have hne : s.free ≠ [] := fun e => by rw [e] at hl; cases hl
    have hpos : 0 < s.free.length := List.length_pos_iff.2 hne
    obtain ⟨m, hm⟩ : ∃ m, s.free.length = m + 1 := ⟨s.free.length - 1, by omega⟩
    have hd : s.free.dropLast = s.free.take m := by rw [List.dropLast_eq_take]; congr 1; omega
    have hgd : s.free.getD m 0 = (k : Int) := by
      rw [List.getLast?_eq_getElem?] at hl
      rw [List.getD_eq_getElem?_getD, show m = s.free.length - 1 by omega, hl]; rfl
    have hdl : s.free.dropLast.length = m := by rw [List.length_dropLast]; omega
    refine ⟨s.gens, s.free.dropLast, ⟨(k : Int), s.gens.getD k 0⟩, 0, fun _ => ?_, fun h => absurd rfl h, fun X hk' => ?_⟩
    · unfold spawnR
      rw [hl]
      dsimp only
      rw [Int.toNat_natCast]
    · refine (r6_take_free ents lim s.gens s.free g f (FL F w) (m + 1) m k X (g0.keep hk' (fun _ _ _ h => h)) (f0.keep hk' (fun _ _ _ h => h)) hm rfl hgd hk).mono ?_
      rintro e w' ⟨A, c, e1, rfl, h2⟩
      subst eg
      refine ⟨Ag, cg, A, c, ?_, ((g0.keep hk' (fun _ _ _ h => h)).keep h2 (fun _ _ _ h => h)).mono (fun b _ h => .inl h), ?_, h2⟩
      · rw [hdl]
      · rw [hdl, hd]
        have := ((f0.keep hk' (fun _ _ _ h => h)).keep h2 (fun _ _ _ h => h)).mono (G := fun b => FL F w b ∨ X.heap.size ≤ b) (fun b _ h => .inl h)
        rw [e1, hm] at this
        have h9 := this.front (m := m) (by omega)
        have e9 : (iv s.free).take m = iv (s.free.take m) := by unfold iv; rw [List.map_take]
        rw [e9] at h9
        exact h9
  | none =>
    have he : s.free = [] := List.getLast?_eq_none_iff.1 hl
    have hl0 : s.free.length = 0 := by rw [he]; rfl
    rw [hl0] at ef
    subst eg ef
    by_cases hen : (s.gens.length : Int) = ents
    · refine ⟨s.gens, s.free, ⟨0, 0⟩, 9, fun h => absurd h (by decide), fun _ => ?_, fun X hk' => ?_⟩
      · unfold spawnR
        rw [hl]
        dsimp only
        rw [if_pos hen]
      · refine (r6_take_full ents lim s.gens _ Af cf (FL F w) X (g0.keep hk' (fun _ _ _ h => h)) hen).mono ?_
        rintro e w' ⟨rfl, h2⟩
        refine ⟨Ag, cg, Af, cf, by rw [hl0], ((g0.keep hk' (fun _ _ _ h => h)).keep h2 (fun _ _ _ h => h)).mono (fun b _ h => .inl h), ?_, h2⟩
        have := ((f0.keep hk' (fun _ _ _ h => h)).keep h2 (fun _ _ _ h => h)).mono (G := fun b => FL F w b ∨ X.heap.size ≤ b) (fun b _ h => .inl h)
        rw [hl0] at this ⊢
        exact this
    · refine ⟨s.gens ++ [0], s.free, ⟨(s.gens.length : Int), 0⟩, 0, fun _ => ?_, fun h => absurd rfl h, fun X hk' => ?_⟩
      · unfold spawnR
        rw [hl]
        dsimp only
        rw [if_neg hen]
      · refine (r6_take_new ents lim s.gens _ Af cf (FL F w) X (g0.keep hk' (fun _ _ _ h => h)) hn hen).mono ?_
        rintro e w' ⟨A, c, rfl, h1, h2⟩
        have h2' := Keep.of_below' h2
        refine ⟨A, c, Af, cf, by rw [hl0, List.length_append]; rfl, ?_, ?_, h2'⟩
        · rw [List.length_append]; exact h1.mono (fun b _ h => .inr h)
        · have := ((f0.keep hk' (fun _ _ _ h => h)).keep h2' (fun _ _ _ h => h)).mono (G := fun b => FL F w b ∨ X.heap.size ≤ b) (fun b _ h => .inl h)
          rw [hl0] at this ⊢
          exact this
theorem litE (W : World) (a b : Int) (P : List PtZ) (q : Value) (e : TypeId) : ∀ j u, (entN.cells (⟨⟨a, b⟩, P⟩, q))[j]? = some u → (W.alloc (.cells #[.int .i64 a, .int .i64 b, q] e (0, 0))).cell? ⟨W.heap.size, j, none⟩ = some u := lit_cells W e [.int .i64 a, .int .i64 b, q]
def SP (F : Nat → Prop) (w X : World) (b : Nat) : Prop := FL F w b ∨ X.heap.size ≤ b
/-- What stands ahead of a return of a state and a name. -/
def SpEnd (w : World) (F : Nat → Prop) (p pi : Nat) (s : SZ) (id : IdZ) (W : World) : Prop :=
  ∃ A1 n1 c1 A2 n2 c2 A3 n3 c3, W.heap[p]? = some (.cells #[.slice A1 n1 c1, .slice A2 n2 c2, .slice A3 n3 c3] 28 (0, 0)) ∧ StM W (SF F w) (.agg #[.slice A1 n1 c1, .slice A2 n2 c2, .slice A3 n3 c3]) s ∧ W.heap[pi]? = some (.cells #[.int .i64 id.ix, .int .i64 id.gen] 40 (0, 0)) ∧ Keep (fun _ => False) w W
section
variable {w X W : World} {F : Nat → Prop} {p pi : Nat} {s : SZ} {id : IdZ} {A1 A2 A3 : Option Addr} {n1 c1 n2 c2 n3 c3 : Nat} {x y z a b : Value}
theorem SpEnd.drew (h : SpEnd w F p pi s id W) : SpEnd w F p pi s id W.drew := by
  obtain ⟨A1, n1, c1, A2, n2, c2, A3, n3, c3, h1, h2, h4, h3⟩ := h
  exact ⟨A1, n1, c1, A2, n2, c2, A3, n3, c3, by rw [heap_drew']; exact h1, h2.same ((Keep.refl _ W).drew), by rw [heap_drew']; exact h4, h3.drew⟩
theorem SpEnd.mk (h : StM W (SP F w X) (.agg #[.slice A1 n1 c1, .slice A2 n2 c2, .slice A3 n3 c3]) s) (hb : W.heap[p]? = some (.cells #[x, y, z] 28 (0, 0))) (hb2 : W.heap[pi]? = some (.cells #[a, b] 40 (0, 0))) (hk : Keep (fun _ => False) w W) (hp : w.heap.size ≤ p) (hpi : p < pi) (hX : pi < X.heap.size) :
    SpEnd w F p pi s id (((((W.setCell ⟨p, 0, none⟩ (.slice A1 n1 c1)).setCell ⟨p, 1, none⟩ (.slice A2 n2 c2)).setCell ⟨p, 2, none⟩ (.slice A3 n3 c3)).setCell ⟨pi, 0, none⟩ (.int .i64 id.ix)).setCell ⟨pi, 1, none⟩ (.int .i64 id.gen)) := by
  have k3 := keep3R W p (.slice A1 n1 c1) (.slice A2 n2 c2) (.slice A3 n3 c3)
  have k2 := keep2 (((W.setCell ⟨p, 0, none⟩ (.slice A1 n1 c1)).setCell ⟨p, 1, none⟩ (.slice A2 n2 c2)).setCell ⟨p, 2, none⟩ (.slice A3 n3 c3)) pi (.int .i64 id.ix) (.int .i64 id.gen)
  have h3 := heap_3J hb (.slice A1 n1 c1) (.slice A2 n2 c2) (.slice A3 n3 c3)
  have hpl := (Array.getElem?_eq_some_iff.1 hb2).1
  have h2 := (k3.block pi hpl (fun e => by have : pi = p := e; omega)).trans hb2
  have nb : ∀ b, SP F w X b → b ≠ p ∧ b ≠ pi := fun b h => h.elim (fun h => by have := h.2; omega) (fun h => by omega)
  refine ⟨A1, n1, c1, A2, n2, c2, A3, n3, c3, (k2.block p (Array.getElem?_eq_some_iff.1 h3).1 (fun e => by have : p = pi := e; omega)).trans h3, ?_, heap_twoJ h2 _ _, ?_⟩
  · exact ((h.keep k3 (fun b _ h e => (nb b h).1 e)).keep k2 (fun b _ h e => (nb b h).2 e)).mono (fun b _ h => h.elim .inl (fun h => .inr (by omega)))
  · exact (hk.trans k3 (fun b hb h => by have : b = p := h; omega)).trans k2 (fun b hb h => by have : b = pi := h; omega)
theorem SpEnd.mk' (h : StM W (SP F w X) (.agg #[.slice A1 n1 c1, .slice A2 n2 c2, .slice A3 n3 c3]) s) (hb : W.heap[p]? = some (.cells #[x, y, z] 28 (0, 0))) (hb2 : W.heap[pi]? = some (.cells #[a, b] 40 (0, 0))) (hk : Keep (fun _ => False) w W) (hp : w.heap.size ≤ p) (hpi : p < pi) (hX : pi < X.heap.size) :
    SpEnd w F p pi s id (((((W.setCell ⟨pi, 0, none⟩ (.int .i64 id.ix)).setCell ⟨pi, 1, none⟩ (.int .i64 id.gen)).setCell ⟨p, 0, none⟩ (.slice A1 n1 c1)).setCell ⟨p, 1, none⟩ (.slice A2 n2 c2)).setCell ⟨p, 2, none⟩ (.slice A3 n3 c3)) := by
  have k2 := keep2 W pi (.int .i64 id.ix) (.int .i64 id.gen)
  have k3 := keep3R ((W.setCell ⟨pi, 0, none⟩ (.int .i64 id.ix)).setCell ⟨pi, 1, none⟩ (.int .i64 id.gen)) p (.slice A1 n1 c1) (.slice A2 n2 c2) (.slice A3 n3 c3)
  have h2 := heap_twoJ hb2 (.int .i64 id.ix) (.int .i64 id.gen)
  have hpl := (Array.getElem?_eq_some_iff.1 hb).1
  have h3 := (k2.block p hpl (fun e => by have : p = pi := e; omega)).trans hb
  have nb : ∀ b, SP F w X b → b ≠ p ∧ b ≠ pi := fun b h => h.elim (fun h => by have := h.2; omega) (fun h => by omega)
  refine ⟨A1, n1, c1, A2, n2, c2, A3, n3, c3, heap_3J h3 _ _ _, ?_, (k3.block pi (Array.getElem?_eq_some_iff.1 h2).1 (fun e => by have : pi = p := e; omega)).trans h2, ?_⟩
  · exact ((h.keep k2 (fun b _ h e => (nb b h).2 e)).keep k3 (fun b _ h e => (nb b h).1 e)).mono (fun b _ h => h.elim .inl (fun h => .inr (by omega)))
  · exact (hk.trans k2 (fun b hb h => by have : b = pi := h; omega)).trans k3 (fun b hb h => by have : b = p := h; omega)
end
set_option maxHeartbeats 4000000 in
theorem r11_spawn (c : Cf) (uc : Value) (G : Nat → Prop) (s : SZ) (u : Value) (F : Nat → Prop) (w : World) (hc : CL w G uc c.l) (hu : StM w F u s) (h24 : s.ents.length ≤ 1024) (hgl : s.gens.length ≤ 1000000) (hfr : ∀ i, s.free.getLast? = some i → ∃ k : Nat, i = (k : Int) ∧ k < s.gens.length) :
    Calls Tryz.prog 63 #[confV c uc, u] w fun e w' => ∃ u', e = .returned (.tuple #[u', .agg #[.int .i64 (spawnR c.ents s).2.1.ix, .int .i64 (spawnR c.ents s).2.1.gen], .int .i64 (spawnR c.ents s).2.2]) ∧ StM w' (SF F w) u' (spawnR c.ents s).1 ∧ Keep (fun _ => False) w w' := by
  obtain ⟨Au, cu, rfl, -⟩ := hc
  obtain ⟨A1, c1, A2, c2, A3, c3, rfl, h1, h2, h3, h4, h5, h6, g1, g2, g3⟩ := hu.form
  have HU := Lib.hid hu
  have HE := Lib.hid (show NS entN w (FL F w) (.slice A3 s.ents.length c3) s.ents from g3.mono (fun b hb h => ⟨h, hb⟩))
  have NM := Lib.hid (fun X => r11_names c Au A1 A2 A3 c.l.length cu s.gens.length c1 s.free.length c2 s.ents.length c3 X)
  obtain ⟨G2, Fr, ⟨ix, gn⟩, er, R0, R1, TK0⟩ := r6_take c.ents c.gens s _ _ F w g1 g2 hgl hfr
  have TK := Lib.hid TK0
  obtain ⟨R, hR⟩ : ∃ R, spawnR c.ents s = R := ⟨_, rfl⟩
  rw [hR] at R0 R1 ⊢
  have HR0 := Lib.hid R0
  have HR1 := Lib.hid R1
  unfold TkPost at TK
  unfold inV at TK NM
  unfold maxLen at *
  unfold confV at *
  generalize c.l.length = nl at *
  obtain ⟨n, hn⟩ : ∃ n, s.ents.length = n := ⟨_, rfl⟩
  have HN := Lib.hid hn
  rw [hn] at HE h5 HU h24 NM ⊢
  clear hn hR hu g1 g2 g3 h1 h2 h3 h4 hgl hfr R0 R1 TK0
  generalize s.gens.length = n1 at *
  generalize s.free.length = n2 at *
  go_enter Tryz.func63, Tryz.ntmps63
  go_upto_region 1 with fail
  refine wp_world (S := fun X => X.heap[w.heap.size]? = some (.cells #[.int .i64 c.log, .int .i64 c.pages, .int .i64 c.ents, .int .i64 c.gens, .slice Au nl cu] 24 (0, 0)) ∧ X.heap[w.heap.size + 1]? = some (.cells #[.slice A1 n1 c1, .slice A2 n2 c2, .slice A3 n c3] 28 (0, 0)) ∧ X.heap[w.heap.size + 1 + 1]? = some (.cells #[.slice none 0 0, .slice none 0 0, .slice none 0 0] 28 (0, 0)) ∧ X.heap[w.heap.size + 1 + 1 + 1]? = some (.cells #[.int .i64 0, .int .i64 0] 40 (0, 0)) ∧ Keep (fun _ => False) w X) ⟨(by (try simp only [heap_drew']); (try simp only [World.heap_drewN]); repeat (first | exact heap_alloc_at _ _ _ (by first | rfl | simp) | rw [Below.heap_alloc _ _ _ (by first | (simp; done) | (simp; omega))])), (by (try simp only [heap_drew']); (try simp only [World.heap_drewN]); repeat (first | exact heap_alloc_at _ _ _ (by first | rfl | simp) | rw [Below.heap_alloc _ _ _ (by first | (simp; done) | (simp; omega))])), (by (try simp only [heap_drew']); (try simp only [World.heap_drewN]); repeat (first | exact heap_alloc_at _ _ _ (by first | rfl | simp) | rw [Below.heap_alloc _ _ _ (by first | (simp; done) | (simp; omega))])), (by (try simp only [heap_drew']); (try simp only [World.heap_drewN]); repeat (first | exact heap_alloc_at _ _ _ (by first | rfl | simp) | rw [Below.heap_alloc _ _ _ (by first | (simp; done) | (simp; omega))])), by exact (by repeat first | (with_reducible assumption) | (with_reducible exact Keep.refl _ _) | (with_reducible refine Keep.alloc ?_ _) | (with_reducible refine Keep.drew ?_) | (with_reducible refine Keep.drewN ?_ _) | (with_reducible refine Keep.setCell ?_ (.inl (by first | omega | (simp; done) | (simp; omega) | fail)) _))⟩ ?_
  rintro X ⟨b1, b2, b3, b4, hkX⟩
  have zX : w.heap.size + 1 + 1 + 1 < X.heap.size := (Array.getElem?_eq_some_iff.1 b4).1
  have AT := Lib.hid (show ∀ Y, Keep (fun b => X.heap.size ≤ b) X Y → Y.heap[w.heap.size]? = some (.cells #[.int .i64 c.log, .int .i64 c.pages, .int .i64 c.ents, .int .i64 c.gens, .slice Au nl cu] 24 (0, 0)) ∧ Y.heap[w.heap.size + 1]? = some (.cells #[.slice A1 n1 c1, .slice A2 n2 c2, .slice A3 n c3] 28 (0, 0)) ∧ Y.heap[w.heap.size + 1 + 1]? = some (.cells #[.slice none 0 0, .slice none 0 0, .slice none 0 0] 28 (0, 0)) ∧ Y.heap[w.heap.size + 1 + 1 + 1]? = some (.cells #[.int .i64 0, .int .i64 0] 40 (0, 0)) ∧ Keep (fun _ => False) w Y from fun Y hk => ⟨(hk.block _ (by omega) (fun h => by omega)).trans b1, (hk.block _ (by omega) (fun h => by omega)).trans b2, (hk.block _ (by omega) (fun h => by omega)).trans b3, (hk.block _ (by omega) (fun h => by omega)).trans b4, hkX.trans hk (fun b hb h => by have : X.heap.size ≤ b := h; omega)⟩)
  obtain ⟨v0, v1, v2, v3, v4, vf⟩ := cells5 b1
  obtain ⟨x0, x1, x2, xf⟩ := cells3 b2
  clear b1 b2 b3 b4
  go_wp2_with fail
  with_reducible refine (NM.out X).mono ?_
  rintro e w4 ⟨rfl, k4⟩
  have K4 := Lib.hid k4
  clear k4 v0 v1 v2 v3 v4 vf x0 x1 x2 xf
  go_wp2_with fail
  with_reducible refine (TK.out w4 (hkX.trans K4.out (fun _ _ h => h))).mono ?_
  rintro e w5 ⟨A7, ca, B7, cb, rfl, hs7, hf7, hk7⟩
  have K5 := Lib.hid (K4.out.trans hk7 (fun _ _ h => h))
  have z4 := K4.out.size
  have z5 := K5.out.size
  have GS5 := Lib.hid (And.intro (hs7.mono (G := SP F w X) (fun b _ h => h.imp_right (fun h => by omega))) (hf7.mono (G := SP F w X) (fun b _ h => h.imp_right (fun h => by omega))))
  clear hs7 hf7 hk7 hkX
  go_upto_region 2 with fail
  refine wp_world (S := fun V => V.heap[w5.heap.size]? = some (.cells #[.int .i64 c.ents, .int .i64 c.gens, .slice A7 G2.length ca, .slice B7 Fr.length cb] 93 (0, 0)) ∧ V.heap[w5.heap.size + 1]? = some (.cells #[.int .i64 ix, .int .i64 gn] 40 (0, 0)) ∧ Keep (fun _ => False) w5 V) ⟨(by (try simp only [heap_drew']); (try simp only [World.heap_drewN]); repeat (first | exact heap_alloc_at _ _ _ (by first | rfl | simp) | rw [Below.heap_alloc _ _ _ (by first | (simp; done) | (simp; omega))])), (by (try simp only [heap_drew']); (try simp only [World.heap_drewN]); repeat (first | exact heap_alloc_at _ _ _ (by first | rfl | simp) | rw [Below.heap_alloc _ _ _ (by first | (simp; done) | (simp; omega))])), by exact (by repeat first | (with_reducible assumption) | (with_reducible exact Keep.refl _ _) | (with_reducible refine Keep.alloc ?_ _) | (with_reducible refine Keep.drew ?_) | (with_reducible refine Keep.drewN ?_ _) | (with_reducible refine Keep.setCell ?_ (.inl (by first | omega | (simp; done) | (simp; omega) | fail)) _))⟩ ?_
  rintro V ⟨b1, b2, hkV⟩
  have zV : w5.heap.size + 1 < V.heap.size := (Array.getElem?_eq_some_iff.1 b2).1
  have KV := Lib.hid (K5.out.trans hkV (fun _ _ h => h))
  have GS := Lib.hid (And.intro (GS5.out.1.keep hkV (fun _ _ _ h => h)) (GS5.out.2.keep hkV (fun _ _ _ h => h)))
  have CV := Lib.hid (show ∀ Y, Keep (fun b => V.heap.size ≤ b) V Y → Y.heap[w.heap.size + 1]? = some (.cells #[.slice A1 n1 c1, .slice A2 n2 c2, .slice A3 n c3] 28 (0, 0)) ∧ Y.heap[w5.heap.size + 1]? = some (.cells #[.int .i64 ix, .int .i64 gn] 40 (0, 0)) ∧ Y.heap[w5.heap.size]? = some (.cells #[.int .i64 c.ents, .int .i64 c.gens, .slice A7 G2.length ca, .slice B7 Fr.length cb] 93 (0, 0)) ∧ Y.heap[w.heap.size + 1 + 1]? = some (.cells #[.slice none 0 0, .slice none 0 0, .slice none 0 0] 28 (0, 0)) ∧ Y.heap[w.heap.size + 1 + 1 + 1]? = some (.cells #[.int .i64 0, .int .i64 0] 40 (0, 0)) ∧ Keep (fun _ => False) w Y from fun Y hk => by
    obtain ⟨-, a2, a3, a4, a5⟩ := AT.out Y ((KV.out.mono (fun _ _ h => h.elim)).trans hk (fun b _ h => by have : V.heap.size ≤ b := h; show X.heap.size ≤ b; omega))
    exact ⟨a2, (hk.block _ (by omega) (fun h => by omega)).trans b2, (hk.block _ (by omega) (fun h => by omega)).trans b1, a3, a4, a5⟩)
  have C0 := Lib.hid (CV.out V (Keep.refl _ _))
  clear b1 b2 hkV
  by_cases her : er = 0
  · have RS := Lib.hid (HR0.out her)
    subst her
    have HIN := Lib.hid (HE.out.same C0.out.2.2.2.2.2)
    obtain ⟨ie, hie, ie0, ie1, ie2⟩ := info_parts info_ent
    go_upto_region 7 with fail
    go_loopw [10, 11, 12] (fun y b i wr => ∃ (j m : Nat) (A5 : Option Addr) (c5 : Nat) (L : List EnZ) (q : Bool), j ≤ n ∧ m ≤ 2 * j ∧ y = .slice A5 m c5 ∧ b = .bool q ∧ i = .int .i64 (j : Int) ∧ Hid (L.length = m) ∧ Hid ((L, q) = insB (fun e : EnZ => decide (ix < e.id.ix)) (⟨⟨ix, gn⟩, []⟩ : EnZ) (s.ents.take j)) ∧ Hid (BL entN (FL F w) 89 V wr (.slice A5 m c5) L)) (fun _ _ i _ => n - (intOf i).toNat)
    case atStart => exact ⟨0, 0, none, 0, [], false, by omega, by omega, rfl, rfl, rfl, Lib.hid rfl, Lib.hid (by simp [insB]), Lib.hid ⟨⟨[], rfl, Own.none_ _ _ _ _ _, fun i x v h => by simp at h⟩, Keep.refl _ _⟩⟩
    case round =>
      obtain ⟨j, m, A5, c5, L, q, hj, hmj, rfl, rfl, rfl, HL5, hlq, HB5⟩ := hrel
      by_cases hlt : j < n
      · have hi : (j : Int) < (n : Int) := by omega
        have h0 : (0 : Int) ≤ (j : Int) := by omega
        obtain ⟨b9, off9, y9, dv9, eA4, hF9, hy9, hin9, hc9⟩ := NS.at_ HIN.out hlt
        subst eA4
        have g0 := hc9 0 _ rfl
        have g1 := hc9 1 _ rfl
        have g2 := hc9 2 _ rfl
        simp only [show entN.m = 3 from rfl, Nat.add_zero] at g0 g1 g2
        have hb9 : ¬ (V.heap.size ≤ b9) := by have := hF9.2; omega
        have T9 := insB_next (fun e : EnZ => decide (ix < e.id.ix)) (⟨⟨ix, gn⟩, []⟩ : EnZ) hy9
        rw [← hlq.out] at T9
        obtain ⟨⟨ix9, gn9⟩, prts⟩ := y9
        have HY := Lib.hid (show ∀ W', Keep (fun b => V.heap.size ≤ b) V W' → NS parN W' (FL F w) dv9 prts from fun W' hk => NS.keep (show NS parN V (FL F w) dv9 prts from hin9) hk (fun b _ h e => by have := h.2; have : V.heap.size ≤ b := e; omega))
        obtain ⟨A9, c9, rfl, -⟩ := NS.form (show NS parN V (FL F w) dv9 prts from hin9)
        simp only at g0 g1 g2
        dsimp only at T9
        generalize prts.length = n9 at *
        clear hc9 hy9 hin9 hF9
        have f0 := HB5.out.2.cell hb9 g0
        have f1 := HB5.out.2.cell hb9 g1
        have f2 := HB5.out.2.cell hb9 g2
        obtain ⟨x0, x1, x2, xf⟩ := cells3 (CV.out _ HB5.out.2).1
        obtain ⟨y0, y1, yf⟩ := cells2 (CV.out _ HB5.out.2).2.1
        cases q with
        | false =>
          by_cases hge : ix < ix9
          · have hd9 : decide (ix < ix9) = true := decide_eq_true hge
            have NX := (show (L ++ [(⟨⟨ix, gn⟩, []⟩ : EnZ)] ++ [(⟨⟨ix9, gn9⟩, prts⟩ : EnZ)], true) = insB (fun e : EnZ => decide (ix < e.id.ix)) (⟨⟨ix, gn⟩, []⟩ : EnZ) (s.ents.take (j + 1)) from by rw [T9, hd9]; rfl)
            clear T9 hge
            go_upto_region 9 with fail
            go_quiet (fail)
            have SZ5 := HB5.out.2.size
            have HD5 := Lib.hid (show ∀ W', Keep (fun _ => False) wr W' → NS parN W' (fun b => FL F w b ∧ ownB (.slice A5 m c5) ≠ some b) (.slice none 0 0) [] from fun W' hk => ((NS.nil parN wr (FL F w)).keep hk (fun _ _ _ h => h)).mono (fun b _ h => ⟨h, fun e => by have := (HB5.out.1.own_lt e).1; have := h.2; omega⟩))
            go_wp2_with (first
              | (at_builtin; refine wpList_pushY (by rfl) _ _ _ (by rfl) entN (FL F w) V.heap.size 89 ie _ 40 Tryz.underlying26 hie ie0 ie1 ie2 rfl _ L m HL5.out (by rfl) (HB5.out.1.keep (S := fun _ => False) (by exact (by repeat first | (with_reducible assumption) | (with_reducible exact Keep.refl _ _) | (with_reducible refine Keep.alloc ?_ _) | (with_reducible refine Keep.drew ?_) | (with_reducible refine Keep.drewN ?_ _) | (with_reducible refine Keep.setCell ?_ (.inl (by first | omega | (simp; done) | (simp; omega) | fail)) _))) (fun _ _ h => h) (fun _ _ _ _ h => h)) _ _ (⟨⟨ix, gn⟩, []⟩ : EnZ) (.slice none 0 0) (by rfl) (by first | exact litE _ _ _ _ _ _ | (intro j' u' h'; rw [World.cell?_drew]; exact litE _ _ _ _ _ _ j' u' h')) (HD5.out _ (by exact (by repeat first | (with_reducible assumption) | (with_reducible exact Keep.refl _ _) | (with_reducible refine Keep.alloc ?_ _) | (with_reducible refine Keep.drew ?_) | (with_reducible refine Keep.drewN ?_ _) | (with_reducible refine Keep.setCell ?_ (.inl (by first | omega | (simp; done) | (simp; omega) | fail)) _)))) (by unfold maxLen; omega) (by omega) (by (try simp); omega) ?_)
              | fail)
            intro A6 c6 w6 hn6 hk6 ho6
            have HB6 := Lib.hid (BL.push HB5.out (by exact (by repeat first | (with_reducible assumption) | (with_reducible exact Keep.refl _ _) | (with_reducible refine Keep.alloc ?_ _) | (with_reducible refine Keep.drew ?_) | (with_reducible refine Keep.drewN ?_ _) | (with_reducible refine Keep.setCell ?_ (.inl (by first | omega | (simp; done) | (simp; omega) | fail)) _))) hn6 hk6)
            have HL6 := Lib.hid (show (L ++ [(⟨⟨ix, gn⟩, []⟩ : EnZ)]).length = m + 1 by rw [List.length_append, HL5.out]; rfl)
            clear hn6 hk6 ho6
            clear f0 f1 f2 x0 x1 x2 xf y0 y1 yf
            have f0 := HB6.out.2.cell hb9 g0
            have f1 := HB6.out.2.cell hb9 g1
            have f2 := HB6.out.2.cell hb9 g2
            obtain ⟨x0, x1, x2, xf⟩ := cells3 (CV.out _ HB6.out.2).1
            obtain ⟨y0, y1, yf⟩ := cells2 (CV.out _ HB6.out.2).2.1
            obtain ⟨L6, eL6⟩ : ∃ L6, L ++ [(⟨⟨ix, gn⟩, []⟩ : EnZ)] = L6 := ⟨_, rfl⟩
            rw [eL6] at HB6 HL6 NX
            clear eL6
            have SZ6 := HB6.out.2.size
            have HD6 := Lib.hid (show ∀ W', Keep (fun _ => False) w6 W' → NS parN W' (fun b => FL F w b ∧ ownB (.slice A6 (m + 1) c6) ≠ some b) (.slice A9 n9 c9) prts from fun W' hk => ((HY.out w6 HB6.out.2).keep hk (fun _ _ _ h => h)).mono (fun b _ h => ⟨h, fun e => by have := (HB6.out.1.own_lt e).1; have := h.2; omega⟩))
            go_wp2_with (first
              | (at_builtin; refine wpList_pushY (by rfl) _ _ _ (by rfl) entN (FL F w) V.heap.size 89 ie _ 40 Tryz.underlying26 hie ie0 ie1 ie2 rfl _ L6 (m + 1) HL6.out (by rfl) (HB6.out.1.keep (S := fun _ => False) (by exact (by repeat first | (with_reducible assumption) | (with_reducible exact Keep.refl _ _) | (with_reducible refine Keep.alloc ?_ _) | (with_reducible refine Keep.drew ?_) | (with_reducible refine Keep.drewN ?_ _) | (with_reducible refine Keep.setCell ?_ (.inl (by first | omega | (simp; done) | (simp; omega) | fail)) _))) (fun _ _ h => h) (fun _ _ _ _ h => h)) _ _ (⟨⟨ix9, gn9⟩, prts⟩ : EnZ) (.slice A9 n9 c9) (by rfl) (by first | exact litE _ _ _ _ _ _ | (intro j' u' h'; rw [World.cell?_drew]; exact litE _ _ _ _ _ _ j' u' h')) (HD6.out _ (by exact (by repeat first | (with_reducible assumption) | (with_reducible exact Keep.refl _ _) | (with_reducible refine Keep.alloc ?_ _) | (with_reducible refine Keep.drew ?_) | (with_reducible refine Keep.drewN ?_ _) | (with_reducible refine Keep.setCell ?_ (.inl (by first | omega | (simp; done) | (simp; omega) | fail)) _)))) (by unfold maxLen; omega) (by omega) (by (try simp); omega) ?_)
              | fail)
            intro A7 c7 w7 hn7 hk7 ho7
            have HB7 := Lib.hid (BL.push HB6.out (by exact (by repeat first | (with_reducible assumption) | (with_reducible exact Keep.refl _ _) | (with_reducible refine Keep.alloc ?_ _) | (with_reducible refine Keep.drew ?_) | (with_reducible refine Keep.drewN ?_ _) | (with_reducible refine Keep.setCell ?_ (.inl (by first | omega | (simp; done) | (simp; omega) | fail)) _))) hn7 hk7)
            have HL7 := Lib.hid (show (L6 ++ [(⟨⟨ix9, gn9⟩, prts⟩ : EnZ)]).length = (m + 1) + 1 by rw [List.length_append, HL6.out]; rfl)
            clear hn7 hk7 ho7
            go_wp2
            go_roundw
            case rel => exact ⟨j + 1, ((m + 1) + 1), A7, c7, (L6 ++ [(⟨⟨ix9, gn9⟩, prts⟩ : EnZ)]), true, by omega, by omega, rfl, by first | rfl | trivial, by go_num, HL7, Lib.hid NX, by (first | exact HB7 | exact Lib.hid (HB7.out.same (by exact (by repeat first | (with_reducible assumption) | (with_reducible exact Keep.refl _ _) | (with_reducible refine Keep.alloc ?_ _) | (with_reducible refine Keep.drew ?_) | (with_reducible refine Keep.drewN ?_ _) | (with_reducible refine Keep.setCell ?_ (.inl (by first | omega | (simp; done) | (simp; omega) | fail)) _)))))⟩
            case measure => simp [intOf]; omega
          · have hd9 : decide (ix < ix9) = false := decide_eq_false hge
            have NX := (show (L ++ [(⟨⟨ix9, gn9⟩, prts⟩ : EnZ)], false) = insB (fun e : EnZ => decide (ix < e.id.ix)) (⟨⟨ix, gn⟩, []⟩ : EnZ) (s.ents.take (j + 1)) from by rw [T9, hd9]; rfl)
            clear T9 hge
            go_upto_region 9 with fail
            go_quiet (fail)
            have SZ5 := HB5.out.2.size
            have HD5 := Lib.hid (show ∀ W', Keep (fun _ => False) wr W' → NS parN W' (fun b => FL F w b ∧ ownB (.slice A5 m c5) ≠ some b) (.slice A9 n9 c9) prts from fun W' hk => ((HY.out wr HB5.out.2).keep hk (fun _ _ _ h => h)).mono (fun b _ h => ⟨h, fun e => by have := (HB5.out.1.own_lt e).1; have := h.2; omega⟩))
            go_wp2_with (first
              | (at_builtin; refine wpList_pushY (by rfl) _ _ _ (by rfl) entN (FL F w) V.heap.size 89 ie _ 40 Tryz.underlying26 hie ie0 ie1 ie2 rfl _ L m HL5.out (by rfl) (HB5.out.1.keep (S := fun _ => False) (by exact (by repeat first | (with_reducible assumption) | (with_reducible exact Keep.refl _ _) | (with_reducible refine Keep.alloc ?_ _) | (with_reducible refine Keep.drew ?_) | (with_reducible refine Keep.drewN ?_ _) | (with_reducible refine Keep.setCell ?_ (.inl (by first | omega | (simp; done) | (simp; omega) | fail)) _))) (fun _ _ h => h) (fun _ _ _ _ h => h)) _ _ (⟨⟨ix9, gn9⟩, prts⟩ : EnZ) (.slice A9 n9 c9) (by rfl) (by first | exact litE _ _ _ _ _ _ | (intro j' u' h'; rw [World.cell?_drew]; exact litE _ _ _ _ _ _ j' u' h')) (HD5.out _ (by exact (by repeat first | (with_reducible assumption) | (with_reducible exact Keep.refl _ _) | (with_reducible refine Keep.alloc ?_ _) | (with_reducible refine Keep.drew ?_) | (with_reducible refine Keep.drewN ?_ _) | (with_reducible refine Keep.setCell ?_ (.inl (by first | omega | (simp; done) | (simp; omega) | fail)) _)))) (by unfold maxLen; omega) (by omega) (by (try simp); omega) ?_)
              | fail)
            intro A6 c6 w6 hn6 hk6 ho6
            have HB6 := Lib.hid (BL.push HB5.out (by exact (by repeat first | (with_reducible assumption) | (with_reducible exact Keep.refl _ _) | (with_reducible refine Keep.alloc ?_ _) | (with_reducible refine Keep.drew ?_) | (with_reducible refine Keep.drewN ?_ _) | (with_reducible refine Keep.setCell ?_ (.inl (by first | omega | (simp; done) | (simp; omega) | fail)) _))) hn6 hk6)
            have HL6 := Lib.hid (show (L ++ [(⟨⟨ix9, gn9⟩, prts⟩ : EnZ)]).length = m + 1 by rw [List.length_append, HL5.out]; rfl)
            clear hn6 hk6 ho6
            go_wp2
            go_roundw
            case rel => exact ⟨j + 1, (m + 1), A6, c6, (L ++ [(⟨⟨ix9, gn9⟩, prts⟩ : EnZ)]), false, by omega, by omega, rfl, by first | rfl | trivial, by go_num, HL6, Lib.hid NX, by (first | exact HB6 | exact Lib.hid (HB6.out.same (by exact (by repeat first | (with_reducible assumption) | (with_reducible exact Keep.refl _ _) | (with_reducible refine Keep.alloc ?_ _) | (with_reducible refine Keep.drew ?_) | (with_reducible refine Keep.drewN ?_ _) | (with_reducible refine Keep.setCell ?_ (.inl (by first | omega | (simp; done) | (simp; omega) | fail)) _)))))⟩
            case measure => simp [intOf]; omega
        | true =>
          have NX := (show (L ++ [(⟨⟨ix9, gn9⟩, prts⟩ : EnZ)], true) = insB (fun e : EnZ => decide (ix < e.id.ix)) (⟨⟨ix, gn⟩, []⟩ : EnZ) (s.ents.take (j + 1)) from by rw [T9]; rfl)
          clear T9
          go_upto_region 9 with fail
          go_quiet (fail)
          have SZ5 := HB5.out.2.size
          have HD5 := Lib.hid (show ∀ W', Keep (fun _ => False) wr W' → NS parN W' (fun b => FL F w b ∧ ownB (.slice A5 m c5) ≠ some b) (.slice A9 n9 c9) prts from fun W' hk => ((HY.out wr HB5.out.2).keep hk (fun _ _ _ h => h)).mono (fun b _ h => ⟨h, fun e => by have := (HB5.out.1.own_lt e).1; have := h.2; omega⟩))
          go_wp2_with (first
            | (at_builtin; refine wpList_pushY (by rfl) _ _ _ (by rfl) entN (FL F w) V.heap.size 89 ie _ 40 Tryz.underlying26 hie ie0 ie1 ie2 rfl _ L m HL5.out (by rfl) (HB5.out.1.keep (S := fun _ => False) (by exact (by repeat first | (with_reducible assumption) | (with_reducible exact Keep.refl _ _) | (with_reducible refine Keep.alloc ?_ _) | (with_reducible refine Keep.drew ?_) | (with_reducible refine Keep.drewN ?_ _) | (with_reducible refine Keep.setCell ?_ (.inl (by first | omega | (simp; done) | (simp; omega) | fail)) _))) (fun _ _ h => h) (fun _ _ _ _ h => h)) _ _ (⟨⟨ix9, gn9⟩, prts⟩ : EnZ) (.slice A9 n9 c9) (by rfl) (by first | exact litE _ _ _ _ _ _ | (intro j' u' h'; rw [World.cell?_drew]; exact litE _ _ _ _ _ _ j' u' h')) (HD5.out _ (by exact (by repeat first | (with_reducible assumption) | (with_reducible exact Keep.refl _ _) | (with_reducible refine Keep.alloc ?_ _) | (with_reducible refine Keep.drew ?_) | (with_reducible refine Keep.drewN ?_ _) | (with_reducible refine Keep.setCell ?_ (.inl (by first | omega | (simp; done) | (simp; omega) | fail)) _)))) (by unfold maxLen; omega) (by omega) (by (try simp); omega) ?_)
            | fail)
          intro A6 c6 w6 hn6 hk6 ho6
          have HB6 := Lib.hid (BL.push HB5.out (by exact (by repeat first | (with_reducible assumption) | (with_reducible exact Keep.refl _ _) | (with_reducible refine Keep.alloc ?_ _) | (with_reducible refine Keep.drew ?_) | (with_reducible refine Keep.drewN ?_ _) | (with_reducible refine Keep.setCell ?_ (.inl (by first | omega | (simp; done) | (simp; omega) | fail)) _))) hn6 hk6)
          have HL6 := Lib.hid (show (L ++ [(⟨⟨ix9, gn9⟩, prts⟩ : EnZ)]).length = m + 1 by rw [List.length_append, HL5.out]; rfl)
          clear hn6 hk6 ho6
          go_wp2
          go_roundw
          case rel => exact ⟨j + 1, (m + 1), A6, c6, (L ++ [(⟨⟨ix9, gn9⟩, prts⟩ : EnZ)]), true, by omega, by omega, rfl, by first | rfl | trivial, by go_num, HL6, Lib.hid NX, by (first | exact HB6 | exact Lib.hid (HB6.out.same (by exact (by repeat first | (with_reducible assumption) | (with_reducible exact Keep.refl _ _) | (with_reducible refine Keep.alloc ?_ _) | (with_reducible refine Keep.drew ?_) | (with_reducible refine Keep.drewN ?_ _) | (with_reducible refine Keep.setCell ?_ (.inl (by first | omega | (simp; done) | (simp; omega) | fail)) _)))))⟩
          case measure => simp [intOf]; omega
      · have hi : ¬ (j : Int) < (n : Int) := by omega
        obtain rfl : j = n := by omega
        have TT := Lib.hid (show (L, q) = insB (fun e : EnZ => decide (ix < e.id.ix)) (⟨⟨ix, gn⟩, []⟩ : EnZ) s.ents from by
          have := hlq.out
          rw [List.take_of_length_le (by rw [HN.out]; exact Nat.le_refl _)] at this
          exact this)
        obtain ⟨x0, x1, x2, xf⟩ := cells3 (CV.out _ HB5.out.2).1
        obtain ⟨y0, y1, yf⟩ := cells2 (CV.out _ HB5.out.2).2.1
        cases q with
        | true =>
          have FINL := Lib.hid (show L = insI ⟨ix, gn⟩ s.ents from by unfold insI insE; rw [← TT.out]; rfl)
          go_upto_region 15 with fail
          have SY := HB5.out.2.size
          have BY := Lib.hid (show (wr).heap[w.heap.size + 1 + 1]? = some (.cells #[.slice none 0 0, .slice none 0 0, .slice none 0 0] 28 (0, 0)) ∧ (wr).heap[w.heap.size + 1 + 1 + 1]? = some (.cells #[.int .i64 0, .int .i64 0] 40 (0, 0)) ∧ Keep (fun _ => False) w wr from ⟨(CV.out _ HB5.out.2).2.2.2.1, (CV.out _ HB5.out.2).2.2.2.2.1, (CV.out _ HB5.out.2).2.2.2.2.2⟩)
          have STN := Lib.hid (show StM wr (SP F w X) (.agg #[.slice A7 G2.length ca, .slice B7 Fr.length cb, .slice A5 m c5]) ⟨G2, Fr, insI ⟨ix, gn⟩ s.ents⟩ from ⟨_, _, _, rfl, GS.out.1.keep (S := fun b => V.heap.size ≤ b) HB5.out.2 (fun b hb h e => by have : V.heap.size ≤ b := e; omega), GS.out.2.keep (S := fun b => V.heap.size ≤ b) HB5.out.2 (fun b hb h e => by have : V.heap.size ≤ b := e; omega), by
            rw [← FINL.out]
            exact HB5.out.1.ns.mono (fun b _ h => h.elim .inl (fun h => .inr (by omega)))⟩)
          clear x0 x1 x2 xf y0 y1 yf
          obtain ⟨y0, y1, yf⟩ := cells2 (CV.out _ HB5.out.2).2.1
          obtain ⟨v0, v1, v2, v3, vf⟩ := cells4 (CV.out _ HB5.out.2).2.2.1
          obtain ⟨z0, z1, z2, zf⟩ := cells3 BY.out.1
          obtain ⟨u0, u1, uf⟩ := cells2 BY.out.2.1
          go_cut [6] (fun t wx => t = .int .i64 0 ∧ Hid (SpEnd w F (w.heap.size + 1 + 1) (w.heap.size + 1 + 1 + 1) ⟨G2, Fr, insI ⟨ix, gn⟩ s.ents⟩ ⟨ix, gn⟩ wx))
          case first =>
            go_region_law (fail)
            all_goals
              go_wp2_with fail
              go_meet
              refine ⟨by rfl, Lib.hid ?_⟩
              first
                | with_reducible exact SpEnd.mk STN.out BY.out.1 BY.out.2.1 BY.out.2.2 (by omega) (by omega) (by omega)
                | with_reducible exact SpEnd.drew (SpEnd.mk STN.out BY.out.1 BY.out.2.1 BY.out.2.2 (by omega) (by omega) (by omega))
                | with_reducible exact SpEnd.mk' STN.out BY.out.1 BY.out.2.1 BY.out.2.2 (by omega) (by omega) (by omega)
                | with_reducible exact SpEnd.drew (SpEnd.mk' STN.out BY.out.1 BY.out.2.1 BY.out.2.2 (by omega) (by omega) (by omega))
          case rest =>
            obtain ⟨rfl, hend⟩ := hcut
            obtain ⟨E1', q1', d1', E2', q2', d2', E3', q3', d3', hb, hst, hid2, hkw⟩ := hend.out
            go_wp2
            refine bodyPost_ret (results_sp Tryz.results63 _ _ (w.heap.size + 1 + 1) (w.heap.size + 1 + 1 + 1) (.slice E1' q1' d1') (.slice E2' q2' d2') (.slice E3' q3' d3') (.int .i64 ix) (.int .i64 gn) ?_ ?_ ?_ ?_ (.int .i64 0) ?_) ?_ ⟨.agg #[.slice E1' q1' d1', .slice E2' q2' d2', .slice E3' q3' d3'], ?_, ?_, ?_⟩
            · rfl
            · exact hb
            · rfl
            · exact hid2
            · rfl
            · rfl
            · rw [RS.out]
            · rw [RS.out]; exact hst
            · exact hkw
        | false =>
          have FINL := Lib.hid (show L ++ [(⟨⟨ix, gn⟩, []⟩ : EnZ)] = insI ⟨ix, gn⟩ s.ents from by unfold insI insE; rw [← TT.out]; rfl)
          have SZ5 := HB5.out.2.size
          have HD5 := Lib.hid (show ∀ W', Keep (fun _ => False) wr W' → NS parN W' (fun b => FL F w b ∧ ownB (.slice A5 m c5) ≠ some b) (.slice none 0 0) [] from fun W' hk => ((NS.nil parN wr (FL F w)).keep hk (fun _ _ _ h => h)).mono (fun b _ h => ⟨h, fun e => by have := (HB5.out.1.own_lt e).1; have := h.2; omega⟩))
          go_wp2_with (first
            | (at_builtin; refine wpList_pushY (by rfl) _ _ _ (by rfl) entN (FL F w) V.heap.size 89 ie _ 40 Tryz.underlying26 hie ie0 ie1 ie2 rfl _ L m HL5.out (by rfl) (HB5.out.1.keep (S := fun _ => False) (by exact (by repeat first | (with_reducible assumption) | (with_reducible exact Keep.refl _ _) | (with_reducible refine Keep.alloc ?_ _) | (with_reducible refine Keep.drew ?_) | (with_reducible refine Keep.drewN ?_ _) | (with_reducible refine Keep.setCell ?_ (.inl (by first | omega | (simp; done) | (simp; omega) | fail)) _))) (fun _ _ h => h) (fun _ _ _ _ h => h)) _ _ (⟨⟨ix, gn⟩, []⟩ : EnZ) (.slice none 0 0) (by rfl) (by first | exact litE _ _ _ _ _ _ | (intro j' u' h'; rw [World.cell?_drew]; exact litE _ _ _ _ _ _ j' u' h')) (HD5.out _ (by exact (by repeat first | (with_reducible assumption) | (with_reducible exact Keep.refl _ _) | (with_reducible refine Keep.alloc ?_ _) | (with_reducible refine Keep.drew ?_) | (with_reducible refine Keep.drewN ?_ _) | (with_reducible refine Keep.setCell ?_ (.inl (by first | omega | (simp; done) | (simp; omega) | fail)) _)))) (by unfold maxLen; omega) (by omega) (by (try simp); omega) ?_)
            | fail)
          intro A6 c6 w6 hn6 hk6 ho6
          have HB6 := Lib.hid (BL.push HB5.out (by exact (by repeat first | (with_reducible assumption) | (with_reducible exact Keep.refl _ _) | (with_reducible refine Keep.alloc ?_ _) | (with_reducible refine Keep.drew ?_) | (with_reducible refine Keep.drewN ?_ _) | (with_reducible refine Keep.setCell ?_ (.inl (by first | omega | (simp; done) | (simp; omega) | fail)) _))) hn6 hk6)
          have HL6 := Lib.hid (show (L ++ [(⟨⟨ix, gn⟩, []⟩ : EnZ)]).length = m + 1 by rw [List.length_append, HL5.out]; rfl)
          clear hn6 hk6 ho6
          go_upto_region 15 with fail
          have SY := HB6.out.2.size
          have BY := Lib.hid (show (w6).heap[w.heap.size + 1 + 1]? = some (.cells #[.slice none 0 0, .slice none 0 0, .slice none 0 0] 28 (0, 0)) ∧ (w6).heap[w.heap.size + 1 + 1 + 1]? = some (.cells #[.int .i64 0, .int .i64 0] 40 (0, 0)) ∧ Keep (fun _ => False) w w6 from ⟨(CV.out _ HB6.out.2).2.2.2.1, (CV.out _ HB6.out.2).2.2.2.2.1, (CV.out _ HB6.out.2).2.2.2.2.2⟩)
          have STN := Lib.hid (show StM w6 (SP F w X) (.agg #[.slice A7 G2.length ca, .slice B7 Fr.length cb, .slice A6 (m + 1) c6]) ⟨G2, Fr, insI ⟨ix, gn⟩ s.ents⟩ from ⟨_, _, _, rfl, GS.out.1.keep (S := fun b => V.heap.size ≤ b) HB6.out.2 (fun b hb h e => by have : V.heap.size ≤ b := e; omega), GS.out.2.keep (S := fun b => V.heap.size ≤ b) HB6.out.2 (fun b hb h e => by have : V.heap.size ≤ b := e; omega), by
            rw [← FINL.out]
            exact HB6.out.1.ns.mono (fun b _ h => h.elim .inl (fun h => .inr (by omega)))⟩)
          clear x0 x1 x2 xf y0 y1 yf
          obtain ⟨y0, y1, yf⟩ := cells2 (CV.out _ HB6.out.2).2.1
          obtain ⟨v0, v1, v2, v3, vf⟩ := cells4 (CV.out _ HB6.out.2).2.2.1
          obtain ⟨z0, z1, z2, zf⟩ := cells3 BY.out.1
          obtain ⟨u0, u1, uf⟩ := cells2 BY.out.2.1
          go_cut [6] (fun t wx => t = .int .i64 0 ∧ Hid (SpEnd w F (w.heap.size + 1 + 1) (w.heap.size + 1 + 1 + 1) ⟨G2, Fr, insI ⟨ix, gn⟩ s.ents⟩ ⟨ix, gn⟩ wx))
          case first =>
            go_region_law (fail)
            all_goals
              go_wp2_with fail
              go_meet
              refine ⟨by rfl, Lib.hid ?_⟩
              first
                | with_reducible exact SpEnd.mk STN.out BY.out.1 BY.out.2.1 BY.out.2.2 (by omega) (by omega) (by omega)
                | with_reducible exact SpEnd.drew (SpEnd.mk STN.out BY.out.1 BY.out.2.1 BY.out.2.2 (by omega) (by omega) (by omega))
                | with_reducible exact SpEnd.mk' STN.out BY.out.1 BY.out.2.1 BY.out.2.2 (by omega) (by omega) (by omega)
                | with_reducible exact SpEnd.drew (SpEnd.mk' STN.out BY.out.1 BY.out.2.1 BY.out.2.2 (by omega) (by omega) (by omega))
          case rest =>
            obtain ⟨rfl, hend⟩ := hcut
            obtain ⟨E1', q1', d1', E2', q2', d2', E3', q3', d3', hb, hst, hid2, hkw⟩ := hend.out
            go_wp2
            refine bodyPost_ret (results_sp Tryz.results63 _ _ (w.heap.size + 1 + 1) (w.heap.size + 1 + 1 + 1) (.slice E1' q1' d1') (.slice E2' q2' d2') (.slice E3' q3' d3') (.int .i64 ix) (.int .i64 gn) ?_ ?_ ?_ ?_ (.int .i64 0) ?_) ?_ ⟨.agg #[.slice E1' q1' d1', .slice E2' q2' d2', .slice E3' q3' d3'], ?_, ?_, ?_⟩
            · rfl
            · exact hb
            · rfl
            · exact hid2
            · rfl
            · rfl
            · rw [RS.out]
            · rw [RS.out]; exact hst
            · exact hkw
  · have RS := Lib.hid (HR1.out her)
    have hne : (er != 0) = true := by simpa using her
    obtain ⟨x0, x1, x2, xf⟩ := cells3 C0.out.1
    obtain ⟨z0, z1, z2, zf⟩ := cells3 C0.out.2.2.2.1
    obtain ⟨u0, u1, uf⟩ := cells2 C0.out.2.2.2.2.1
    go_wp2
    have hend := SpEnd.mk (id := ⟨0, 0⟩) (X := X) (HU.out.low.mono (G := SP F w X) (fun b _ h => .inl h) |>.same C0.out.2.2.2.2.2) C0.out.2.2.2.1 C0.out.2.2.2.2.1 C0.out.2.2.2.2.2 (by omega) (by omega) (by omega)
    obtain ⟨E1', q1', d1', E2', q2', d2', E3', q3', d3', hb, hst, hid2, hkw⟩ := hend
    refine bodyPost_ret (results_sp Tryz.results63 _ _ (w.heap.size + 1 + 1) (w.heap.size + 1 + 1 + 1) (.slice E1' q1' d1') (.slice E2' q2' d2') (.slice E3' q3' d3') (.int .i64 0) (.int .i64 0) ?_ ?_ ?_ ?_ (.int .i64 er) ?_) ?_ ⟨.agg #[.slice E1' q1' d1', .slice E2' q2' d2', .slice E3' q3' d3'], ?_, ?_, ?_⟩
    · rfl
    · exact hb
    · rfl
    · exact hid2
    · rfl
    · rfl
    · rw [RS.out]
    · rw [RS.out]; exact hst
    · exact hkw
end Go.Proofs.YtglliendhbkkhaaGreatDoor

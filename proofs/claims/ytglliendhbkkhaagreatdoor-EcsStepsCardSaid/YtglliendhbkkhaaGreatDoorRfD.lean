/- Contract of vivariumref11.Go. -/
import Derived.Test.YtglliendhbkkhaaGreatDoorRf7
import Derived.Test.YtglliendhbkkhaaGreatDoorRfC
import Derived.Test.YtglliendhbkkhaaGreatDoorEs1
import Derived.Test.YtglliendhbkkhaaGreatDoorEcsT
namespace Go.Proofs.YtglliendhbkkhaaGreatDoor
open Go.RowKit
set_option maxRecDepth 100000
set_option linter.unusedVariables false
set_option linter.unusedSimpArgs false

theorem results_gq {fn : Func} {p q t t2 : Tmp} (h : fn.results = #[.cell p 28, .cell q 40, .tmp t, .tmp t2]) (tmps : Array Value) (w : World) (g gq : Nat) (c0 c1 c2 d0 d1 : Value)
    (hp : tmps.getD p undef = .pointer (some ⟨g, 0, none⟩)) (hg : w.heap[g]? = some (.cells #[c0, c1, c2] 28 (0, 0)))
    (hq : tmps.getD q undef = .pointer (some ⟨gq, 0, none⟩)) (hgq : w.heap[gq]? = some (.cells #[d0, d1] 40 (0, 0))) (b b2 : Value) (hb : tmps.getD t undef = b) (hb2 : tmps.getD t2 undef = b2) : (results fn tmps).run Tryz.prog w = .ok (.tuple #[.agg #[c0, c1, c2], .agg #[d0, d1], b, b2]) w := by
  have hr := run_loadVar_row (P := Tryz.prog) w g 28 28 #[c0, c1, c2] (0, 0) _ hg under_stE rfl size_stE
  have hr2 := run_loadVar_row (P := Tryz.prog) w gq 40 40 #[d0, d1] (0, 0) _ hgq under_id rfl size_id
  have e : (results fn tmps).run Tryz.prog w = ((asAddr (tmps.getD p undef)).run Tryz.prog w).andThen fun a w₁ => ((loadVar 28 a).run Tryz.prog w₁).andThen fun v w₂ => ((asAddr (tmps.getD q undef)).run Tryz.prog w₂).andThen fun a w₃ => ((loadVar 40 a).run Tryz.prog w₃).andThen fun v2 w₄ => .ok (.tuple #[v, v2, tmps.getD t undef, tmps.getD t2 undef]) w₄ := by
    simp only [results, h]
    simp [Sem.run_bind, Result.andThen]
  rw [e, hp, hq, hb, hb2]
  simp [asAddr, hr, hr2]
theorem keepGo (w : World) (p q : Nat) (a b c d e : Value) : Keep (fun k => k = p ∨ k = q) w (((((w.setCell ⟨p, 0, none⟩ a).setCell ⟨p, 1, none⟩ b).setCell ⟨p, 2, none⟩ c).setCell ⟨q, 0, none⟩ d).setCell ⟨q, 1, none⟩ e) :=
  ((keep3R w p a b c).mono (T := fun k => k = p ∨ k = q) (fun _ _ h => .inl h)).trans (keep2 _ q d e) (fun k _ h => .inr h)
/-- A state as it may be. -/
structure SOk (c : Cf) (s : SZ) : Prop where
  e24 : s.ents.length ≤ 1024
  p64 : ∀ e ∈ s.ents, e.parts.length ≤ 64
  g6 : s.gens.length ≤ 1000000
  f6 : s.free.length ≤ 1000000
  lim : c.gens ≤ 1099511627776
  alv : ∀ x, AlvOk c.gens s x
  fr : ∀ i, s.free.getLast? = some i → ∃ k : Nat, i = (k : Int) ∧ k < s.gens.length
/-- What Go tells. -/
def GoPostS (w : World) (F : Nat → Prop) (r : SZ × IdZ × List UInt8 × Int) (e : Ending) (w' : World) : Prop :=
  ∃ u' A n cc, e = .returned (.tuple #[u', .agg #[.int .i64 r.2.1.ix, .int .i64 r.2.1.gen], .slice A n cc, .int .i64 r.2.2.2]) ∧ StM w' (SF F w) u' r.1 ∧ By w' (SF F w) (.slice A n cc) r.2.2.1 ∧ Keep (fun _ => False) w w'
set_option maxHeartbeats 4000000 in
theorem r11_go (c : Cf) (uc : Value) (G : Nat → Prop) (s : SZ) (x : StE) (hk : seR x) (AD : Option Addr) (cD : Nat) (u : Value) (F : Nat → Prop) (w : World) (hc : CL w G uc c.l) (hu : StM w F u s) (hd : By w F (.slice AD x.data.length cD) x.data) (hs : SOk c s) :
    Calls Tryz.prog 23 #[confV c uc, u, seV x (.slice AD x.data.length cD)] w (GoPostS w F (stepR c s x)) := by
  have DS := Lib.hid (fun X (hk' : Keep (fun _ => False) w X) => r11_despawn c uc G s x.id u (FL F w) X (hc.same hk') (hu.low.same hk') hs.e24 (hs.alv x.id) hs.lim hs.g6 hs.f6)
  have ST := Lib.hid (fun X (hk' : Keep (fun _ => False) w X) => r11_set c uc G s x.id x.k hk x.data AD cD u (FL F w) X (hc.same hk') (hu.low.same hk') ((hd.mono (G := FL F w) (fun b hb h => ⟨h, hb⟩)).keep hk' (fun _ _ _ h => h)) hs.e24 hs.p64)
  have RM := Lib.hid (fun X (hk' : Keep (fun _ => False) w X) => r11_remove c uc G s x.id x.k hk u (FL F w) X (hc.same hk') (hu.low.same hk') hs.e24 hs.p64)
  have GT := Lib.hid (fun X (hk' : Keep (fun _ => False) w X) => r11_get c uc G s x.id x.k hk u (FL F w) X (hc.same hk') (hu.low.same hk'))
  have SW := Lib.hid (fun X (hk' : Keep (fun _ => False) w X) => r11_spawn c uc G s u (FL F w) X (hc.same hk') (hu.low.same hk') hs.e24 hs.g6 hs.fr)
  obtain ⟨Au, cu, rfl, -⟩ := hc
  obtain ⟨A1, n1, c1, A2, n2, c2, A3, n3, c3, rfl⟩ := hu.shape
  have HU := Lib.hid hu.low
  unfold GoPostS
  obtain ⟨R, hR⟩ : ∃ R, stepR c s x = R := ⟨_, rfl⟩
  rw [hR]
  have R1 := Lib.hid (show x.do_ = 1 → R = ((despawnR c.gens s x.id).1, ⟨0, 0⟩, [], (despawnR c.gens s x.id).2) from fun h => by rw [← hR]; unfold stepR; rw [if_pos h])
  have R2 := Lib.hid (show x.do_ = 2 → R = ((setR c.l s x.id x.k x.data).1, ⟨0, 0⟩, [], (setR c.l s x.id x.k x.data).2) from fun h => by rw [← hR]; unfold stepR; rw [if_neg (by omega), if_pos h])
  have R3 := Lib.hid (show x.do_ = 3 → R = ((removeR c.l s x.id x.k).1, ⟨0, 0⟩, [], (removeR c.l s x.id x.k).2) from fun h => by rw [← hR]; unfold stepR; rw [if_neg (by omega), if_neg (by omega), if_pos h])
  have R4 := Lib.hid (show x.do_ = 4 → R = (s, ⟨0, 0⟩, (getR c.l s x.id x.k).1, (getR c.l s x.id x.k).2) from fun h => by rw [← hR]; unfold stepR; rw [if_neg (by omega), if_neg (by omega), if_neg (by omega), if_pos h])
  have R5 := Lib.hid (show x.do_ ≠ 1 → x.do_ ≠ 2 → x.do_ ≠ 3 → x.do_ ≠ 4 → R = ((spawnR c.ents s).1, (spawnR c.ents s).2.1, [], (spawnR c.ents s).2.2) from fun h1 h2 h3 h4 => by rw [← hR]; unfold stepR; rw [if_neg h1, if_neg h2, if_neg h3, if_neg h4])
  clear hR hu hs hk hd
  obtain ⟨dd, ⟨ix, gn⟩, k, data⟩ := x
  unfold seV
  simp only at *
  unfold confV at *
  generalize despawnR c.gens s ⟨ix, gn⟩ = rds at *
  generalize setR c.l s ⟨ix, gn⟩ k data = rst at *
  generalize removeR c.l s ⟨ix, gn⟩ k = rrm at *
  generalize getR c.l s ⟨ix, gn⟩ k = rgt at *
  generalize spawnR c.ents s = rsp at *
  generalize c.l.length = nl at *
  generalize data.length = nd at *
  go_enter Tryz.func23, Tryz.ntmps23
  go_upto_region 1 with fail
  refine wp_world (S := fun X => X.heap[w.heap.size]? = some (.cells #[.int .i64 c.log, .int .i64 c.pages, .int .i64 c.ents, .int .i64 c.gens, .slice Au nl cu] 24 (0, 0)) ∧ X.heap[w.heap.size + 1]? = some (.cells #[.slice A1 n1 c1, .slice A2 n2 c2, .slice A3 n3 c3] 28 (0, 0)) ∧ X.heap[w.heap.size + 1 + 1]? = some (.cells #[.int .i64 dd, .int .i64 ix, .int .i64 gn, .int .i64 k, .slice AD nd cD] 60 (0, 0)) ∧ X.heap[w.heap.size + 1 + 1 + 1]? = some (.cells #[.slice none 0 0, .slice none 0 0, .slice none 0 0] 28 (0, 0)) ∧ X.heap[w.heap.size + 1 + 1 + 1 + 1]? = some (.cells #[.int .i64 0, .int .i64 0] 40 (0, 0)) ∧ Keep (fun _ => False) w X) ⟨(by (try simp only [heap_drew']); (try simp only [World.heap_drewN]); repeat (first | exact heap_alloc_at _ _ _ (by first | rfl | simp) | rw [Below.heap_alloc _ _ _ (by first | (simp; done) | (simp; omega))])), (by (try simp only [heap_drew']); (try simp only [World.heap_drewN]); repeat (first | exact heap_alloc_at _ _ _ (by first | rfl | simp) | rw [Below.heap_alloc _ _ _ (by first | (simp; done) | (simp; omega))])), (by (try simp only [heap_drew']); (try simp only [World.heap_drewN]); repeat (first | exact heap_alloc_at _ _ _ (by first | rfl | simp) | rw [Below.heap_alloc _ _ _ (by first | (simp; done) | (simp; omega))])), (by (try simp only [heap_drew']); (try simp only [World.heap_drewN]); repeat (first | exact heap_alloc_at _ _ _ (by first | rfl | simp) | rw [Below.heap_alloc _ _ _ (by first | (simp; done) | (simp; omega))])), (by (try simp only [heap_drew']); (try simp only [World.heap_drewN]); repeat (first | exact heap_alloc_at _ _ _ (by first | rfl | simp) | rw [Below.heap_alloc _ _ _ (by first | (simp; done) | (simp; omega))])), by exact (by repeat first | (with_reducible assumption) | (with_reducible exact Keep.refl _ _) | (with_reducible refine Keep.alloc ?_ _) | (with_reducible refine Keep.drew ?_) | (with_reducible refine Keep.drewN ?_ _) | (with_reducible refine Keep.setCell ?_ (.inl (by first | omega | (simp; done) | (simp; omega) | fail)) _))⟩ ?_
  rintro X ⟨b1, b2, b3, b4, b5, hkX⟩
  have zX : w.heap.size + 1 + 1 + 1 + 1 < X.heap.size := (Array.getElem?_eq_some_iff.1 b5).1
  have KX := Lib.hid hkX
  have AT := Lib.hid (show ∀ Y, Keep (fun _ => False) X Y → Y.heap[w.heap.size + 1]? = some (.cells #[.slice A1 n1 c1, .slice A2 n2 c2, .slice A3 n3 c3] 28 (0, 0)) ∧ Y.heap[w.heap.size + 1 + 1 + 1]? = some (.cells #[.slice none 0 0, .slice none 0 0, .slice none 0 0] 28 (0, 0)) ∧ Y.heap[w.heap.size + 1 + 1 + 1 + 1]? = some (.cells #[.int .i64 0, .int .i64 0] 40 (0, 0)) ∧ Keep (fun _ => False) w Y from fun Y hk => ⟨(hk.block _ (by omega) (fun h => h)).trans b2, (hk.block _ (by omega) (fun h => h)).trans b4, (hk.block _ (by omega) (fun h => h)).trans b5, hkX.trans hk (fun _ _ h => h)⟩)
  obtain ⟨v0, v1, v2, v3, v4, vf⟩ := cells5 b1
  obtain ⟨x0, x1, x2, xf⟩ := cells3 b2
  obtain ⟨y0, y1, y2, y3, y4, yf⟩ := cells5 b3
  clear b1 b2 b3 b4 b5
  by_cases h1 : dd = 1
  · have RS := Lib.hid (R1.out h1)
    subst h1
    go_wp2_with fail
    with_reducible refine (DS.out X hkX).mono ?_
    rintro e w1 ⟨u1, rfl, hst1, hk1⟩
    obtain ⟨E1, q1, d1, E2, q2, d2, E3, q3, d3, rfl⟩ := hst1.shape
    clear v0 v1 v2 v3 v4 vf x0 x1 x2 xf y0 y1 y2 y3 y4 yf hkX
    have HS := Lib.hid hst1
    have B1 := Lib.hid (AT.out w1 hk1)
    have z1 := hk1.size
    clear hst1 hk1
    have BA := Lib.hid (show Keep (fun _ => False) w1 (w1.alloc (.cells #[.slice E1 q1 d1, .slice E2 q2 d2, .slice E3 q3 d3] 28 (0, 0))) from (Keep.refl _ w1).alloc _)
    have BB := Lib.hid (show (w1.alloc (.cells #[.slice E1 q1 d1, .slice E2 q2 d2, .slice E3 q3 d3] 28 (0, 0))).heap[w.heap.size + 1 + 1 + 1]? = some (.cells #[.slice none 0 0, .slice none 0 0, .slice none 0 0] 28 (0, 0)) ∧ (w1.alloc (.cells #[.slice E1 q1 d1, .slice E2 q2 d2, .slice E3 q3 d3] 28 (0, 0))).heap[w.heap.size + 1 + 1 + 1 + 1]? = some (.cells #[.int .i64 0, .int .i64 0] 40 (0, 0)) ∧ Keep (fun _ => False) w (w1.alloc (.cells #[.slice E1 q1 d1, .slice E2 q2 d2, .slice E3 q3 d3] 28 (0, 0))) from ⟨(BA.out.block _ (by omega) (fun h => h)).trans B1.out.2.1, (BA.out.block _ (by omega) (fun h => h)).trans B1.out.2.2.1, B1.out.2.2.2.trans BA.out (fun _ _ h => h)⟩)
    obtain ⟨z0, z2, z3, zf⟩ := cells3 BB.out.1
    obtain ⟨u0, u2, uf⟩ := cells2 BB.out.2.1
    obtain ⟨t0, t1, t2, tf⟩ := cells3 (heap_alloc_new w1 (.cells #[.slice E1 q1 d1, .slice E2 q2 d2, .slice E3 q3 d3] 28 (0, 0)))
    go_wp2
    have hend := SpEnd.mk (id := ⟨0, 0⟩) (X := X) ((HS.out.mono (G := SP F w X) (fun b _ h => h.elim (fun h => .inl h.1) .inr)).same BA.out) BB.out.1 BB.out.2.1 BB.out.2.2 (by omega) (by omega) (by omega)
    obtain ⟨E1', q1', d1', E2', q2', d2', E3', q3', d3', hb, hst, hid2, hkw⟩ := hend
    refine bodyPost_ret (results_gq Tryz.results23 _ _ (w.heap.size + 1 + 1 + 1) (w.heap.size + 1 + 1 + 1 + 1) (.slice E1' q1' d1') (.slice E2' q2' d2') (.slice E3' q3' d3') (.int .i64 0) (.int .i64 0) ?_ ?_ ?_ ?_ (.slice none 0 0) (.int .i64 rds.2) ?_ ?_) ?_ ⟨.agg #[.slice E1' q1' d1', .slice E2' q2' d2', .slice E3' q3' d3'], none, 0, 0, ?_, ?_, ?_, ?_⟩
    · rfl
    · exact hb
    · rfl
    · exact hid2
    · rfl
    · rfl
    · rfl
    · rw [RS.out]
    · rw [RS.out]; exact hst
    · rw [RS.out]; exact By.nil _ _
    · exact hkw
  have g1 : (dd == 1) = false := by simp [h1]
  by_cases h2 : dd = 2
  · have RS := Lib.hid (R2.out h2)
    subst h2
    go_wp2_with fail
    with_reducible refine (ST.out X hkX).mono ?_
    rintro e w1 ⟨u1, rfl, hst1, hk1⟩
    obtain ⟨E1, q1, d1, E2, q2, d2, E3, q3, d3, rfl⟩ := hst1.shape
    clear v0 v1 v2 v3 v4 vf x0 x1 x2 xf y0 y1 y2 y3 y4 yf hkX
    have HS := Lib.hid hst1
    have B1 := Lib.hid (AT.out w1 hk1)
    have z1 := hk1.size
    clear hst1 hk1
    have BA := Lib.hid (show Keep (fun _ => False) w1 (w1.alloc (.cells #[.slice E1 q1 d1, .slice E2 q2 d2, .slice E3 q3 d3] 28 (0, 0))) from (Keep.refl _ w1).alloc _)
    have BB := Lib.hid (show (w1.alloc (.cells #[.slice E1 q1 d1, .slice E2 q2 d2, .slice E3 q3 d3] 28 (0, 0))).heap[w.heap.size + 1 + 1 + 1]? = some (.cells #[.slice none 0 0, .slice none 0 0, .slice none 0 0] 28 (0, 0)) ∧ (w1.alloc (.cells #[.slice E1 q1 d1, .slice E2 q2 d2, .slice E3 q3 d3] 28 (0, 0))).heap[w.heap.size + 1 + 1 + 1 + 1]? = some (.cells #[.int .i64 0, .int .i64 0] 40 (0, 0)) ∧ Keep (fun _ => False) w (w1.alloc (.cells #[.slice E1 q1 d1, .slice E2 q2 d2, .slice E3 q3 d3] 28 (0, 0))) from ⟨(BA.out.block _ (by omega) (fun h => h)).trans B1.out.2.1, (BA.out.block _ (by omega) (fun h => h)).trans B1.out.2.2.1, B1.out.2.2.2.trans BA.out (fun _ _ h => h)⟩)
    obtain ⟨z0, z2, z3, zf⟩ := cells3 BB.out.1
    obtain ⟨u0, u2, uf⟩ := cells2 BB.out.2.1
    obtain ⟨t0, t1, t2, tf⟩ := cells3 (heap_alloc_new w1 (.cells #[.slice E1 q1 d1, .slice E2 q2 d2, .slice E3 q3 d3] 28 (0, 0)))
    go_wp2
    have hend := SpEnd.mk (id := ⟨0, 0⟩) (X := X) ((HS.out.mono (G := SP F w X) (fun b _ h => h.elim (fun h => .inl h.1) .inr)).same BA.out) BB.out.1 BB.out.2.1 BB.out.2.2 (by omega) (by omega) (by omega)
    obtain ⟨E1', q1', d1', E2', q2', d2', E3', q3', d3', hb, hst, hid2, hkw⟩ := hend
    refine bodyPost_ret (results_gq Tryz.results23 _ _ (w.heap.size + 1 + 1 + 1) (w.heap.size + 1 + 1 + 1 + 1) (.slice E1' q1' d1') (.slice E2' q2' d2') (.slice E3' q3' d3') (.int .i64 0) (.int .i64 0) ?_ ?_ ?_ ?_ (.slice none 0 0) (.int .i64 rst.2) ?_ ?_) ?_ ⟨.agg #[.slice E1' q1' d1', .slice E2' q2' d2', .slice E3' q3' d3'], none, 0, 0, ?_, ?_, ?_, ?_⟩
    · rfl
    · exact hb
    · rfl
    · exact hid2
    · rfl
    · rfl
    · rfl
    · rw [RS.out]
    · rw [RS.out]; exact hst
    · rw [RS.out]; exact By.nil _ _
    · exact hkw
  have g2 : (dd == 2) = false := by simp [h2]
  by_cases h3 : dd = 3
  · have RS := Lib.hid (R3.out h3)
    subst h3
    go_wp2_with fail
    with_reducible refine (RM.out X hkX).mono ?_
    rintro e w1 ⟨u1, rfl, hst1, hk1⟩
    obtain ⟨E1, q1, d1, E2, q2, d2, E3, q3, d3, rfl⟩ := hst1.shape
    clear v0 v1 v2 v3 v4 vf x0 x1 x2 xf y0 y1 y2 y3 y4 yf hkX
    have HS := Lib.hid hst1
    have B1 := Lib.hid (AT.out w1 hk1)
    have z1 := hk1.size
    clear hst1 hk1
    have BA := Lib.hid (show Keep (fun _ => False) w1 (w1.alloc (.cells #[.slice E1 q1 d1, .slice E2 q2 d2, .slice E3 q3 d3] 28 (0, 0))) from (Keep.refl _ w1).alloc _)
    have BB := Lib.hid (show (w1.alloc (.cells #[.slice E1 q1 d1, .slice E2 q2 d2, .slice E3 q3 d3] 28 (0, 0))).heap[w.heap.size + 1 + 1 + 1]? = some (.cells #[.slice none 0 0, .slice none 0 0, .slice none 0 0] 28 (0, 0)) ∧ (w1.alloc (.cells #[.slice E1 q1 d1, .slice E2 q2 d2, .slice E3 q3 d3] 28 (0, 0))).heap[w.heap.size + 1 + 1 + 1 + 1]? = some (.cells #[.int .i64 0, .int .i64 0] 40 (0, 0)) ∧ Keep (fun _ => False) w (w1.alloc (.cells #[.slice E1 q1 d1, .slice E2 q2 d2, .slice E3 q3 d3] 28 (0, 0))) from ⟨(BA.out.block _ (by omega) (fun h => h)).trans B1.out.2.1, (BA.out.block _ (by omega) (fun h => h)).trans B1.out.2.2.1, B1.out.2.2.2.trans BA.out (fun _ _ h => h)⟩)
    obtain ⟨z0, z2, z3, zf⟩ := cells3 BB.out.1
    obtain ⟨u0, u2, uf⟩ := cells2 BB.out.2.1
    obtain ⟨t0, t1, t2, tf⟩ := cells3 (heap_alloc_new w1 (.cells #[.slice E1 q1 d1, .slice E2 q2 d2, .slice E3 q3 d3] 28 (0, 0)))
    go_wp2
    have hend := SpEnd.mk (id := ⟨0, 0⟩) (X := X) ((HS.out.mono (G := SP F w X) (fun b _ h => h.elim (fun h => .inl h.1) .inr)).same BA.out) BB.out.1 BB.out.2.1 BB.out.2.2 (by omega) (by omega) (by omega)
    obtain ⟨E1', q1', d1', E2', q2', d2', E3', q3', d3', hb, hst, hid2, hkw⟩ := hend
    refine bodyPost_ret (results_gq Tryz.results23 _ _ (w.heap.size + 1 + 1 + 1) (w.heap.size + 1 + 1 + 1 + 1) (.slice E1' q1' d1') (.slice E2' q2' d2') (.slice E3' q3' d3') (.int .i64 0) (.int .i64 0) ?_ ?_ ?_ ?_ (.slice none 0 0) (.int .i64 rrm.2) ?_ ?_) ?_ ⟨.agg #[.slice E1' q1' d1', .slice E2' q2' d2', .slice E3' q3' d3'], none, 0, 0, ?_, ?_, ?_, ?_⟩
    · rfl
    · exact hb
    · rfl
    · exact hid2
    · rfl
    · rfl
    · rfl
    · rw [RS.out]
    · rw [RS.out]; exact hst
    · rw [RS.out]; exact By.nil _ _
    · exact hkw
  have g3 : (dd == 3) = false := by simp [h3]
  by_cases h4 : dd = 4
  · have RS := Lib.hid (R4.out h4)
    subst h4
    go_wp2_with fail
    with_reducible refine (GT.out X hkX).mono ?_
    rintro e w1 ⟨A9, n9, c9, rfl, hby, hk1⟩
    clear v0 v1 v2 v3 v4 vf x0 x1 x2 xf y0 y1 y2 y3 y4 yf
    have HB := Lib.hid hby
    have B1 := Lib.hid (AT.out w1 hk1)
    have K1 := Lib.hid (hkX.trans hk1 (fun _ _ h => h))
    clear hby hk1 hkX
    obtain ⟨x0, x1, x2, xf⟩ := cells3 B1.out.1
    obtain ⟨z0, z2, z3, zf⟩ := cells3 B1.out.2.1
    obtain ⟨u0, u2, uf⟩ := cells2 B1.out.2.2.1
    go_wp2
    have hend := SpEnd.mk (id := ⟨0, 0⟩) (X := X) ((HU.out.mono (G := SP F w X) (fun b _ h => .inl h)).same K1.out) B1.out.2.1 B1.out.2.2.1 B1.out.2.2.2 (by omega) (by omega) (by omega)
    have BE := Lib.hid (By.keep (HB.out.mono (G := SP F w X) (fun b _ h => .inl h)) (keepGo w1 (w.heap.size + 1 + 1 + 1) (w.heap.size + 1 + 1 + 1 + 1) (.slice A1 n1 c1) (.slice A2 n2 c2) (.slice A3 n3 c3) (.int .i64 0) (.int .i64 0)) (fun b _ h e => h.elim (fun h => by have := h.2; rcases e with e | e <;> omega) (fun h => by rcases e with e | e <;> omega)))
    obtain ⟨E1', q1', d1', E2', q2', d2', E3', q3', d3', hb, hst, hid2, hkw⟩ := hend
    refine bodyPost_ret (results_gq Tryz.results23 _ _ (w.heap.size + 1 + 1 + 1) (w.heap.size + 1 + 1 + 1 + 1) (.slice E1' q1' d1') (.slice E2' q2' d2') (.slice E3' q3' d3') (.int .i64 0) (.int .i64 0) ?_ ?_ ?_ ?_ (.slice A9 n9 c9) (.int .i64 rgt.2) ?_ ?_) ?_ ⟨.agg #[.slice E1' q1' d1', .slice E2' q2' d2', .slice E3' q3' d3'], A9, n9, c9, ?_, ?_, ?_, ?_⟩
    · rfl
    · exact hb
    · rfl
    · exact hid2
    · rfl
    · rfl
    · rfl
    · rw [RS.out]
    · rw [RS.out]; exact hst
    · rw [RS.out]; exact BE.out.mono (fun b _ h => h.elim .inl (fun h => .inr (by omega)))
    · exact hkw
  have g4 : (dd == 4) = false := by simp [h4]
  have RS := Lib.hid (R5.out h1 h2 h3 h4)
  go_wp2_with fail
  with_reducible refine (SW.out X hkX).mono ?_
  rintro e w1 ⟨u1, rfl, hst1, hk1⟩
  obtain ⟨E1, q1, d1, E2, q2, d2, E3, q3, d3, rfl⟩ := hst1.shape
  obtain ⟨rs1, ⟨rix, rgn⟩, rer⟩ := rsp
  simp only at RS hst1
  clear v0 v1 v2 v3 v4 vf x0 x1 x2 xf y0 y1 y2 y3 y4 yf hkX
  have HS := Lib.hid hst1
  have B1 := Lib.hid (AT.out w1 hk1)
  have z1 := hk1.size
  clear hst1 hk1
  go_upto_region 14 with fail
  refine wp_world (S := fun V => V.heap[w1.heap.size]? = some (.cells #[.slice E1 q1 d1, .slice E2 q2 d2, .slice E3 q3 d3] 28 (0, 0)) ∧ V.heap[w1.heap.size + 1]? = some (.cells #[.int .i64 rix, .int .i64 rgn] 40 (0, 0)) ∧ Keep (fun _ => False) w1 V) ⟨(by (try simp only [heap_drew']); (try simp only [World.heap_drewN]); repeat (first | exact heap_alloc_at _ _ _ (by first | rfl | simp) | rw [Below.heap_alloc _ _ _ (by first | (simp; done) | (simp; omega))])), (by (try simp only [heap_drew']); (try simp only [World.heap_drewN]); repeat (first | exact heap_alloc_at _ _ _ (by first | rfl | simp) | rw [Below.heap_alloc _ _ _ (by first | (simp; done) | (simp; omega))])), by exact (by repeat first | (with_reducible assumption) | (with_reducible exact Keep.refl _ _) | (with_reducible refine Keep.alloc ?_ _) | (with_reducible refine Keep.drew ?_) | (with_reducible refine Keep.drewN ?_ _) | (with_reducible refine Keep.setCell ?_ (.inl (by first | omega | (simp; done) | (simp; omega) | fail)) _))⟩ ?_
  rintro V ⟨b1, b2, hkV⟩
  have BB := Lib.hid (show V.heap[w.heap.size + 1 + 1 + 1]? = some (.cells #[.slice none 0 0, .slice none 0 0, .slice none 0 0] 28 (0, 0)) ∧ V.heap[w.heap.size + 1 + 1 + 1 + 1]? = some (.cells #[.int .i64 0, .int .i64 0] 40 (0, 0)) ∧ Keep (fun _ => False) w V from ⟨(hkV.block _ (by omega) (fun h => h)).trans B1.out.2.1, (hkV.block _ (by omega) (fun h => h)).trans B1.out.2.2.1, B1.out.2.2.2.trans hkV (fun _ _ h => h)⟩)
  have HV := Lib.hid ((HS.out.mono (G := SP F w X) (fun b _ h => h.elim (fun h => .inl h.1) .inr)).same hkV)
  obtain ⟨t0, t1, t2, tf⟩ := cells3 b1
  obtain ⟨r0, r1, rf⟩ := cells2 b2
  obtain ⟨z0, z2, z3, zf⟩ := cells3 BB.out.1
  obtain ⟨u0, u2, uf⟩ := cells2 BB.out.2.1
  clear b1 b2 hkV
  go_cut [8, 9] (fun t8 t wx => t8 = .slice none 0 0 ∧ t = .int .i64 rer ∧ Hid (SpEnd w F (w.heap.size + 1 + 1 + 1) (w.heap.size + 1 + 1 + 1 + 1) rs1 ⟨rix, rgn⟩ wx))
  case first =>
    go_region_law (fail)
    all_goals
      go_wp2_with fail
      go_meet
      refine ⟨by rfl, by rfl, Lib.hid ?_⟩
      first
        | with_reducible exact SpEnd.mk HV.out BB.out.1 BB.out.2.1 BB.out.2.2 (by omega) (by omega) (by omega)
        | with_reducible exact SpEnd.drew (SpEnd.mk HV.out BB.out.1 BB.out.2.1 BB.out.2.2 (by omega) (by omega) (by omega))
        | with_reducible exact SpEnd.mk' HV.out BB.out.1 BB.out.2.1 BB.out.2.2 (by omega) (by omega) (by omega)
        | with_reducible exact SpEnd.drew (SpEnd.mk' HV.out BB.out.1 BB.out.2.1 BB.out.2.2 (by omega) (by omega) (by omega))
  case rest =>
    obtain ⟨rfl, rfl, hend0⟩ := hcut
    have hend := hend0.out
    go_wp2
    obtain ⟨E1', q1', d1', E2', q2', d2', E3', q3', d3', hb, hst, hid2, hkw⟩ := hend
    refine bodyPost_ret (results_gq Tryz.results23 _ _ (w.heap.size + 1 + 1 + 1) (w.heap.size + 1 + 1 + 1 + 1) (.slice E1' q1' d1') (.slice E2' q2' d2') (.slice E3' q3' d3') (.int .i64 rix) (.int .i64 rgn) ?_ ?_ ?_ ?_ (.slice none 0 0) (.int .i64 rer) ?_ ?_) ?_ ⟨.agg #[.slice E1' q1' d1', .slice E2' q2' d2', .slice E3' q3' d3'], none, 0, 0, ?_, ?_, ?_, ?_⟩
    · rfl
    · exact hb
    · rfl
    · exact hid2
    · rfl
    · rfl
    · rfl
    · rw [RS.out]
    · rw [RS.out]; exact hst
    · rw [RS.out]; exact By.nil _ _
    · exact hkw
end Go.Proofs.YtglliendhbkkhaaGreatDoor
namespace Go.Proofs.YtglliendhbkkhaaGreatDoor
open Go.RowKit
set_option maxRecDepth 100000
set_option linter.unusedVariables false
set_option linter.unusedSimpArgs false

theorem InvC.sok {c : Cf} {a : Co} (h : InvC c a) : SOk c (absC a) := by
  have hn := h.na
  have h1 := hn.few
  have h2 := hn.ents
  have hgl : (absC a).gens.length = a.na.sl.length := by
    show (ints (gensI a.na)).length = _
    simp [ints, gensI]
  have hfl : (absC a).free.length ≤ a.na.sl.length := by
    show (ints a.na.free).length ≤ _
    rw [show (ints a.na.free).length = a.na.free.length by simp [ints]]
    exact nodup_few _ _ hn.nodup (fun i hi => (hn.fr i hi).1)
  have hgd : ∀ i, i < a.na.sl.length → (absC a).gens.getD i 0 = (((a.na.sl.getD i (0, false)).1 : Nat) : Int) := fun i hi => by
    show (ints (gensI a.na)).getD i 0 = _
    rw [List.getD_eq_getElem?_getD, List.getD_eq_getElem?_getD]
    simp [ints, gensI, List.getElem?_eq_getElem hi]
  refine ⟨?_, fun e he => ?_, by omega, by omega, by rw [← h.lim]; have := hn.lim; omega, fun x p hp => ?_, fun i hi => ?_⟩
  · show (entsC a (stN a.na) a.na.sl.length).length ≤ 1024
    unfold entsC
    refine Nat.le_trans (List.length_filterMap_le _ _) ?_
    rw [List.length_range]; omega
  · have he' : e ∈ entsC a (stN a.na) a.na.sl.length := he
    obtain ⟨i, g, hi, hL, e9⟩ := entsC_mem.1 he'
    have h9 := (show (entP a i).length ≤ 64 from by
      unfold entP rowT
      rw [List.length_map]
      exact bl_len _ _)
    rw [e9]
    dsimp only
    exact h9
  · have ha : aliveI a.na x = true := by
      by_cases ha : aliveI a.na x = true
      · exact ha
      · rw [place_no ha] at hp; cases hp
    obtain ⟨i, g, rfl, hst⟩ := aliveI_st.1 ha
    have hi := stN_lt hst
    unfold stN at hst
    split at hst
    · rename_i h9
      have hg : (a.na.sl.getD i (0, false)).1 = g := Option.some.inj hst
      have hmem : a.na.sl.getD i (0, false) ∈ a.na.sl := by
        rw [List.getD_eq_getElem?_getD, List.getElem?_eq_getElem hi]
        exact List.getElem_mem _
      refine ⟨i, rfl, by rw [hgl]; exact hi, by rw [hgd i hi, hg], fun hm => ?_, by rw [hgd i hi]; omega, by rw [hgd i hi, ← h.lim]; have := (hn.gens _ hmem).2 h9; omega⟩
      have := (hn.fr i ((ints_mem _ _).1 hm)).2.1
      rw [h9] at this; cases this
    · cases hst
  · have hm : i ∈ ints a.na.free := List.mem_of_getLast? hi
    unfold ints at hm
    obtain ⟨k, hk, rfl⟩ := List.mem_map.1 hm
    exact ⟨k, rfl, by rw [hgl]; exact (hn.fr k hk).1⟩
end Go.Proofs.YtglliendhbkkhaaGreatDoor
namespace Go.Proofs.YtglliendhbkkhaaGreatDoor
open Go.RowKit
set_option maxRecDepth 100000
set_option linter.unusedVariables false
set_option linter.unusedSimpArgs false

def AlD (W : World) (p : Nat) : Prop := W.heap[p]? = some (.cells #[.int .i64 0, .int .i64 0] 40 (0, 0))
section
variable {W W' : World} {p : Nat}
theorem AlD.new (W : World) : AlD (W.alloc (.cells #[.int .i64 0, .int .i64 0] 40 (0, 0))) W.heap.size := heap_alloc_new W _
theorem AlD.lt (h : AlD W p) : p < W.heap.size := (Array.getElem?_eq_some_iff.1 h).1
theorem AlD.drew (h : AlD W p) : AlD W.drew p := h
theorem AlD.alloc (h : AlD W p) (o : Obj) : AlD (W.alloc o) p := (((Keep.refl (fun _ => False) W).alloc o).block p h.lt (fun h => h)).trans h
theorem AlD.keep (h : AlD W p) (hk : Keep (fun _ => False) W W') : AlD W' p ∧ p < W.heap.size := ⟨(hk.block _ h.lt (fun h => h)).trans h, h.lt⟩
theorem AlS.alloc (h : AlS W p) (o : Obj) : AlS (W.alloc o) p := (((Keep.refl (fun _ => False) W).alloc o).block p h.lt (fun h => h)).trans h
end
theorem set3_new (w : World) (p : Nat) (x y z : Value) (o : Obj) : ((((w.setCell ⟨p, 0, none⟩ x).setCell ⟨p, 1, none⟩ y).setCell ⟨p, 2, none⟩ z).alloc o).heap[w.heap.size]? = some o := heap_alloc_at _ _ _ (by simp)
def GCut (X : World) (p13 p14 : Nat) (a b c e0 e1 : Value) (Q : World → Prop) (wx : World) : Prop :=
  wx.heap[p13]? = some (.cells #[a, b, c] 28 (0, 0)) ∧ wx.heap[p14]? = some (.cells #[e0, e1] 40 (0, 0)) ∧ X.heap.size ≤ p13 ∧ X.heap.size ≤ p14 ∧ Q wx
def GHyp (X w6 : World) (ysz : Nat) (Q : World → Prop) : Prop := ∀ wx p13 p14, Keep (fun b => b = p13 ∨ b = p14) w6 wx → X.heap.size ≤ p13 → X.heap.size ≤ p14 → (p13 < ysz ∨ w6.heap.size ≤ p13) → (p14 < ysz ∨ w6.heap.size ≤ p14) → Q wx
section
variable {X w6 wx : World} {p13 p14 ysz : Nat} {a b c e0 e1 : Value} {Q : World → Prop}
theorem gcut_of (HG : GHyp X w6 ysz Q) (kx : Keep (fun b => b = p13 ∨ b = p14) w6 wx) (h13 : wx.heap[p13]? = some (.cells #[a, b, c] 28 (0, 0))) (h14 : wx.heap[p14]? = some (.cells #[e0, e1] 40 (0, 0))) (l13 : X.heap.size ≤ p13) (l14 : X.heap.size ≤ p14)
    (y13 : p13 < ysz ∨ w6.heap.size ≤ p13) (y14 : p14 < ysz ∨ w6.heap.size ≤ p14) : GCut X p13 p14 a b c e0 e1 Q wx := ⟨h13, h14, l13, l14, HG wx p13 p14 kx l13 l14 y13 y14⟩
theorem gcut1 (HG : GHyp X w6 ysz Q) (k6 : Keep (fun _ => False) X w6) : GCut X w6.heap.size (w6.heap.size + 1) a b c e0 e1 Q ((w6.alloc (.cells #[a, b, c] 28 (0, 0))).alloc (.cells #[e0, e1] 40 (0, 0))) := by
  have hz := k6.size
  exact gcut_of HG (((Keep.refl _ w6).alloc _).alloc _) ((((Keep.refl (fun _ => False) _).alloc _).block _ (by simp) (fun h => h)).trans (heap_alloc_new w6 _)) (heap_alloc_at _ _ _ (by simp)) hz (by omega) (.inr (Nat.le_refl _)) (.inr (by omega))
theorem gcut2 (HG : GHyp X w6 ysz Q) (k6 : Keep (fun _ => False) X w6) : GCut X (w6.heap.size + 1) w6.heap.size a b c e0 e1 Q ((w6.alloc (.cells #[e0, e1] 40 (0, 0))).alloc (.cells #[a, b, c] 28 (0, 0))) := by
  have hz := k6.size
  exact gcut_of HG (((Keep.refl _ w6).alloc _).alloc _) (heap_alloc_at _ _ _ (by simp)) ((((Keep.refl (fun _ => False) _).alloc _).block _ (by simp) (fun h => h)).trans (heap_alloc_new w6 _)) (by omega) hz (.inr (by omega)) (.inr (Nat.le_refl _))
theorem gcut3 (HG : GHyp X w6 ysz Q) (k6 : Keep (fun _ => False) X w6) (AL : AlS w6 p13) (l13 : X.heap.size ≤ p13) (y13 : p13 < ysz) : GCut X p13 w6.heap.size a b c e0 e1 Q ((((((w6.alloc (.cells #[.int .i64 0, .int .i64 0] 40 (0, 0))).setCell ⟨p13, 0, none⟩ a).setCell ⟨p13, 1, none⟩ b).setCell ⟨p13, 2, none⟩ c).setCell ⟨w6.heap.size, 0, none⟩ e0).setCell ⟨w6.heap.size, 1, none⟩ e1) := by
  have hz := k6.size
  have hlt := AL.lt
  have h2 := heap_3J (AL.alloc (.cells #[.int .i64 0, .int .i64 0] 40 (0, 0))) a b c
  have k3 := keep3R (w6.alloc (.cells #[.int .i64 0, .int .i64 0] 40 (0, 0))) p13 a b c
  have h3 := (k3.block w6.heap.size (by simp) (fun e => by have : w6.heap.size = p13 := e; omega)).trans (heap_alloc_new w6 _)
  have k2 := keep2 ((((w6.alloc (.cells #[.int .i64 0, .int .i64 0] 40 (0, 0))).setCell ⟨p13, 0, none⟩ a).setCell ⟨p13, 1, none⟩ b).setCell ⟨p13, 2, none⟩ c) w6.heap.size e0 e1
  exact gcut_of HG ((((Keep.refl _ w6).alloc _).trans (k3.mono (T := fun b => b = p13 ∨ b = w6.heap.size) (fun _ _ h => .inl h)) (fun _ _ h => h)).trans (k2.mono (T := fun b => b = p13 ∨ b = w6.heap.size) (fun _ _ h => .inr h)) (fun _ _ h => h)) ((k2.block _ (Array.getElem?_eq_some_iff.1 h2).1 (fun e => by have : p13 = w6.heap.size := e; omega)).trans h2) (heap_twoJ h3 _ _) l13 hz (.inl y13) (.inr (Nat.le_refl _))
theorem gcut3b (HG : GHyp X w6 ysz Q) (k6 : Keep (fun _ => False) X w6) (AL : AlS w6 p13) (l13 : X.heap.size ≤ p13) (y13 : p13 < ysz) : GCut X p13 w6.heap.size a b c e0 e1 Q ((((((w6.setCell ⟨p13, 0, none⟩ a).setCell ⟨p13, 1, none⟩ b).setCell ⟨p13, 2, none⟩ c).alloc (.cells #[.int .i64 0, .int .i64 0] 40 (0, 0))).setCell ⟨w6.heap.size, 0, none⟩ e0).setCell ⟨w6.heap.size, 1, none⟩ e1) := by
  have hz := k6.size
  have hlt := AL.lt
  have k3 := keep3R w6 p13 a b c
  have hs : (((w6.setCell ⟨p13, 0, none⟩ a).setCell ⟨p13, 1, none⟩ b).setCell ⟨p13, 2, none⟩ c).heap.size = w6.heap.size := by simp
  have h2 := (((Keep.refl (fun _ => False) (((w6.setCell ⟨p13, 0, none⟩ a).setCell ⟨p13, 1, none⟩ b).setCell ⟨p13, 2, none⟩ c)).alloc (.cells #[.int .i64 0, .int .i64 0] 40 (0, 0))).block p13 (by omega) (fun h => h)).trans (heap_3J AL a b c)
  have h3 := set3_new w6 p13 a b c (.cells #[.int .i64 0, .int .i64 0] 40 (0, 0))
  have k2 := keep2 ((((w6.setCell ⟨p13, 0, none⟩ a).setCell ⟨p13, 1, none⟩ b).setCell ⟨p13, 2, none⟩ c).alloc (.cells #[.int .i64 0, .int .i64 0] 40 (0, 0))) w6.heap.size e0 e1
  exact gcut_of HG (((k3.mono (T := fun b => b = p13 ∨ b = w6.heap.size) (fun _ _ h => .inl h)).alloc _).trans (k2.mono (T := fun b => b = p13 ∨ b = w6.heap.size) (fun _ _ h => .inr h)) (fun _ _ h => h)) ((k2.block _ (Array.getElem?_eq_some_iff.1 h2).1 (fun e => by have : p13 = w6.heap.size := e; omega)).trans h2) (heap_twoJ h3 _ _) l13 hz (.inl y13) (.inr (Nat.le_refl _))
theorem gcut3c (HG : GHyp X w6 ysz Q) (k6 : Keep (fun _ => False) X w6) (AL : AlS w6 p13) (l13 : X.heap.size ≤ p13) (y13 : p13 < ysz) : GCut X p13 w6.heap.size a b c e0 e1 Q ((((w6.setCell ⟨p13, 0, none⟩ a).setCell ⟨p13, 1, none⟩ b).setCell ⟨p13, 2, none⟩ c).alloc (.cells #[e0, e1] 40 (0, 0))) := by
  have hz := k6.size
  have hlt := AL.lt
  have k3 := keep3R w6 p13 a b c
  have hs : (((w6.setCell ⟨p13, 0, none⟩ a).setCell ⟨p13, 1, none⟩ b).setCell ⟨p13, 2, none⟩ c).heap.size = w6.heap.size := by simp
  have h2 := (((Keep.refl (fun _ => False) (((w6.setCell ⟨p13, 0, none⟩ a).setCell ⟨p13, 1, none⟩ b).setCell ⟨p13, 2, none⟩ c)).alloc (.cells #[e0, e1] 40 (0, 0))).block p13 (by omega) (fun h => h)).trans (heap_3J AL a b c)
  exact gcut_of HG ((k3.mono (T := fun b => b = p13 ∨ b = w6.heap.size) (fun _ _ h => .inl h)).alloc _) h2 (set3_new w6 p13 a b c _) l13 hz (.inl y13) (.inr (Nat.le_refl _))
theorem gcut4 (HG : GHyp X w6 ysz Q) (AL : AlS w6 p13) (AG : AlD w6 p14) (hne : p13 ≠ p14) (l13 : X.heap.size ≤ p13) (y13 : p13 < ysz) (l14 : X.heap.size ≤ p14) (y14 : p14 < ysz) : GCut X p13 p14 a b c e0 e1 Q (((((w6.setCell ⟨p13, 0, none⟩ a).setCell ⟨p13, 1, none⟩ b).setCell ⟨p13, 2, none⟩ c).setCell ⟨p14, 0, none⟩ e0).setCell ⟨p14, 1, none⟩ e1) := by
  have k3 := keep3R w6 p13 a b c
  have h2 := heap_3J AL a b c
  have h3 := (k3.block p14 AG.lt (fun e => hne (show p14 = p13 from e).symm)).trans AG
  have k2 := keep2 (((w6.setCell ⟨p13, 0, none⟩ a).setCell ⟨p13, 1, none⟩ b).setCell ⟨p13, 2, none⟩ c) p14 e0 e1
  exact gcut_of HG ((k3.mono (T := fun b => b = p13 ∨ b = p14) (fun _ _ h => .inl h)).trans (k2.mono (T := fun b => b = p13 ∨ b = p14) (fun _ _ h => .inr h)) (fun _ _ h => h)) ((k2.block _ (Array.getElem?_eq_some_iff.1 h2).1 (fun e => hne e)).trans h2) (heap_twoJ h3 _ _) l13 l14 (.inl y13) (.inl y14)
theorem gcut5 (HG : GHyp X w6 ysz Q) (k6 : Keep (fun _ => False) X w6) (AG : AlD w6 p14) (l14 : X.heap.size ≤ p14) (y14 : p14 < ysz) : GCut X w6.heap.size p14 a b c e0 e1 Q (((w6.alloc (.cells #[a, b, c] 28 (0, 0))).setCell ⟨p14, 0, none⟩ e0).setCell ⟨p14, 1, none⟩ e1) := by
  have hz := k6.size
  have hlt := AG.lt
  have h2 := heap_alloc_new w6 (.cells #[a, b, c] 28 (0, 0))
  have h3 := AG.alloc (.cells #[a, b, c] 28 (0, 0))
  have k2 := keep2 (w6.alloc (.cells #[a, b, c] 28 (0, 0))) p14 e0 e1
  exact gcut_of HG (((Keep.refl (fun b => b = w6.heap.size ∨ b = p14) w6).alloc _).trans (k2.mono (T := fun b => b = w6.heap.size ∨ b = p14) (fun _ _ h => .inr h)) (fun _ _ h => h)) ((k2.block _ (Array.getElem?_eq_some_iff.1 h2).1 (fun e => by have : w6.heap.size = p14 := e; omega)).trans h2) (heap_twoJ h3 _ _) hz l14 (.inr (Nat.le_refl _)) (.inl y14)
end
theorem StM.shape2 {w : World} {F : Nat → Prop} {u : Value} {s : SZ} (h : StM w F u s) : ∃ A1 n1 c1 A2 n2 c2 A3 c3, u = .agg #[.slice A1 n1 c1, .slice A2 n2 c2, .slice A3 s.ents.length c3] := by
  obtain ⟨A1, c1, A2, c2, A3, c3, e, -⟩ := h.form
  exact ⟨_, _, _, _, _, _, _, _, e⟩
theorem ghyp_of {V2 Y w6 : World} {FS P : Nat → Prop} {u d : Value} {s : SZ} {dat : List UInt8} (hk : Keep (fun _ => False) Y w6) (hst : StM w6 (SF FS Y) u s) (hby : By w6 (SF FS Y) d dat) (hV : Keep (fun _ => False) V2 Y) (hFS : ∀ b, FS b → b < V2.heap.size) (hP1 : ∀ b, FS b → P b) (hP2 : ∀ b, V2.heap.size ≤ b → P b) :
    GHyp V2 w6 Y.heap.size (fun wx => StM wx P u s ∧ By wx P d dat ∧ Keep (fun _ => False) V2 wx) := by
  intro wx p13 p14 kx l13 l14 y13 y14
  have hz := hV.size
  have ns : ∀ b, b < w6.heap.size → SF FS Y b → ¬ (b = p13 ∨ b = p14) := fun b hb h e => by
    rcases h with h | h
    · have := hFS b h.1; omega
    · omega
  have mv : ∀ b, SF FS Y b → P b := fun b h => h.elim (fun h => hP1 b h.1) (fun h => hP2 b (by omega))
  exact ⟨(hst.keep kx ns).mono (fun b _ h => mv b h), (By.keep hby kx ns).mono (fun b _ h => mv b h), (hV.trans hk (fun _ _ h => h)).trans kx (fun b hb h => by omega)⟩
theorem InvC.grow {c : Cf} {a : Co} (h : InvC c a) {m : Nat} (hm : m ≤ a.sigs.length) : InvC c (growC a m) ∧ absC (growC a m) = absC a := by
  have eT : ∀ j, tbAt (growC a m) j = tbAt a j := fun j => tbAt_grow a m j
  have eE : ∀ i, entP (growC a m) i = entP a i := fun i => by
    show rowT (sgAt a (spAt a i).node) (tbAt (growC a m) (spAt a i).node).col (spAt a i).row = _
    rw [eT]; rfl
  have eL : (growC a m).tabs.length ≤ a.sigs.length := by
    have := h.few
    unfold growC
    simp only [List.length_append, List.length_replicate]
    omega
  refine ⟨⟨⟨fun i g hL => ?_, fun j r x hx => ?_, fun j d hd => ?_⟩, h.na, h.ents, h.lim, eL, h.sg0, h.sgs⟩, ?_⟩
  · obtain ⟨h1, h2, h3⟩ := h.ok.st i g hL
    refine ⟨h1, ?_, ?_⟩
    · show (spAt a i).node < (growC a m).tabs.length
      unfold growC
      simp only [List.length_append]
      omega
    · show (tbAt (growC a m) (spAt a i).node).ids[(spAt a i).row]? = _
      rw [eT]; exact h3
  · rw [eT] at hx
    exact h.ok.bk j r x hx
  · have es : sgAt (growC a m) j = sgAt a j := rfl
    rw [es] at hd
    have := h.ok.col j d hd
    rw [eT]
    exact this
  · have hE : entsC (growC a m) (stN a.na) a.na.sl.length = entsC a (stN a.na) a.na.sl.length := by
      unfold entsC
      refine congrArg (fun f => List.filterMap f _) (funext fun i => ?_)
      rw [eE]
    show SZ.mk (ints (gensI a.na)) (ints a.na.free) (entsC (growC a m) (stN a.na) a.na.sl.length) = SZ.mk (ints (gensI a.na)) (ints a.na.free) (entsC a (stN a.na) a.na.sl.length)
    rw [hE]
end Go.Proofs.YtglliendhbkkhaaGreatDoor

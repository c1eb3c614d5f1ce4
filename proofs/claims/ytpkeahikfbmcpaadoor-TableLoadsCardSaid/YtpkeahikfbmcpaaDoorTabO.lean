/- vivariumref09.Go: an add. -/
import Derived.Test.YtpkeahikfbmcpaaDoorTabJ
namespace Go.Proofs.YtpkeahikfbmcpaaDoor
open Go.RowKit
set_option maxRecDepth 100000
set_option linter.unusedVariables false
set_option linter.unusedSimpArgs false

section
variable {w : World} {F : Nat → Prop} {u : Value} {L : List Nat} {sz : Nat → Nat} {rows : List EnZ}
set_option maxHeartbeats 1000000 in
theorem rgo_add (h : RT w F u L sz rows) (x : StZ) (p d : Value) (hp : NS parN w F p x.parts) (hd : By w F d x.data) (hP : x.parts.length ≤ 1000) (hm64 : L.length ≤ 64) (h64 : ∀ c ∈ L, c < 64 ∧ sz c ≤ 64) (h24 : rows.length ≤ 1024) (hdo : x.do_ < 1 ∨ 4 < x.do_) :
    Calls Tryd.prog 12 #[u, stV x p d] w (GoPost w F L sz (addRL L sz rows x) (errT (addCL L rows.length sz x.parts))) := by
  have RA := Lib.hid (fun X (hk : Keep (fun _ => False) w X) => radd_any ((h.mono (G := fun b => F b ∧ b < w.heap.size) (fun b hb h => ⟨h, hb⟩)).same hk) x p d ((hp.mono (G := fun b => F b ∧ b < w.heap.size) (fun b hb h => ⟨h, hb⟩)).same hk) (By.keep (By.mono hd (G := fun b => F b ∧ b < w.heap.size) (fun b hb h => ⟨h, hb⟩)) hk (fun _ _ _ h => h)) hP hm64 h64 h24)
  obtain ⟨Ac, cc, As, cs, Ar, cr, rfl, hc1, hc2, hs1, hs2, hr1, hr2, k1, k2, k3⟩ := h.form
  obtain ⟨Ap, cp, rfl, hp2, hp1⟩ := hp.form
  obtain ⟨Ad, cd, rfl, -⟩ := hd
  have GB0 := Lib.hid (GB.first w (.slice Ac L.length cc) (.slice As L.length cs) (.slice Ar rows.length cr) x (.slice Ap x.parts.length cp) (.slice Ad x.data.length cd))
  unfold stV at RA
  unfold stV
  clear h hp k1 k2 k3 hP hc1 hc2 hs1 hs2 hr1 hr2 hp1 hp2 h24 hm64 h64
  generalize hr' : addRL L sz rows x = rows' at *
  generalize ht' : errT (addCL L rows.length sz x.parts) = t' at *
  clear hr' ht'
  generalize L.length = m at *
  generalize rows.length = n at *
  generalize x.parts.length = q at *
  generalize x.data.length = nd at *
  go_enter Tryd.func12, Tryd.ntmps12
  go_upto_region 1 with fail
  refine wp_world (S := fun W => GB w W (.slice Ac m cc) (.slice As m cs) (.slice Ar n cr) x (.slice Ap q cp) (.slice Ad nd cd)) GB0.out ?_
  intro X hX
  have HX := Lib.hid hX
  have hX4 : w.heap.size + 4 ≤ X.heap.size := by have := (Array.getElem?_eq_some_iff.1 hX.2.2.2.1).1; omega
  clear hX GB0
  obtain ⟨x0, x1, x2, xf⟩ := cells3 HX.out.1
  obtain ⟨s0, s1, s2, s3, s4, s5, s6, sf⟩ := cells7 HX.out.2.1
  have END := Lib.hid (show ∀ (w1 : World) (a b c d0 d1 d2 d3 d4 d5 : Value), RT w1 (fun b => (F b ∧ b < w.heap.size) ∨ X.heap.size ≤ b) (.agg #[a, b, c]) L sz rows' → TlSt w1 (fun b => (F b ∧ b < w.heap.size) ∨ X.heap.size ≤ b) (.agg #[d0, d1, d2, d3, d4, d5]) t' → Below X.heap.size X w1 → GoPost w F L sz rows' t' (.returned (.tuple #[.agg #[a, b, c], .agg #[d0, d1, d2, d3, d4, d5]])) (set6 (set3 w1 (w.heap.size + 1 + 1) a b c) (w.heap.size + 1 + 1 + 1) d0 d1 d2 d3 d4 d5) from fun w1 a b c d0 d1 d2 d3 d4 d5 g1 g2 g3 => by
    have kk : Keep (fun k => k = w.heap.size + 1 + 1 ∨ k = w.heap.size + 1 + 1 + 1) w1 (set6 (set3 w1 (w.heap.size + 1 + 1) a b c) (w.heap.size + 1 + 1 + 1) d0 d1 d2 d3 d4 d5) := ((keep3 w1 _ a b c).mono (fun _ _ h => .inl h)).trans (keep6 _ _ d0 d1 d2 d3 d4 d5) (fun _ _ h => .inr h)
    have hz : ∀ k, k < w1.heap.size → (F k ∧ k < w.heap.size) ∨ X.heap.size ≤ k → ¬ (k = w.heap.size + 1 + 1 ∨ k = w.heap.size + 1 + 1 + 1) := fun k _ h e => by
      rcases h with h | h
      · have := h.2; omega
      · omega
    have hm : ∀ k, k < (set6 (set3 w1 (w.heap.size + 1 + 1) a b c) (w.heap.size + 1 + 1 + 1) d0 d1 d2 d3 d4 d5).heap.size → (F k ∧ k < w.heap.size) ∨ X.heap.size ≤ k → F k ∨ w.heap.size ≤ k := fun k _ h => by
      rcases h with h | h
      · exact .inl h.1
      · exact .inr (by omega)
    obtain ⟨dd, pp, e, t1, t2⟩ := g2
    refine ⟨_, _, rfl, (g1.keep kk hz).mono hm, ⟨dd, pp, e, By.mono (By.keep t1 kk hz) hm, (t2.keep kk hz).mono hm⟩, ?_⟩
    exact (((HX.out.2.2.2.2.trans (Keep.of_below' g3) (fun _ _ h => h)).mono (T := fun b => w.heap.size ≤ b) (fun _ _ h => h.elim)).trans kk (fun b _ e => by omega)).to_below (Nat.le_refl _))
  have RX := Lib.hid (RA.out X HX.out.2.2.2.2)
  clear RA
  have fin : ∀ (dz : x.do_ < 1 ∨ (¬ x.do_ < 1 ∧ 4 < x.do_)), True := fun _ => trivial
  rcases (show x.do_ < 1 ∨ (¬ x.do_ < 1 ∧ 4 < x.do_) by omega) with hd1 | ⟨hd1, hd2⟩
  all_goals
    clear fin hdo
    go_wp2_with fail
    with_reducible refine RX.out.mono ?_
    rintro e w1 ⟨u', v', rfl, hrt, htl, hb⟩
    have hrt' := hrt
    have htl' := htl
    obtain ⟨Bc, bc, Bs, bs, Br, br, rfl, -⟩ := hrt'.form
    obtain ⟨dd, pp, rfl, q1, q2⟩ := htl'
    obtain ⟨B1, b1, rfl, -⟩ := q1
    obtain ⟨B2, b2, rfl, -⟩ := q2.form
    clear q2 hrt'
    unfold tlV at htl
    have H1 := Lib.hid (And.intro hrt (And.intro htl hb))
    have r2 := (hb.block _ (Array.getElem?_eq_some_iff.1 HX.out.2.2.1).1).trans HX.out.2.2.1
    have r3 := (hb.block _ (Array.getElem?_eq_some_iff.1 HX.out.2.2.2.1).1).trans HX.out.2.2.2.1
    have R2 := Lib.hid r2
    have R3 := Lib.hid r3
    clear hrt htl hb x0 x1 x2 xf s0 s1 s2 s3 s4 s5 s6 sf RX
    obtain ⟨y0, y1, y2, yf⟩ := cells3 r2
    obtain ⟨z0, z1, z2, z3, z4, z5, zf⟩ := cells6 r3
    clear r2 r3
    unfold tlV
    go_wp2
    refine bodyPost_ret (results_go Tryd.results12 _ _ (w.heap.size + 1 + 1) (w.heap.size + 1 + 1 + 1) _ _ _ _ _ _ _ _ _ (by rfl) (go_stored R2.out R3.out (by omega) _ _ _ _ _ _ _ _ _).1 (by rfl) (go_stored R2.out R3.out (by omega) _ _ _ _ _ _ _ _ _).2) rfl ?_
    exact END.out _ _ _ _ _ _ _ _ _ _ H1.out.1 H1.out.2.1 H1.out.2.2
end
end Go.Proofs.YtpkeahikfbmcpaaDoor
namespace Go.Proofs.YtpkeahikfbmcpaaDoor
open Go.RowKit
set_option maxRecDepth 100000
set_option linter.unusedVariables false
set_option linter.unusedSimpArgs false

/-- Behind both stores. -/
theorem go_end {w w1 : World} {F : Nat → Prop} {L : List Nat} {sz : Nat → Nat} {rows : List EnZ} {t : TlZ} {B : Nat} {a b c d0 d1 d2 d3 d4 d5 : Value} (hB : w.heap.size + 4 ≤ B) (hk : Keep (fun b => w.heap.size ≤ b) w w1) (g1 : RT w1 (fun b => (F b ∧ b < w.heap.size) ∨ B ≤ b) (.agg #[a, b, c]) L sz rows) (g2 : TlSt w1 (fun b => (F b ∧ b < w.heap.size) ∨ B ≤ b) (.agg #[d0, d1, d2, d3, d4, d5]) t) :
    GoPost w F L sz rows t (.returned (.tuple #[.agg #[a, b, c], .agg #[d0, d1, d2, d3, d4, d5]])) (set6 (set3 w1 (w.heap.size + 1 + 1) a b c) (w.heap.size + 1 + 1 + 1) d0 d1 d2 d3 d4 d5) := by
  have kk : Keep (fun k => k = w.heap.size + 1 + 1 ∨ k = w.heap.size + 1 + 1 + 1) w1 (set6 (set3 w1 (w.heap.size + 1 + 1) a b c) (w.heap.size + 1 + 1 + 1) d0 d1 d2 d3 d4 d5) := ((keep3 w1 _ a b c).mono (fun _ _ h => .inl h)).trans (keep6 _ _ d0 d1 d2 d3 d4 d5) (fun _ _ h => .inr h)
  have hz : ∀ k, k < w1.heap.size → (F k ∧ k < w.heap.size) ∨ B ≤ k → ¬ (k = w.heap.size + 1 + 1 ∨ k = w.heap.size + 1 + 1 + 1) := fun k _ h e => by
    rcases h with h | h
    · have := h.2; omega
    · omega
  have hm : ∀ k, k < (set6 (set3 w1 (w.heap.size + 1 + 1) a b c) (w.heap.size + 1 + 1 + 1) d0 d1 d2 d3 d4 d5).heap.size → (F k ∧ k < w.heap.size) ∨ B ≤ k → F k ∨ w.heap.size ≤ k := fun k _ h => by
    rcases h with h | h
    · exact .inl h.1
    · exact .inr (by omega)
  obtain ⟨dd, pp, e, t1, t2⟩ := g2
  exact ⟨_, _, rfl, (g1.keep kk hz).mono hm, ⟨dd, pp, e, By.mono (By.keep t1 kk hz) hm, (t2.keep kk hz).mono hm⟩, (hk.trans kk (fun b _ e => by omega)).to_below (Nat.le_refl _)⟩
theorem GoPost.drew {w w' : World} {F : Nat → Prop} {L : List Nat} {sz : Nat → Nat} {rows : List EnZ} {t : TlZ} {e : Ending} (h : GoPost w F L sz rows t e w') : GoPost w F L sz rows t e w'.drew := by
  obtain ⟨u, v, e, h1, h2, h3⟩ := h
  exact ⟨u, v, e, h1.same (Keep.refl _ _).drew, h2.same (Keep.refl _ _).drew, h3.drew⟩
section
variable {w : World} {F : Nat → Prop} {u : Value} {L : List Nat} {sz : Nat → Nat} {rows : List EnZ}
set_option maxHeartbeats 1000000 in
theorem rgo_range (h : RT w F u L sz rows) (x : StZ) (p d : Value) (hp : NS parN w F p x.parts) (hd : By w F d x.data) (hdo : 1 ≤ x.do_ ∧ x.do_ ≤ 4) (hr : x.row < 0 ∨ (rows.length : Int) ≤ x.row) :
    Calls Tryd.prog 12 #[u, stV x p d] w (GoPost w F L sz rows (errT 2)) := by
  have HRT := Lib.hid (fun W (hk : Keep (fun _ => False) w W) => (h.mono (G := fun b => (F b ∧ b < w.heap.size) ∨ w.heap.size + 4 ≤ b) (fun b hb h => .inl ⟨h, hb⟩)).same hk)
  obtain ⟨Ac, cc, As, cs, Ar, cr, rfl, hc1, hc2, hs1, hs2, hr1, hr2, k1, k2, k3⟩ := h.form
  obtain ⟨Ap, cp, rfl, hp2, hp1⟩ := hp.form
  obtain ⟨Ad, cd, rfl, -⟩ := hd
  have GB0 := Lib.hid (GB.first w (.slice Ac L.length cc) (.slice As L.length cs) (.slice Ar rows.length cr) x (.slice Ap x.parts.length cp) (.slice Ad x.data.length cd))
  unfold stV
  clear h hp k1 k2 k3 hc1 hc2 hs1 hs2 hr1 hr2 hp1 hp2
  generalize L.length = m at *
  generalize rows.length = n at *
  generalize x.parts.length = q at *
  generalize x.data.length = nd at *
  have n1 : ¬ x.do_ < 1 := by omega
  have n2 : ¬ 4 < x.do_ := by omega
  clear hdo
  go_enter Tryd.func12, Tryd.ntmps12
  go_upto_region 1 with fail
  refine wp_world (S := fun W => GB w W (.slice Ac m cc) (.slice As m cs) (.slice Ar n cr) x (.slice Ap q cp) (.slice Ad nd cd)) GB0.out ?_
  intro X hX
  have HX := Lib.hid hX
  clear hX GB0
  obtain ⟨x0, x1, x2, xf⟩ := cells3 HX.out.1
  obtain ⟨s0, s1, s2, s3, s4, s5, s6, sf⟩ := cells7 HX.out.2.1
  obtain ⟨y0, y1, y2, yf⟩ := cells3 HX.out.2.2.1
  obtain ⟨z0, z1, z2, z3, z4, z5, zf⟩ := cells6 HX.out.2.2.2.1
  rcases (show x.row < 0 ∨ (¬ x.row < 0 ∧ (n : Int) ≤ x.row) by omega) with h1 | ⟨h1, h2⟩
  all_goals
    clear hr
    go_wp2
    refine bodyPost_ret (results_go Tryd.results12 _ _ (w.heap.size + 1 + 1) (w.heap.size + 1 + 1 + 1) _ _ _ _ _ _ _ _ _ (by rfl) (go_stored HX.out.2.2.1 HX.out.2.2.2.1 (by omega) _ _ _ _ _ _ _ _ _).1 (by rfl) (go_stored HX.out.2.2.1 HX.out.2.2.2.1 (by omega) _ _ _ _ _ _ _ _ _).2) rfl ?_
    exact go_end (Nat.le_refl _) (HX.out.2.2.2.2.mono (fun _ _ h => h.elim)) (HRT.out X HX.out.2.2.2.2) ⟨_, _, rfl, By.nil _ _, NS.nil _ _ _⟩
set_option maxHeartbeats 1000000 in
theorem rgo_parts (h : RT w F u L sz rows) (x : StZ) (p d : Value) (hp : NS parN w F p x.parts) (hd : By w F d x.data) (hdo : x.do_ = 3) (r : Nat) (y : EnZ) (hr : x.row = (r : Int)) (hy : rows[r]? = some y) :
    Calls Tryd.prog 12 #[u, stV x p d] w (GoPost w F L sz rows ⟨[], y.parts, ⟨0, 0⟩, false, 0⟩) := by
  have hrn : r < rows.length := (List.getElem?_eq_some_iff.1 hy).1
  have HRT := Lib.hid (fun W (hk : Keep (fun _ => False) w W) => (h.mono (G := fun b => (F b ∧ b < w.heap.size) ∨ w.heap.size + 4 ≤ b) (fun b hb h => .inl ⟨h, hb⟩)).same hk)
  obtain ⟨Ac, cc, As, cs, Ar, cr, rfl, hc1, hc2, hs1, hs2, hr1, hr2, k1, k2, k3⟩ := h.form
  have HRW := Lib.hid (k3.mono (G := fun b => (F b ∧ b < w.heap.size) ∨ w.heap.size + 4 ≤ b) (fun b hb h => .inl ⟨h, hb⟩))
  obtain ⟨Ap, cp, rfl, hp2, hp1⟩ := hp.form
  obtain ⟨Ad, cd, rfl, -⟩ := hd
  have GB0 := Lib.hid (GB.first w (.slice Ac L.length cc) (.slice As L.length cs) (.slice Ar rows.length cr) x (.slice Ap x.parts.length cp) (.slice Ad x.data.length cd))
  unfold stV
  clear h hp k1 k2 k3 hc1 hc2 hs1 hs2 hr1 hp1 hp2
  unfold maxLen at hr2
  generalize L.length = m at *
  generalize rows.length = n at *
  generalize x.parts.length = q at *
  generalize x.data.length = nd at *
  obtain ⟨do_, id, parts, row, comp, data⟩ := x
  simp only at hdo hr GB0 ⊢
  subst hdo hr
  have n1 : ¬ (r : Int) < 0 := by omega
  have n2 : (r : Int) < (n : Int) := by omega
  have n3 : ¬ (n : Int) ≤ (r : Int) := by omega
  have n4 : (0 : Int) ≤ (r : Int) := by omega
  go_enter Tryd.func12, Tryd.ntmps12
  go_upto_region 1 with fail
  refine wp_world (S := fun W => GB w W (.slice Ac m cc) (.slice As m cs) (.slice Ar n cr) ⟨3, id, parts, r, comp, data⟩ (.slice Ap q cp) (.slice Ad nd cd)) GB0.out ?_
  intro X hX
  have HX := Lib.hid hX
  clear hX GB0
  obtain ⟨b, off, y', v, rfl, hbF, hx, hin, hc⟩ := NS.at_ (HRW.out.same HX.out.2.2.2.2) hrn
  have hb1 : ¬ b = w.heap.size + 1 + 1 := fun e => by rcases hbF with h | h <;> omega
  have hb2 : ¬ b = w.heap.size + 1 + 1 + 1 := fun e => by rcases hbF with h | h <;> omega
  clear hbF
  obtain rfl : y' = y := Option.some.inj (hx.symm.trans hy)
  have e2 := hc 2 _ rfl
  simp only [show entN.m = 3 from rfl] at e2
  have HIN := Lib.hid (show NS parN X (fun b => (F b ∧ b < w.heap.size) ∨ w.heap.size + 4 ≤ b) v y'.parts from hin)
  obtain ⟨A1, c1, rfl, -⟩ := HIN.out.form
  clear hc hx hin
  generalize y'.parts.length = np at *
  obtain ⟨x0, x1, x2, xf⟩ := cells3 HX.out.1
  obtain ⟨s0, s1, s2, s3, s4, s5, s6, sf⟩ := cells7 HX.out.2.1
  obtain ⟨y0, y1, y2, yf⟩ := cells3 HX.out.2.2.1
  obtain ⟨z0, z1, z2, z3, z4, z5, zf⟩ := cells6 HX.out.2.2.2.1
  go_wp2
  go_region
  all_goals
    go_wp2
    refine bodyPost_ret (results_go Tryd.results12 _ _ (w.heap.size + 1 + 1) (w.heap.size + 1 + 1 + 1) _ _ _ _ _ _ _ _ _ (by rfl) (by rw [heap_drew']; exact (go_stored HX.out.2.2.1 HX.out.2.2.2.1 (by omega) _ _ _ _ _ _ _ _ _).1) (by rfl) (by rw [heap_drew']; exact (go_stored HX.out.2.2.1 HX.out.2.2.2.1 (by omega) _ _ _ _ _ _ _ _ _).2)) rfl ?_
    exact GoPost.drew (go_end (Nat.le_refl _) (HX.out.2.2.2.2.mono (fun _ _ h => h.elim)) (HRT.out X HX.out.2.2.2.2) ⟨_, _, rfl, By.nil _ _, HIN.out⟩)
end
end Go.Proofs.YtpkeahikfbmcpaaDoor
namespace Go.Proofs.YtpkeahikfbmcpaaDoor
open Go.RowKit
set_option maxRecDepth 100000
set_option linter.unusedVariables false
set_option linter.unusedSimpArgs false

theorem wpList_ent {ops : Array Oper} {o : Oper} {rest : List Oper} {a : Act} {w : World} {Q : Exit → Act → World → Prop} (hgd : Region.wanted o (yielded ops a.tmps) = true) (s x : Operand)
    (ho : o.op = .call { callee := .builtin .append, args := #[s, x], argTypes := #[33, 33] }) (B : Nat) (v : Value) (n : Nat) (xs : List Value) (hv : a.eval s = v) (hown : Own w B 91 3 v n xs) (vx : Value) (k : Nat) (ys : List Value)
    (hy : a.eval x = vx) (hsrc : Src Tryd.prog 3 33 vx k ys w) (hk : n + k ≤ 1099511627776) (hB : B ≤ w.heap.size)
    (h : ∀ A c w', Own w' B 91 3 (.slice A (n + k) c) (n + k) (xs ++ ys) → Keep (fun k => ownB v = some k) w w' → (∀ k', ownB (.slice A (n + k) c) = some k' → ownB v = some k' ∨ w.heap.size ≤ k') → wpList Tryd.prog ops Q rest (a.put o.dst (.slice A (n + k) c)) w') :
    wpList Tryd.prog ops Q (o :: rest) a w :=
  wpList_step fun _ hK => step_ent hgd s x ho B v n xs hv hown vx k ys hy hsrc hk hB fun A c w' h1 h2 h3 => hK _ _ (h A c w' h1 h2 h3)
section
variable {w : World} {F : Nat → Prop} {u : Value} {L : List Nat} {sz : Nat → Nat} {rows : List EnZ}
set_option maxHeartbeats 1000000 in
theorem rgo_lacks (h : RT w F u L sz rows) (x : StZ) (p d : Value) (hp : NS parN w F p x.parts) (hd : By w F d x.data) (hdo : 1 ≤ x.do_ ∧ x.do_ ≤ 2) (h24 : rows.length ≤ 1024) (r : Nat) (hr : x.row = (r : Int)) (hrn : r < rows.length) (hno : ∀ j, j < L.length → ((L.getD j 0 : Nat) : Int) ≠ x.comp) :
    Calls Tryd.prog 12 #[u, stV x p d] w (GoPost w F L sz rows (errT 8)) := by
  have HRT := Lib.hid (fun W (hk : Keep (fun _ => False) w W) => (h.mono (G := fun b => (F b ∧ b < w.heap.size) ∨ w.heap.size + 4 ≤ b) (fun b hb h => .inl ⟨h, hb⟩)).same hk)
  obtain ⟨Ac, cc, As, cs, Ar, cr, rfl, hc1, hc2, hs1, hs2, hr1, hr2, k1, k2, k3⟩ := h.form
  have HC := Lib.hid k1
  have HN := Lib.hid (show rows.length = rows.length from rfl)
  obtain ⟨us, hu1, hu2, hu3⟩ := k3
  have A0 := Lib.hid (fun W (hk : Keep (fun _ => False) w W) => src_ml hu1 rfl (hu2.keep hk (fun _ _ _ h => h)) (fun i y q h1 h2 => entN.keep (hu3 i y q h1 h2) hk (fun _ _ _ h => h)))
  obtain ⟨Ap, cp, rfl, hp2, hp1⟩ := hp.form
  obtain ⟨Ad, cd, rfl, -⟩ := hd
  have GB0 := Lib.hid (GB.first w (.slice Ac L.length cc) (.slice As L.length cs) (.slice Ar rows.length cr) x (.slice Ap x.parts.length cp) (.slice Ad x.data.length cd))
  unfold stV
  clear h hp k1 k2 hs1 hs2 hr1 hp1 hp2 hu1 hu2 hu3 HN
  unfold maxLen at hr2 hc2
  obtain ⟨m, hm⟩ : ∃ m, L.length = m := ⟨_, rfl⟩
  have HM := Lib.hid hm
  rw [hm] at HC GB0 HRT hno hc1 ⊢
  have hm62 : m ≤ 9223372036854775807 := by omega
  clear hm
  generalize rows.length = n at *
  generalize x.parts.length = q at *
  generalize x.data.length = nd at *
  obtain ⟨do_, id, parts, row, comp, data⟩ := x
  simp only at hdo hr GB0 hno ⊢
  subst hr
  have NO := Lib.hid hno
  clear hno
  have n1 : ¬ (r : Int) < 0 := by omega
  have n3 : ¬ (n : Int) ≤ (r : Int) := by omega
  have d1 : ¬ do_ < 1 := by omega
  have d2 : ¬ 4 < do_ := by omega
  have d3 : (do_ == 3) = false := by rw [beq_eq_false_iff_ne]; omega
  have d4 : (do_ == 4) = false := by rw [beq_eq_false_iff_ne]; omega
  clear hdo
  go_enter Tryd.func12, Tryd.ntmps12
  go_upto_region 1 with fail
  refine wp_world (S := fun W => GB w W (.slice Ac m cc) (.slice As m cs) (.slice Ar n cr) ⟨do_, id, parts, r, comp, data⟩ (.slice Ap q cp) (.slice Ad nd cd)) GB0.out ?_
  intro X hX
  have HX := Lib.hid hX
  clear hX GB0
  obtain ⟨x0, x1, x2, xf⟩ := cells3 HX.out.1
  obtain ⟨s0, s1, s2, s3, s4, s5, s6, sf⟩ := cells7 HX.out.2.1
  go_upto_region 7 with fail
  have x2a : ∀ o, (X.alloc o).cell? ⟨w.heap.size, 2, none⟩ = some (.slice Ar n cr) := fun o => ((Keep.refl (fun _ => False) X).alloc o).cell (fun h => h) x2
  go_wp2_with (first
    | (at_builtin; refine wpList_ent (by rfl) _ _ (by rfl) X.heap.size _ 0 _ (by rfl) (Own.none_ _ _ _ _ _) _ n _ (by rfl) (A0.out _ (HX.out.2.2.2.2.trans (T := fun _ => False) (by exact (by repeat first | (with_reducible assumption) | (with_reducible exact Keep.refl _ _) | (with_reducible refine Keep.alloc ?_ _) | (with_reducible refine Keep.drew ?_) | (with_reducible refine Keep.drewN ?_ _) | (with_reducible refine Keep.setCell ?_ (.inl (by first | omega | (simp; done) | (simp; omega) | fail)) _))) (fun _ _ h => h))) (by omega) (by first | (simp; done) | (simp; omega)) ?_)
    | fail)
  intro A5 c5 w5 ho5 hk5 hn5
  clear ho5 hn5 x2a
  have K5 := Lib.hid (show Keep (fun _ => False) X w5 from Keep.trans (T := fun _ => False) (by exact (by repeat first | (with_reducible assumption) | (with_reducible exact Keep.refl _ _) | (with_reducible refine Keep.alloc ?_ _) | (with_reducible refine Keep.drew ?_) | (with_reducible refine Keep.drewN ?_ _) | (with_reducible refine Keep.setCell ?_ (.inl (by first | omega | (simp; done) | (simp; omega) | fail)) _))) (hk5.mono (fun k _ e => by cases e)) (fun _ _ h => h))
  have HY := Lib.hid (HX.out.same K5.out)
  clear hk5 x0 x1 x2 xf s0 s1 s2 s3 s4 s5 s6 sf
  obtain ⟨x0, x1, x2, xf⟩ := cells3 HY.out.1
  obtain ⟨s0, s1, s2, s3, s4, s5, s6, sf⟩ := cells7 HY.out.2.1
  go_wp2
  go_loopw [8] (fun i wr => ∃ (j : Nat), j ≤ m ∧ i = .int .i64 (j : Int) ∧ Hid (Keep (fun _ => False) w5 wr)) (fun i _ => m - (intOf i).toNat)
  case atStart => exact ⟨0, by omega, rfl, Lib.hid (Keep.refl _ _)⟩
  case round =>
    obtain ⟨j, hj, rfl, hkr⟩ := hrel
    have HZ := Lib.hid (HY.out.same hkr.out)
    clear x0 x1 x2 xf s0 s1 s2 s3 s4 s5 s6 sf
    obtain ⟨x0, x1, x2, xf⟩ := cells3 HZ.out.1
    obtain ⟨s0, s1, s2, s3, s4, s5, s6, sf⟩ := cells7 HZ.out.2.1
    by_cases hlt : j < m
    · have f1 : (j : Int) < (m : Int) := by omega
      have f0 : (0 : Int) ≤ (j : Int) := by omega
      obtain ⟨b1, o1, rfl, hcl⟩ := ints_at (HC.out.keep HZ.out.2.2.2.2 (fun _ _ _ h => h)) HM.out hlt
      have hne := NO.out j hlt
      generalize L.getD j 0 = c at *
      have ene : ((c : Int) != comp) = true := by rw [bne_iff_ne]; exact hne
      clear hne
      go_wp2
      go_quiet (fail)
      go_wp2
      go_roundw
      case rel => exact ⟨j + 1, by omega, by go_num, Lib.hid (Keep.trans hkr.out (by exact (by repeat first | (with_reducible assumption) | (with_reducible exact Keep.refl _ _) | (with_reducible refine Keep.alloc ?_ _) | (with_reducible refine Keep.drew ?_) | (with_reducible refine Keep.drewN ?_ _) | (with_reducible refine Keep.setCell ?_ (.inl (by first | omega | (simp; done) | (simp; omega) | fail)) _))) (fun _ _ h => h))⟩
      case measure => simp [intOf]; omega
    · obtain rfl : j = m := by omega
      have f1 : ¬ (j : Int) < (j : Int) := by omega
      obtain ⟨y0, y1, y2, yf⟩ := cells3 HZ.out.2.2.1
      obtain ⟨z0, z1, z2, z3, z4, z5, zf⟩ := cells6 HZ.out.2.2.2.1
      go_wp2
      refine bodyPost_ret (results_go Tryd.results12 _ _ (w.heap.size + 1 + 1) (w.heap.size + 1 + 1 + 1) _ _ _ _ _ _ _ _ _ (by rfl) (go_stored HZ.out.2.2.1 HZ.out.2.2.2.1 (by omega) _ _ _ _ _ _ _ _ _).1 (by rfl) (go_stored HZ.out.2.2.1 HZ.out.2.2.2.1 (by omega) _ _ _ _ _ _ _ _ _).2) rfl ?_
      exact go_end (Nat.le_refl _) (HZ.out.2.2.2.2.mono (fun _ _ h => h.elim)) (HRT.out wr HZ.out.2.2.2.2) ⟨_, _, rfl, By.nil _ _, NS.nil _ _ _⟩
end
end Go.Proofs.YtpkeahikfbmcpaaDoor
namespace Go.Proofs.YtpkeahikfbmcpaaDoor
open Go.RowKit
set_option maxRecDepth 100000
set_option linter.unusedVariables false
set_option linter.unusedSimpArgs false

theorem Own.setG {w : World} {B g n d k m : Nat} {e : TypeId} {xs : List Value} {x : Value} (h : Own w B e m (.slice (some ⟨g, 0, none⟩) n d) n xs) (hd : 0 < d) : Own (w.setCell ⟨g, k, none⟩ x) B e m (.slice (some ⟨g, 0, none⟩) n d) n (xs.set k x) := by
  obtain ⟨hl, A, c, hv, hnc, hcm, hg⟩ := h
  injection hv with e1 e2 e3
  subst e1 e3
  obtain ⟨g', cur, eg, hb, hgg, hcs, htk⟩ := hg hd
  injection eg with eg
  injection eg with eg
  subst eg
  refine ⟨by rw [List.length_set]; exact hl, _, d, rfl, hnc, hcm, fun _ => ⟨g, cur.setIfInBounds k x, rfl, hb, heap_setCell_same w g k _ _ x hgg, by simpa using hcs, ?_⟩⟩
  rw [Array.toList_setIfInBounds, List.take_set, htk]
theorem Own.atG {w : World} {B g n d m : Nat} {e : TypeId} {xs : List Value} (h : Own w B e m (.slice (some ⟨g, 0, none⟩) n d) n xs) (hd : 0 < d) : (∀ i u, xs[i]? = some u → w.cell? ⟨g, i, none⟩ = some u) ∧ ∀ i, w.frozen? ⟨g, i, none⟩ = false := by
  obtain ⟨hl, A, c, hv, hnc, hcm, hg⟩ := h
  injection hv with e1 e2 e3
  subst e1 e3
  obtain ⟨g', cur, eg, hb, hgg, hcs, htk⟩ := hg hd
  injection eg with eg
  injection eg with eg
  subst eg
  refine ⟨fun i u hu => ?_, fun i => frozen_of_row w g i _ _ hgg⟩
  rw [cell_of_row w g i _ _ _ hgg]
  rw [← htk, List.getElem?_take] at hu
  split at hu
  · simpa using hu
  · cases hu
theorem flat_set3 : ∀ (l : List (EnZ × Value)) (r : Nat) (x : EnZ × Value), r < l.length → (l.set r x).flatMap entN.cells = (((l.flatMap entN.cells).set (r * 3) (.int .i64 x.1.id.ix)).set (r * 3 + 1) (.int .i64 x.1.id.gen)).set (r * 3 + 2) x.2
  | [], _, _, h => by simp at h
  | y :: l, 0, x, _ => by simp [entN]
  | y :: l, r + 1, x, h => by
    have ih := flat_set3 l r x (by simpa using h)
    rw [List.set_cons_succ, List.flatMap_cons, ih, List.flatMap_cons, show (r + 1) * 3 + 2 = (r * 3 + 2) + 3 by omega, show (r + 1) * 3 + 1 = (r * 3 + 1) + 3 by omega, show (r + 1) * 3 = r * 3 + 3 by omega]
    simp [entN]
theorem flat_take3 (l : List (EnZ × Value)) (k : Nat) : (l.flatMap entN.cells).take (k * 3) = (l.take k).flatMap entN.cells := by
  induction l generalizing k with
  | nil => simp
  | cons x l ih =>
    cases k with
    | zero => simp
    | succ k => rw [List.take_succ_cons, List.flatMap_cons, List.flatMap_cons, ← ih k, show (k + 1) * 3 = (entN.cells x).length + k * 3 by rw [entN.len]; show (k + 1) * 3 = 3 + k * 3; omega, List.take_append, List.take_of_length_le (Nat.le_add_right _ _)]; simp
theorem zip_set {α β : Type} : ∀ (l : List α) (us : List β) (r : Nat) (x : α) (q : β), (l.set r x).zip (us.set r q) = (l.zip us).set r (x, q)
  | [], us, r, x, q => by simp
  | a :: l, [], r, x, q => by simp
  | a :: l, u :: us, 0, x, q => by simp
  | a :: l, u :: us, r + 1, x, q => by simp [zip_set l us r x q]
theorem zip_take {α β : Type} : ∀ (l : List α) (us : List β) (k : Nat), (l.take k).zip (us.take k) = (l.zip us).take k
  | [], us, k => by simp
  | a :: l, [], k => by simp
  | a :: l, u :: us, 0 => by simp
  | a :: l, u :: us, k + 1 => by simp [zip_take l us k]
/-- The rows that a call has copied into block g, n of c; what they lead to lies in blocks of F. -/
structure Rw (W : World) (B g n c : Nat) (F : Nat → Prop) (rows : List EnZ) (us : List Value) : Prop where
  pos : 0 < n
  le : n ≤ c
  len : rows.length = n
  ulen : us.length = rows.length
  own : Own W B 91 3 (.slice (some ⟨g, 0, none⟩) n c) n ((rows.zip us).flatMap entN.cells)
  inn : ∀ (i : Nat) x q, rows[i]? = some x → us[i]? = some q → NS parN W F q x.parts
  ng : ∀ b, F b → b ≠ g
section
variable {W W' : World} {B g n c : Nat} {F S : Nat → Prop} {rows : List EnZ} {us : List Value}
theorem Rw.keep (h : Rw W B g n c F rows us) (hk : Keep S W W') (hg : ¬ S g) (hs : ∀ b, b < W.heap.size → F b → ¬ S b) : Rw W' B g n c F rows us :=
  ⟨h.pos, h.le, h.len, h.ulen, h.own.keep hk (fun k e hS => by
    have hlt := h.pos
    have hle := h.le
    obtain ⟨d, rfl⟩ : ∃ d, c = d + 1 := ⟨c - 1, by omega⟩
    obtain rfl : g = k := by simpa [ownB] using e
    exact hg hS), fun i x q hx hq => (h.inn i x q hx hq).keep hk hs, h.ng⟩
theorem Rw.at_ (h : Rw W B g n c F rows us) {k : Nat} (hk : k < n) : ∃ x q, rows[k]? = some x ∧ us[k]? = some q ∧ NS parN W F q x.parts ∧ W.cell? ⟨g, k * 3, none⟩ = some (.int .i64 x.id.ix) ∧ W.cell? ⟨g, k * 3 + 1, none⟩ = some (.int .i64 x.id.gen) ∧ W.cell? ⟨g, k * 3 + 2, none⟩ = some q ∧ W.frozen? ⟨g, k * 3, none⟩ = false ∧ W.frozen? ⟨g, k * 3 + 1, none⟩ = false ∧ W.frozen? ⟨g, k * 3 + 2, none⟩ = false := by
  have hle := h.le
  have h1 : k < rows.length := by rw [h.len]; exact hk
  have h2 : k < us.length := by rw [h.ulen]; exact h1
  have e1 := List.getElem?_eq_getElem h1
  have e2 := List.getElem?_eq_getElem h2
  have ez : (rows.zip us)[k]? = some (rows[k], us[k]) := List.getElem?_zip_eq_some.2 ⟨e1, e2⟩
  obtain ⟨hc, hf⟩ := h.own.atG (by omega)
  exact ⟨_, _, e1, e2, h.inn k _ _ e1 e2, hc _ _ (flat_at (f := entN.cells) (m := 3) (j := 0) entN.len ez rfl), hc _ _ (flat_at (f := entN.cells) (m := 3) (j := 1) entN.len ez rfl), hc _ _ (flat_at (f := entN.cells) (m := 3) (j := 2) entN.len ez rfl), hf _, hf _, hf _⟩
/-- One row is another. -/
theorem Rw.put (h : Rw W B g n c F rows us) {r : Nat} (hr : r < n) (y : EnZ) (q : Value) (hq : NS parN W F q y.parts) :
    Rw (((W.setCell ⟨g, r * 3, none⟩ (.int .i64 y.id.ix)).setCell ⟨g, r * 3 + 1, none⟩ (.int .i64 y.id.gen)).setCell ⟨g, r * 3 + 2, none⟩ q) B g n c F (rows.set r y) (us.set r q) ∧
    Keep (fun b => b = g) W (((W.setCell ⟨g, r * 3, none⟩ (.int .i64 y.id.ix)).setCell ⟨g, r * 3 + 1, none⟩ (.int .i64 y.id.gen)).setCell ⟨g, r * 3 + 2, none⟩ q) := by
  have hk : Keep (fun b => b = g) W (((W.setCell ⟨g, r * 3, none⟩ (.int .i64 y.id.ix)).setCell ⟨g, r * 3 + 1, none⟩ (.int .i64 y.id.gen)).setCell ⟨g, r * 3 + 2, none⟩ q) :=
    Keep.setCell (S := fun b => b = g) (p := ⟨g, r * 3 + 2, none⟩) (Keep.setCell (S := fun b => b = g) (p := ⟨g, r * 3 + 1, none⟩) (Keep.setCell (S := fun b => b = g) (p := ⟨g, r * 3, none⟩) (Keep.refl _ _) (.inr rfl) _) (.inr rfl) _) (.inr rfl) _
  have hl := h.len
  have hle := h.le
  have hpos := h.pos
  refine ⟨⟨h.pos, h.le, by rw [List.length_set]; exact h.len, by rw [List.length_set, List.length_set]; exact h.ulen, ?_, fun i x p hx hp => ?_, h.ng⟩, hk⟩
  · rw [zip_set, flat_set3 _ _ _ (by rw [List.length_zip, h.ulen, Nat.min_self, h.len]; exact hr)]
    exact ((h.own.setG (by omega)).setG (by omega)).setG (by omega)
  · have mv : ∀ (x : EnZ) (p : Value), NS parN W F p x.parts → NS parN (((W.setCell ⟨g, r * 3, none⟩ (.int .i64 y.id.ix)).setCell ⟨g, r * 3 + 1, none⟩ (.int .i64 y.id.gen)).setCell ⟨g, r * 3 + 2, none⟩ q) F p x.parts := fun x p hp => hp.keep hk (fun b _ hF e => h.ng b hF e)
    by_cases e : i = r
    · subst e
      rw [List.getElem?_set_self (by omega)] at hx
      rw [List.getElem?_set_self (by rw [h.ulen]; omega)] at hp
      obtain rfl := Option.some.inj hx
      obtain rfl := Option.some.inj hp
      exact mv _ _ hq
    · rw [List.getElem?_set_ne (Ne.symm e)] at hx hp
      exact mv _ _ (h.inn i x p hx hp)
/-- One row's parts are others. -/
theorem Rw.put1 (h : Rw W B g n c F rows us) {r : Nat} (hr : r < n) {y : EnZ} (hy : rows[r]? = some y) (P : List PtZ) (q : Value) (hq : NS parN W F q P) :
    Rw (W.setCell ⟨g, r * 3 + 2, none⟩ q) B g n c F (rows.set r ⟨y.id, P⟩) (us.set r q) ∧ Keep (fun b => b = g) W (W.setCell ⟨g, r * 3 + 2, none⟩ q) := by
  have hk : Keep (fun b => b = g) W (W.setCell ⟨g, r * 3 + 2, none⟩ q) := Keep.setCell (S := fun b => b = g) (p := ⟨g, r * 3 + 2, none⟩) (Keep.refl _ _) (.inr rfl) _
  have hl := h.len
  have hle := h.le
  have hpos := h.pos
  refine ⟨⟨h.pos, h.le, by rw [List.length_set]; exact h.len, by rw [List.length_set, List.length_set]; exact h.ulen, ?_, fun i x p hx hp => ?_, h.ng⟩, hk⟩
  · have hz : r < (rows.zip us).length := by rw [List.length_zip, h.ulen, Nat.min_self, h.len]; exact hr
    have e2 := List.getElem?_eq_getElem (show r < us.length by rw [h.ulen, h.len]; exact hr)
    have ez : (rows.zip us)[r]? = some (y, us[r]'(by rw [h.ulen, h.len]; exact hr)) := List.getElem?_zip_eq_some.2 ⟨hy, e2⟩
    rw [zip_set, flat_set3 _ _ _ hz]
    have f0 : ((rows.zip us).flatMap entN.cells)[r * 3]? = some (.int .i64 y.id.ix) := flat_at (f := entN.cells) (m := 3) (j := 0) entN.len ez rfl
    have f1 : ((rows.zip us).flatMap entN.cells)[r * 3 + 1]? = some (.int .i64 y.id.gen) := flat_at (f := entN.cells) (m := 3) (j := 1) entN.len ez rfl
    have s0 : ((rows.zip us).flatMap entN.cells).set (r * 3) (.int .i64 y.id.ix) = (rows.zip us).flatMap entN.cells := by
      obtain ⟨hh, e⟩ := List.getElem?_eq_some_iff.1 f0
      rw [← e]; exact List.set_getElem_self hh
    have s1 : ((rows.zip us).flatMap entN.cells).set (r * 3 + 1) (.int .i64 y.id.gen) = (rows.zip us).flatMap entN.cells := by
      obtain ⟨hh, e⟩ := List.getElem?_eq_some_iff.1 f1
      rw [← e]; exact List.set_getElem_self hh
    show Own _ B _ 3 _ n (((((rows.zip us).flatMap entN.cells).set (r * 3) (.int .i64 y.id.ix)).set (r * 3 + 1) (.int .i64 y.id.gen)).set (r * 3 + 2) q)
    rw [s0, s1]
    exact h.own.setG (by omega)
  · have mv : ∀ (x : EnZ) (p : Value), NS parN W F p x.parts → NS parN (W.setCell ⟨g, r * 3 + 2, none⟩ q) F p x.parts := fun x p hp => hp.keep hk (fun b _ hF e => h.ng b hF e)
    by_cases e : i = r
    · subst e
      rw [List.getElem?_set_self (by omega)] at hx
      rw [List.getElem?_set_self (by rw [h.ulen]; omega)] at hp
      obtain rfl := Option.some.inj hx
      obtain rfl := Option.some.inj hp
      exact mv ⟨y.id, P⟩ _ hq
    · rw [List.getElem?_set_ne (Ne.symm e)] at hx hp
      exact mv _ _ (h.inn i x p hx hp)
/-- Its first k rows. -/
theorem Rw.ns (h : Rw W B g n c F rows us) {k : Nat} (hk : k ≤ n) : NS entN W (fun b => F b ∨ B ≤ b) (.slice (some ⟨g, 0, none⟩) k c) (rows.take k) := by
  have hl := h.len
  refine ⟨us.take k, by rw [List.length_take, List.length_take, h.ulen], ?_, fun i x q hx hq => ?_⟩
  · have h2 := h.own.take hk
    rw [flat_take3, ← zip_take] at h2
    have h4 : Own W B 91 entN.m (.slice (some ⟨g, 0, none⟩) k c) ((rows.take k).zip (us.take k)).length (((rows.take k).zip (us.take k)).flatMap entN.cells) := by
      rw [List.length_zip, List.length_take, List.length_take, h.ulen, Nat.min_self, hl, Nat.min_eq_left hk]; exact h2
    exact (Own.ml (n := 0) entN.pos entN.len h4).mono (fun b _ h => .inr h)
  · have hik : i < k := by
      have := (List.getElem?_eq_some_iff.1 hx).1
      rw [List.length_take] at this; omega
    rw [List.getElem?_take_of_lt hik] at hx hq
    show NS parN W _ q x.parts
    exact NS.mono (h.inn i x q hx hq) (fun _ _ h => .inl h)
theorem Rw.all (h : Rw W B g n c F rows us) : NS entN W (fun b => F b ∨ B ≤ b) (.slice (some ⟨g, 0, none⟩) n c) rows := by
  have := h.ns (Nat.le_refl n)
  rwa [← h.len, List.take_length, h.len] at this
end
/-- Behind the copy. -/
theorem rw_of {w5 X : World} {G : Nat → Prop} {n c : Nat} {A : Option Addr} {rows : List EnZ} {us : List Value} (h0 : 0 < n) (hn : rows.length = n) (hu : us.length = rows.length) (ho : Own w5 X.heap.size 91 3 (.slice A n c) n ((rows.zip us).flatMap entN.cells)) (hi : ∀ (i : Nat) x q, rows[i]? = some x → us[i]? = some q → NS parN w5 G q x.parts) (hG : ∀ b, G b → b < X.heap.size) : ∃ g, A = some ⟨g, 0, none⟩ ∧ X.heap.size ≤ g ∧ g < w5.heap.size ∧ Rw w5 X.heap.size g n c (fun b => (G b ∨ X.heap.size ≤ b) ∧ b ≠ g) rows us := by
  have ho' := ho
  obtain ⟨hl, A', c', hv, hnc, hcm, hg⟩ := ho'
  injection hv with e1 e2 e3
  subst e1 e3
  obtain ⟨g, cur, rfl, hb, hgg, hcs, htk⟩ := hg (by omega)
  exact ⟨g, rfl, hb, (Array.getElem?_eq_some_iff.1 hgg).1, h0, hnc, hn, hu, ho, fun i x q hx hq => NS.mono (hi i x q hx hq) (fun b _ h => ⟨.inl h, by have := hG b h; omega⟩), fun b h => h.2⟩
theorem wpList_ent0 {ops : Array Oper} {o : Oper} {rest : List Oper} {a : Act} {w : World} {Q : Exit → Act → World → Prop} (hgd : Region.wanted o (yielded ops a.tmps) = true) (s x : Operand)
    (ho : o.op = .call { callee := .builtin .append, args := #[s, x], argTypes := #[33, 33] }) (B : Nat) (v : Value) (hv : a.eval s = v) (hown : Own w B 91 3 v 0 []) (vx : Value) (k : Nat) (ys : List Value)
    (hy : a.eval x = vx) (hsrc : Src Tryd.prog 3 33 vx k ys w) (hk : k ≤ 1099511627776) (hB : B ≤ w.heap.size)
    (h : ∀ A c w', Own w' B 91 3 (.slice A k c) k ys → Keep (fun k => ownB v = some k) w w' → wpList Tryd.prog ops Q rest (a.put o.dst (.slice A k c)) w') :
    wpList Tryd.prog ops Q (o :: rest) a w :=
  wpList_ent hgd s x ho B v 0 [] hv hown vx k ys hy hsrc (by omega) hB fun A c w' h1 h2 h3 => by
    rw [Nat.zero_add] at h1 ⊢
    exact h A c w' h1 h2
/-- The rows behind a drop. -/
def dropE (rows : List EnZ) (r : Nat) : List EnZ := (rows.set r (rows.getD (rows.length - 1) default)).take (rows.length - 1)
end Go.Proofs.YtpkeahikfbmcpaaDoor
namespace Go.Proofs.YtpkeahikfbmcpaaDoor
open Go.RowKit
set_option maxRecDepth 100000
set_option linter.unusedVariables false
set_option linter.unusedSimpArgs false

section
variable {w : World} {F : Nat → Prop} {u : Value} {L : List Nat} {sz : Nat → Nat} {rows : List EnZ}
/-- What a drop of row r tells. -/
def dropT (rows : List EnZ) (r : Nat) : TlZ := if r = rows.length - 1 then errT 0 else ⟨[], [], (rows.getD (rows.length - 1) default).id, true, 0⟩
set_option maxHeartbeats 1000000 in
theorem rgo_drop (h : RT w F u L sz rows) (x : StZ) (p d : Value) (hp : NS parN w F p x.parts) (hd : By w F d x.data) (hdo : x.do_ = 4) (h24 : rows.length ≤ 1024) (r : Nat) (hr : x.row = (r : Int)) (hrn : r < rows.length) :
    Calls Tryd.prog 12 #[u, stV x p d] w (GoPost w F L sz (dropE rows r) (dropT rows r)) := by
  obtain ⟨Ac, cc, As, cs, Ar, cr, rfl, hc1, hc2, hs1, hs2, hr1, hr2, k1, k2, k3⟩ := h.form
  have HK := Lib.hid (And.intro k1 k2)
  obtain ⟨us, hu1, hu2, hu3⟩ := k3
  have A0 := Lib.hid (fun W (hk : Keep (fun _ => False) w W) => src_ml hu1 rfl (hu2.keep hk (fun _ _ _ h => h)) (fun i y q h1 h2 => entN.keep (hu3 i y q h1 h2) hk (fun _ _ _ h => h)))
  have HI := Lib.hid (show us.length = rows.length ∧ ∀ W, Keep (fun _ => False) w W → ∀ (i : Nat) y q, rows[i]? = some y → us[i]? = some q → NS parN W (fun b => F b ∧ b < w.heap.size) q y.parts from ⟨hu1, fun W hk i y q h1 h2 => ((NS.mono (hu3 i y q h1 h2) (G := fun b => F b ∧ b < w.heap.size) (fun b hb h => ⟨h, hb⟩)).same hk)⟩)
  obtain ⟨Ap, cp, rfl, hp2, hp1⟩ := hp.form
  obtain ⟨Ad, cd, rfl, -⟩ := hd
  have GB0 := Lib.hid (GB.first w (.slice Ac L.length cc) (.slice As L.length cs) (.slice Ar rows.length cr) x (.slice Ap x.parts.length cp) (.slice Ad x.data.length cd))
  unfold stV
  clear h hp k1 k2 hc1 hc2 hs1 hs2 hr1 hp1 hp2 hu1 hu2 hu3
  unfold maxLen at hr2
  generalize hm : L.length = m at *
  have HM := Lib.hid hm
  clear hm
  obtain ⟨n, hn⟩ : ∃ n, rows.length = n := ⟨_, rfl⟩
  have HN := Lib.hid hn
  rw [hn] at A0 GB0 hrn h24 ⊢
  clear hn
  generalize x.parts.length = q at *
  generalize x.data.length = nd at *
  obtain ⟨do_, id, parts, row, comp, data⟩ := x
  simp only at hdo hr GB0 ⊢
  subst hdo hr
  obtain ⟨k, rfl⟩ : ∃ k, n = k + 1 := ⟨n - 1, by omega⟩
  have n1 : ¬ (r : Int) < 0 := by omega
  have n3 : ¬ ((k + 1 : Nat) : Int) ≤ (r : Int) := by omega
  have f2 : (r : Int) < ((k + 1 : Nat) : Int) := by omega
  have f3 : (0 : Int) ≤ (r : Int) := by omega
  have f4 : (k : Int) < ((k + 1 : Nat) : Int) := by omega
  have f5 : (0 : Int) ≤ (k : Int) := by omega
  go_enter Tryd.func12, Tryd.ntmps12
  go_upto_region 1 with fail
  refine wp_world (S := fun W => GB w W (.slice Ac m cc) (.slice As m cs) (.slice Ar (k + 1) cr) ⟨4, id, parts, r, comp, data⟩ (.slice Ap q cp) (.slice Ad nd cd)) GB0.out ?_
  intro X hX
  have HX := Lib.hid hX
  have hX4 : w.heap.size + 4 ≤ X.heap.size := by have := (Array.getElem?_eq_some_iff.1 hX.2.2.2.1).1; omega
  clear hX GB0
  obtain ⟨x0, x1, x2, xf⟩ := cells3 HX.out.1
  obtain ⟨s0, s1, s2, s3, s4, s5, s6, sf⟩ := cells7 HX.out.2.1
  go_upto_region 7 with fail
  have x2a : ∀ o, (X.alloc o).cell? ⟨w.heap.size, 2, none⟩ = some (.slice Ar (k + 1) cr) := fun o => ((Keep.refl (fun _ => False) X).alloc o).cell (fun h => h) x2
  go_wp2_with (first
    | (at_builtin; refine wpList_ent0 (by rfl) _ _ (by rfl) X.heap.size _ (by rfl) (Own.none_ _ _ _ _ _) _ (k + 1) _ (by rfl) (A0.out _ (HX.out.2.2.2.2.trans (T := fun _ => False) (by exact (by repeat first | (with_reducible assumption) | (with_reducible exact Keep.refl _ _) | (with_reducible refine Keep.alloc ?_ _) | (with_reducible refine Keep.drew ?_) | (with_reducible refine Keep.drewN ?_ _) | (with_reducible refine Keep.setCell ?_ (.inl (by first | omega | (simp; done) | (simp; omega) | fail)) _))) (fun _ _ h => h))) (by omega) (by first | (simp; done) | (simp; omega)) ?_)
    | fail)
  intro A5 c5 w5 ho5 hk5
  clear x2a
  have K5 := Lib.hid (show Keep (fun _ => False) X w5 from Keep.trans (T := fun _ => False) (by exact (by repeat first | (with_reducible assumption) | (with_reducible exact Keep.refl _ _) | (with_reducible refine Keep.alloc ?_ _) | (with_reducible refine Keep.drew ?_) | (with_reducible refine Keep.drewN ?_ _) | (with_reducible refine Keep.setCell ?_ (.inl (by first | omega | (simp; done) | (simp; omega) | fail)) _))) (hk5.mono (fun k _ e => by cases e)) (fun _ _ h => h))
  have HY := Lib.hid (HX.out.same K5.out)
  obtain ⟨g, rfl, hg1, hg2, hrw⟩ := rw_of (by omega) HN.out HI.out.1 ho5 (HI.out.2 w5 HY.out.2.2.2.2) (fun b h => by omega)
  clear hk5 ho5 x0 x1 x2 xf s0 s1 s2 s3 s4 s5 s6 sf
  obtain ⟨x0, x1, x2, xf⟩ := cells3 HY.out.1
  obtain ⟨s0, s1, s2, s3, s4, s5, s6, sf⟩ := cells7 HY.out.2.1
  obtain ⟨yl, ql, hyl, hql, hnl, l0, l1, l2, lf0, lf1, lf2⟩ := hrw.at_ (k := k) (by omega)
  obtain ⟨yr, qr, -, -, -, r0, r1, r2, rf0, rf1, rf2⟩ := hrw.at_ hrn
  have hc5 := hrw.le
  have SI := Lib.hid (hrw.put hrn yl ql hnl)
  have HRW := Lib.hid hrw
  have hyd : rows.getD k default = yl := by rw [List.getD_eq_getElem?_getD, hyl]; rfl
  have HYD := Lib.hid hyd
  obtain ⟨Al, cl, rfl, -⟩ := hnl.form
  clear hrw hnl hyl hql hyd
  generalize yl.parts.length = np at *
  have g1 : (k : Int) ≤ (c5 : Int) := by omega
  have gn0 : ¬ g = w.heap.size := by omega
  have gn1 : ¬ g = w.heap.size + 1 := by omega
  have gn2 : ¬ g = w.heap.size + 1 + 1 := by omega
  have gn3 : ¬ g = w.heap.size + 1 + 1 + 1 := by omega
  go_upto_region 10 with fail
  go_region
  have HW : Hid (Rw (((w5.setCell ⟨g, r * 3, none⟩ (.int .i64 yl.id.ix)).setCell ⟨g, r * 3 + 1, none⟩ (.int .i64 yl.id.gen)).setCell ⟨g, r * 3 + 2, none⟩ (.slice Al np cl)).drew X.heap.size g (k + 1) c5 (fun b => ((F b ∧ b < w.heap.size) ∨ X.heap.size ≤ b) ∧ b ≠ g) (rows.set r yl) (us.set r (.slice Al np cl)) ∧ Keep (fun b => b = g) w5 (((w5.setCell ⟨g, r * 3, none⟩ (.int .i64 yl.id.ix)).setCell ⟨g, r * 3 + 1, none⟩ (.int .i64 yl.id.gen)).setCell ⟨g, r * 3 + 2, none⟩ (.slice Al np cl)).drew) :=
    Lib.hid ⟨SI.out.1.keep ((Keep.refl (fun _ => False) _).drew) (fun h => h) (fun _ _ _ h => h), SI.out.2.drew⟩
  generalize (((w5.setCell ⟨g, r * 3, none⟩ (.int .i64 yl.id.ix)).setCell ⟨g, r * 3 + 1, none⟩ (.int .i64 yl.id.gen)).setCell ⟨g, r * 3 + 2, none⟩ (.slice Al np cl)).drew = W2 at HW ⊢
  clear SI x0 x1 x2 xf s0 s1 s2 s3 s4 s5 s6 sf r0 r1 r2 rf0 rf1 rf2 l0 l1 l2 lf0 lf1 lf2
  have HZ := Lib.hid (show W2.heap[w.heap.size]? = _ ∧ W2.heap[w.heap.size + 1]? = _ ∧ W2.heap[w.heap.size + 1 + 1]? = _ ∧ W2.heap[w.heap.size + 1 + 1 + 1]? = _ ∧ Keep (fun b => w.heap.size ≤ b) w W2 from
    ⟨(HW.out.2.block _ (Array.getElem?_eq_some_iff.1 HY.out.1).1 (fun e => gn0 e.symm)).trans HY.out.1, (HW.out.2.block _ (Array.getElem?_eq_some_iff.1 HY.out.2.1).1 (fun e => gn1 e.symm)).trans HY.out.2.1, (HW.out.2.block _ (Array.getElem?_eq_some_iff.1 HY.out.2.2.1).1 (fun e => gn2 e.symm)).trans HY.out.2.2.1, (HW.out.2.block _ (Array.getElem?_eq_some_iff.1 HY.out.2.2.2.1).1 (fun e => gn3 e.symm)).trans HY.out.2.2.2.1, (HY.out.2.2.2.2.mono (fun _ _ h => h.elim)).trans HW.out.2 (fun b _ e => by omega)⟩)
  obtain ⟨x0, x1, x2, xf⟩ := cells3 HZ.out.1
  obtain ⟨s0, s1, s2, s3, s4, s5, s6, sf⟩ := cells7 HZ.out.2.1
  obtain ⟨y0, y1, y2, yf⟩ := cells3 HZ.out.2.2.1
  obtain ⟨z0, z1, z2, z3, z4, z5, zf⟩ := cells6 HZ.out.2.2.2.1
  obtain ⟨yr, qr, hyr, -, -, r0, r1, r2, -⟩ := HW.out.1.at_ hrn
  have hrl : r < rows.length := by rw [HN.out]; exact hrn
  rw [List.getElem?_set_self hrl] at hyr
  obtain rfl : yl = yr := Option.some.inj hyr
  clear hyr hrl
  have HK2 := Lib.hid ((HK.out.1.mono (G := fun b => F b ∧ b < w.heap.size) (fun b hb h => ⟨h, hb⟩)).keep HZ.out.2.2.2.2 (S := fun b => w.heap.size ≤ b) (fun b hb _ h => by omega))
  have HK3 := Lib.hid ((HK.out.2.mono (G := fun b => F b ∧ b < w.heap.size) (fun b hb h => ⟨h, hb⟩)).keep HZ.out.2.2.2.2 (S := fun b => w.heap.size ≤ b) (fun b hb _ h => by omega))
  have g2 : ¬ (c5 : Int) < (k : Int) := by omega
  obtain ⟨W3, hW3⟩ : ∃ W3, W3 = W2.setCell ⟨w.heap.size, 2, none⟩ (.slice (some ⟨g, 0, none⟩) k c5) := ⟨_, rfl⟩
  have k3 : Keep (fun b => b = w.heap.size) W2 W3 := by rw [hW3]; exact Keep.setCell (S := fun b => b = w.heap.size) (p := ⟨w.heap.size, 2, none⟩) (Keep.refl _ _) (.inr rfl) _
  have H3 := Lib.hid (show W3.heap[w.heap.size + 1 + 1]? = _ ∧ W3.heap[w.heap.size + 1 + 1 + 1]? = _ from ⟨(k3.block _ (Array.getElem?_eq_some_iff.1 HZ.out.2.2.1).1 (fun e => by omega)).trans HZ.out.2.2.1, (k3.block _ (Array.getElem?_eq_some_iff.1 HZ.out.2.2.2.1).1 (fun e => by omega)).trans HZ.out.2.2.2.1⟩)
  have hzX := HW.out.2.size
  have END := Lib.hid (show ∀ (d0 d1 : Value) (t : TlZ) (v2 v3 v4 v5 : Value), TlSt W3 (fun b => (F b ∧ b < w.heap.size) ∨ X.heap.size ≤ b) (.agg #[d0, d1, v2, v3, v4, v5]) t → GoPost w F L sz (dropE rows r) t (.returned (.tuple #[.agg #[.slice Ac m cc, .slice As m cs, .slice (some ⟨g, 0, none⟩) k c5], .agg #[d0, d1, v2, v3, v4, v5]])) (set6 (set3 W3 (w.heap.size + 1 + 1) (.slice Ac m cc) (.slice As m cs) (.slice (some ⟨g, 0, none⟩) k c5)) (w.heap.size + 1 + 1 + 1) d0 d1 v2 v3 v4 v5) from fun d0 d1 t v2 v3 v4 v5 ht => by
    refine go_end hX4 (HZ.out.2.2.2.2.trans k3 (fun b _ e => by omega)) ⟨_, _, _, rfl, ?_, ?_, ?_⟩ ht
    · rw [HM.out]; exact (HK2.out.mono (G := fun b => F b ∧ b < w.heap.size) (fun b hb h => ⟨h.1, h.2⟩)).keep k3 (fun b _ h e => by omega) |>.mono (fun _ _ h => .inl h)
    · rw [HM.out]; exact (HK3.out.mono (G := fun b => F b ∧ b < w.heap.size) (fun b hb h => ⟨h.1, h.2⟩)).keep k3 (fun b _ h e => by omega) |>.mono (fun _ _ h => .inl h)
    · have e : dropE rows r = (rows.set r yl).take k := by unfold dropE; rw [HN.out, show k + 1 - 1 = k by omega, HYD.out]
      rw [e]
      have hk3 : ∀ b, (((F b ∧ b < w.heap.size) ∨ X.heap.size ≤ b) ∧ b ≠ g) ∨ X.heap.size ≤ b → b ≠ w.heap.size := fun b h e => by
        rcases h with h | h
        · rcases h.1 with h | h <;> omega
        · omega
      exact ((HW.out.1.ns (show k ≤ k + 1 by omega)).keep k3 (fun b _ h e => hk3 b h e)).mono (fun b _ h => h.elim (fun h => h.1) .inr))
  by_cases hrk : r = k
  · subst hrk
    go_wp2
    rw [← hW3]
    refine bodyPost_ret (results_go Tryd.results12 _ _ (w.heap.size + 1 + 1) (w.heap.size + 1 + 1 + 1) _ _ _ _ _ _ _ _ _ (by rfl) (go_stored H3.out.1 H3.out.2 (by omega) _ _ _ _ _ _ _ _ _).1 (by rfl) (go_stored H3.out.1 H3.out.2 (by omega) _ _ _ _ _ _ _ _ _).2) rfl ?_
    refine END.out _ _ _ _ _ _ _ ?_
    unfold dropT
    rw [HN.out, if_pos (by omega)]
    exact ⟨_, _, rfl, By.nil _ _, NS.nil _ _ _⟩
  · have hrk2 : ((r : Int) == (k : Int)) = false := by rw [beq_eq_false_iff_ne]; omega
    have HRK := Lib.hid hrk
    clear hrk
    go_wp2
    go_region
    rw [← hW3]
    go_wp2
    refine bodyPost_ret (results_go Tryd.results12 _ _ (w.heap.size + 1 + 1) (w.heap.size + 1 + 1 + 1) _ _ _ _ _ _ _ _ _ (by rfl) (by rw [heap_drew']; exact (go_stored H3.out.1 H3.out.2 (by omega) _ _ _ _ _ _ _ _ _).1) (by rfl) (by rw [heap_drew']; exact (go_stored H3.out.1 H3.out.2 (by omega) _ _ _ _ _ _ _ _ _).2)) rfl ?_
    refine GoPost.drew (END.out _ _ _ _ _ _ _ ?_)
    unfold dropT
    have := HRK.out
    rw [HN.out, if_neg (by omega), show k + 1 - 1 = k by omega, HYD.out]
    exact ⟨_, _, rfl, By.nil _ _, NS.nil _ _ _⟩
end
end Go.Proofs.YtpkeahikfbmcpaaDoor
namespace Go.Proofs.YtpkeahikfbmcpaaDoor
open Go.RowKit
set_option maxRecDepth 100000
set_option linter.unusedVariables false
set_option linter.unusedSimpArgs false

theorem parts_put {W : World} {B g n c j : Nat} {e : TypeId} {F : Nat → Prop} {P : List PtZ} {us : List Value} {x : PtZ} {v : Value} {d : List UInt8} (h0 : 0 < n) (hn : P.length = n) (hu : us.length = P.length) (ho : Own W B e 2 (.slice (some ⟨g, 0, none⟩) n c) n ((P.zip us).flatMap parN.cells)) (hi : ∀ (i : Nat) y q, P[i]? = some y → us[i]? = some q → By W F q y.data) (hx : P[j]? = some x) (hv : By W F v d) (hg : ∀ b, F b → b ≠ g) :
    NS parN (W.setCell ⟨g, j * 2 + 1, none⟩ v) (fun b => F b ∨ B ≤ b) (.slice (some ⟨g, 0, none⟩) n c) (P.set j ⟨x.comp, d⟩) ∧ Keep (fun b => b = g) W (W.setCell ⟨g, j * 2 + 1, none⟩ v) := by
  have hk : Keep (fun b => b = g) W (W.setCell ⟨g, j * 2 + 1, none⟩ v) := Keep.setCell (S := fun b => b = g) (p := ⟨g, j * 2 + 1, none⟩) (Keep.refl _ _) (.inr rfl) _
  have hj := (List.getElem?_eq_some_iff.1 hx).1
  have hle : n ≤ c := by
    obtain ⟨_, A, c', e, h, _⟩ := ho
    injection e with _ _ e
    omega
  refine ⟨⟨us.set j v, by rw [List.length_set, List.length_set, hu], ?_, fun i y q hy hq => ?_⟩, hk⟩
  · have h2 := ho.setG (k := j * 2 + 1) (x := v) (by omega)
    have flat : ∀ (l : List (PtZ × Value)) (r : Nat) (x : PtZ × Value) (k : Int) (q : Value), l[r]? = some x → x.1.comp = k → (l.flatMap parN.cells).set (r * 2 + 1) q = (l.set r ((⟨k, d⟩ : PtZ), q)).flatMap parN.cells := by
      intro l
      induction l with
      | nil => intro r x k q h; simp at h
      | cons y l ih =>
        intro r x k q h hk
        cases r with
        | zero =>
          simp at h
          subst h hk
          simp [parN]
        | succ r =>
          have := ih r x k q (by simpa using h) hk
          rw [List.set_cons_succ, List.flatMap_cons, List.flatMap_cons, ← this, show (r + 1) * 2 + 1 = (r * 2 + 1) + 2 by omega]
          simp [parN]
    obtain ⟨q0, hq0⟩ : ∃ q0, us[j]? = some q0 := ⟨_, List.getElem?_eq_getElem (by omega)⟩
    rw [flat _ j (x, q0) x.comp v (List.getElem?_zip_eq_some.2 ⟨hx, hq0⟩) rfl, ← zip_set] at h2
    have h4 : Own (W.setCell ⟨g, j * 2 + 1, none⟩ v) B e parN.m (.slice (some ⟨g, 0, none⟩) n c) ((P.set j ⟨x.comp, d⟩).zip (us.set j v)).length (((P.set j ⟨x.comp, d⟩).zip (us.set j v)).flatMap parN.cells) := by
      rw [List.length_zip, List.length_set, List.length_set, hu, Nat.min_self, hn]; exact h2
    exact (Own.ml (n := 0) parN.pos parN.len h4).mono (fun b _ h => .inr h)
  · show By _ _ q y.data
    by_cases e1 : i = j
    · subst e1
      rw [List.getElem?_set_self hj] at hy
      rw [List.getElem?_set_self (by omega)] at hq
      obtain rfl := Option.some.inj hy
      obtain rfl := Option.some.inj hq
      exact (By.keep hv hk (fun b _ h e => hg b h e)).mono (fun _ _ h => .inl h)
    · rw [List.getElem?_set_ne (Ne.symm e1)] at hy hq
      exact (By.keep (hi i y q hy hq) hk (fun b _ h e => hg b h e)).mono (fun _ _ h => .inl h)
theorem src_mlP {W : World} {F : Nat → Prop} {A : Option Addr} {n c : Nat} {P : List PtZ} {us : List Value} (h1 : us.length = P.length) (hn : P.length = n) (h : ML parN.cells parN.m W F (.slice A n c) (P.zip us)) (hone : ∀ (i : Nat) x q, P[i]? = some x → us[i]? = some q → By W F q x.data) : Src Tryd.prog 2 38 (.slice A n c) n ((P.zip us).flatMap parN.cells) W := by
  have hl : (P.zip us).length = n := by rw [List.length_zip, h1, Nat.min_self]; exact hn
  obtain ⟨A', c', e, g1, g2, g3, -⟩ := h
  rw [hl] at e g1 g3
  injection e with e1 e2 e3
  subst e1 e3
  refine Rd.src (c := c) (P := Tryd.prog) g3 Tryd.underlying38 (fun u hu => ?_) (by decide)
  obtain ⟨p, hp, hu⟩ := List.mem_flatMap.1 hu
  obtain ⟨i, hi⟩ := List.mem_iff_getElem?.1 hp
  have := List.getElem?_zip_eq_some.1 hi
  exact parN.one (hone i p.1 p.2 this.1 this.2) u hu
theorem wpList_parts0 {ops : Array Oper} {o : Oper} {rest : List Oper} {a : Act} {w : World} {Q : Exit → Act → World → Prop} (hgd : Region.wanted o (yielded ops a.tmps) = true) (s x : Operand)
    (ho : o.op = .call { callee := .builtin .append, args := #[s, x], argTypes := #[38, 38] }) (B : Nat) (v : Value) (hv : a.eval s = v) (hown : Own w B 81 2 v 0 []) (vx : Value) (k : Nat) (ys : List Value)
    (hy : a.eval x = vx) (hsrc : Src Tryd.prog 2 38 vx k ys w) (hk : k ≤ 1099511627776) (hB : B ≤ w.heap.size)
    (h : ∀ A c w', Own w' B 81 2 (.slice A k c) k ys → Keep (fun k => ownB v = some k) w w' → wpList Tryd.prog ops Q rest (a.put o.dst (.slice A k c)) w') :
    wpList Tryd.prog ops Q (o :: rest) a w :=
  wpList_step fun _ hK => by
    obtain ⟨is, his, hs0, hs1, hs2⟩ := info_parts info_part
    refine step_append_gen w hgd s x _ _ ho B 81 is _ 2 32 Tryd.underlying38 his hs0 hs1 hs2 rfl v 0 _ hv hown vx k ys hy hsrc (by unfold maxLen; omega) (by omega) hB ?_
    intro v' w' ho' hk' hn'
    obtain ⟨A, c', rfl, _⟩ := ho'.form
    rw [Nat.zero_add] at ho' ⊢
    exact hK _ _ (h A c' w' ho' hk')
section
variable {w : World} {F : Nat → Prop} {u : Value} {L : List Nat} {sz : Nat → Nat} {rows : List EnZ}
set_option maxHeartbeats 1000000 in
theorem rgo_get (h : RT w F u L sz rows) (x : StZ) (p d : Value) (hp : NS parN w F p x.parts) (hd : By w F d x.data) (hdo : x.do_ = 2) (h24 : rows.length ≤ 1024) (hm64 : L.length ≤ 64) (h64 : ∀ c ∈ L, sz c ≤ 64) (r : Nat) (y : EnZ) (hr : x.row = (r : Int)) (hy : rows[r]? = some y) (hyl : y.parts.length = L.length) (j0 : Nat) (hj0 : j0 < L.length) (hat : ((L.getD j0 0 : Nat) : Int) = x.comp) (hno : ∀ j, j < j0 → ((L.getD j 0 : Nat) : Int) ≠ x.comp) :
    Calls Tryd.prog 12 #[u, stV x p d] w (GoPost w F L sz rows ⟨(y.parts.getD j0 default).data, [], ⟨0, 0⟩, false, 0⟩) := by
  have hrn : r < rows.length := (List.getElem?_eq_some_iff.1 hy).1
  have HRT := Lib.hid (fun W (hk : Keep (fun _ => False) w W) => (h.mono (G := fun b => (F b ∧ b < w.heap.size) ∨ w.heap.size + 4 ≤ b) (fun b hb h => .inl ⟨h, hb⟩)).same hk)
  obtain ⟨Ac, cc, As, cs, Ar, cr, rfl, hc1, hc2, hs1, hs2, hr1, hr2, k1, k2, k3⟩ := h.form
  have HC := Lib.hid k1
  have HS := Lib.hid k2
  have HD := Lib.hid hd
  obtain ⟨us, hu1, hu2, hu3⟩ := k3
  have A0 := Lib.hid (fun W (hk : Keep (fun _ => False) w W) => src_ml hu1 rfl (hu2.keep hk (fun _ _ _ h => h)) (fun i y q h1 h2 => entN.keep (hu3 i y q h1 h2) hk (fun _ _ _ h => h)))
  have HI := Lib.hid (show us.length = rows.length ∧ ∀ W, Keep (fun _ => False) w W → ∀ (i : Nat) y q, rows[i]? = some y → us[i]? = some q → NS parN W (fun b => F b ∧ b < w.heap.size) q y.parts from ⟨hu1, fun W hk i y q h1 h2 => ((NS.mono (hu3 i y q h1 h2) (G := fun b => F b ∧ b < w.heap.size) (fun b hb h => ⟨h, hb⟩)).same hk)⟩)
  obtain ⟨Ap, cp, rfl, hp2, hp1⟩ := hp.form
  obtain ⟨Ad, cd, rfl, -⟩ := hd
  have GB0 := Lib.hid (GB.first w (.slice Ac L.length cc) (.slice As L.length cs) (.slice Ar rows.length cr) x (.slice Ap x.parts.length cp) (.slice Ad x.data.length cd))
  unfold stV
  clear h hp k1 k2 hr1 hp1 hp2 hu1 hu2 hu3
  unfold maxLen at hr2 hc2 hs2
  obtain ⟨m, hm⟩ : ∃ m, L.length = m := ⟨_, rfl⟩
  have HM := Lib.hid hm
  rw [hm] at HC HS GB0 HRT hc1 hs1 hj0 hm64 hyl ⊢
  have HYL := Lib.hid hyl
  clear hm hyl
  obtain ⟨n, hn⟩ : ∃ n, rows.length = n := ⟨_, rfl⟩
  have HN := Lib.hid hn
  rw [hn] at A0 GB0 HRT hrn h24 ⊢
  clear hn
  generalize x.parts.length = q at *
  obtain ⟨do_, id, parts, row, comp, data⟩ := x
  simp only at hdo hr GB0 hat hno HD ⊢
  generalize hnd : data.length = nd at *
  have HND := Lib.hid hnd
  clear hnd
  subst hdo hr
  have NO := Lib.hid hno
  have AT := Lib.hid hat
  have HY0 := Lib.hid hy
  have H64 := Lib.hid h64
  clear hno hat hy h64
  have n1 : ¬ (r : Int) < 0 := by omega
  have n3 : ¬ (n : Int) ≤ (r : Int) := by omega
  have f2 : (r : Int) < (n : Int) := by omega
  have f3 : (0 : Int) ≤ (r : Int) := by omega
  go_enter Tryd.func12, Tryd.ntmps12
  go_upto_region 1 with fail
  refine wp_world (S := fun W => GB w W (.slice Ac m cc) (.slice As m cs) (.slice Ar n cr) ⟨2, id, parts, r, comp, data⟩ (.slice Ap q cp) (.slice Ad nd cd)) GB0.out ?_
  intro X hX
  have HX := Lib.hid hX
  have hX4 : w.heap.size + 4 ≤ X.heap.size := by have := (Array.getElem?_eq_some_iff.1 hX.2.2.2.1).1; omega
  clear hX GB0
  obtain ⟨x0, x1, x2, xf⟩ := cells3 HX.out.1
  obtain ⟨s0, s1, s2, s3, s4, s5, s6, sf⟩ := cells7 HX.out.2.1
  go_upto_region 7 with fail
  have x2a : ∀ o, (X.alloc o).cell? ⟨w.heap.size, 2, none⟩ = some (.slice Ar n cr) := fun o => ((Keep.refl (fun _ => False) X).alloc o).cell (fun h => h) x2
  go_wp2_with (first
    | (at_builtin; refine wpList_ent0 (by rfl) _ _ (by rfl) X.heap.size _ (by rfl) (Own.none_ _ _ _ _ _) _ n _ (by rfl) (A0.out _ (HX.out.2.2.2.2.trans (T := fun _ => False) (by exact (by repeat first | (with_reducible assumption) | (with_reducible exact Keep.refl _ _) | (with_reducible refine Keep.alloc ?_ _) | (with_reducible refine Keep.drew ?_) | (with_reducible refine Keep.drewN ?_ _) | (with_reducible refine Keep.setCell ?_ (.inl (by first | omega | (simp; done) | (simp; omega) | fail)) _))) (fun _ _ h => h))) (by omega) (by first | (simp; done) | (simp; omega)) ?_)
    | fail)
  intro A5 c5 w5 ho5 hk5
  clear x2a
  have K5 := Lib.hid (show Keep (fun _ => False) X w5 from Keep.trans (T := fun _ => False) (by exact (by repeat first | (with_reducible assumption) | (with_reducible exact Keep.refl _ _) | (with_reducible refine Keep.alloc ?_ _) | (with_reducible refine Keep.drew ?_) | (with_reducible refine Keep.drewN ?_ _) | (with_reducible refine Keep.setCell ?_ (.inl (by first | omega | (simp; done) | (simp; omega) | fail)) _))) (hk5.mono (fun k _ e => by cases e)) (fun _ _ h => h))
  have HY := Lib.hid (HX.out.same K5.out)
  obtain ⟨g, rfl, hg1, hg2, hrw⟩ := rw_of (by omega) HN.out HI.out.1 ho5 (HI.out.2 w5 HY.out.2.2.2.2) (fun b h => by omega)
  have HRW := Lib.hid hrw
  have hc5 := hrw.le
  clear hk5 ho5 hrw x0 x1 x2 xf s0 s1 s2 s3 s4 s5 s6 sf
  obtain ⟨x0, x1, x2, xf⟩ := cells3 HY.out.1
  obtain ⟨s0, s1, s2, s3, s4, s5, s6, sf⟩ := cells7 HY.out.2.1
  have gn0 : ¬ g = w.heap.size := by omega
  have gn1 : ¬ g = w.heap.size + 1 := by omega
  have gn2 : ¬ g = w.heap.size + 1 + 1 := by omega
  have gn3 : ¬ g = w.heap.size + 1 + 1 + 1 := by omega
  go_wp2
  go_loopw [8] (fun i wr => ∃ (j : Nat), j ≤ j0 ∧ i = .int .i64 (j : Int) ∧ Hid (Keep (fun _ => False) w5 wr)) (fun i _ => m - (intOf i).toNat)
  case atStart => exact ⟨0, by omega, rfl, Lib.hid (Keep.refl _ _)⟩
  case round =>
    obtain ⟨j, hj, rfl, hkr⟩ := hrel
    have HZ := Lib.hid (HY.out.same hkr.out)
    clear x0 x1 x2 xf s0 s1 s2 s3 s4 s5 s6 sf
    obtain ⟨x0, x1, x2, xf⟩ := cells3 HZ.out.1
    obtain ⟨s0, s1, s2, s3, s4, s5, s6, sf⟩ := cells7 HZ.out.2.1
    have f1 : (j : Int) < (m : Int) := by omega
    have f0 : (0 : Int) ≤ (j : Int) := by omega
    by_cases hlt : j < j0
    · obtain ⟨b1, o1, rfl, hcl⟩ := ints_at (HC.out.keep HZ.out.2.2.2.2 (fun _ _ _ h => h)) HM.out (show j < m by omega)
      have hne := NO.out j hlt
      generalize L.getD j 0 = c at *
      have ene : ((c : Int) != comp) = true := by rw [bne_iff_ne]; exact hne
      clear hne
      go_wp2
      go_quiet (fail)
      go_wp2
      go_roundw
      case rel => exact ⟨j + 1, by omega, by go_num, Lib.hid (Keep.trans hkr.out (by exact (by repeat first | (with_reducible assumption) | (with_reducible exact Keep.refl _ _) | (with_reducible refine Keep.alloc ?_ _) | (with_reducible refine Keep.drew ?_) | (with_reducible refine Keep.drewN ?_ _) | (with_reducible refine Keep.setCell ?_ (.inl (by first | omega | (simp; done) | (simp; omega) | fail)) _))) (fun _ _ h => h))⟩
      case measure => simp [intOf]; omega
    · obtain rfl : j = j0 := by omega
      obtain ⟨b1, o1, rfl, hcl⟩ := ints_at (HC.out.keep HZ.out.2.2.2.2 (fun _ _ _ h => h)) HM.out hj0
      have hne := AT.out
      have HLJ := Lib.hid (show ∀ c, L.getD j 0 = c → c ∈ L from fun c e => e ▸ getD_mem (by rw [HM.out]; exact hj0))
      generalize hcc : L.getD j 0 = c at *
      have hcL := HLJ.out c rfl
      have HCC := Lib.hid hcc
      clear hcc HLJ
      subst hne
      have ene : ((c : Int) != (c : Int)) = false := by simp
      have HRZ := Lib.hid (HRW.out.keep hkr.out (fun h => h) (fun _ _ _ h => h))
      have hzz := hkr.out.size
      obtain ⟨y', q', hy', -, hin, -, -, l2, -⟩ := HRZ.out.at_ hrn
      obtain rfl : y' = y := Option.some.inj (hy'.symm.trans HY0.out)
      obtain ⟨Aq, cq, rfl, hcq, hlq⟩ := hin.form
      have hjp : j < y'.parts.length := by rw [HYL.out]; exact hj0
      obtain ⟨b2, off2, z, v, rfl, hbF, hz, hv, hc⟩ := NS.at_ hin hjp
      have e1 := hc 1 _ rfl
      simp only [show parN.m = 2 from rfl] at e1
      have HV := Lib.hid (show By wr (fun b => (((F b ∧ b < w.heap.size) ∨ X.heap.size ≤ b) ∧ b ≠ g)) v z.data from hv)
      obtain ⟨Av, cv, rfl, -⟩ := HV.out
      have hzd : (y'.parts.getD j default).data = z.data := by rw [List.getD_eq_getElem?_getD, hz]; rfl
      have HZ1 := Lib.hid hz
      have hb1 : ¬ b2 = w.heap.size + 1 + 1 := fun e => by rcases hbF.1 with h | h <;> omega
      have hb2 : ¬ b2 = w.heap.size + 1 + 1 + 1 := fun e => by rcases hbF.1 with h | h <;> omega
      rw [HYL.out] at l2 hlq
      have hcq2 : (j : Int) < (m : Int) := f1
      clear hin hc hz hy' hv hbF hzd
      generalize z.data.length = nz at *
      obtain ⟨y0, y1, y2, yf⟩ := cells3 HZ.out.2.2.1
      obtain ⟨z0, z1, z2, z3, z4, z5, zf⟩ := cells6 HZ.out.2.2.2.1
      go_upto_region 18 with fail
      go_quiet (fail)
      go_upto_region 20 with fail
      go_region
      all_goals
        go_wp2
        refine bodyPost_ret (results_go Tryd.results12 _ _ (w.heap.size + 1 + 1) (w.heap.size + 1 + 1 + 1) _ _ _ _ _ _ _ _ _ (by rfl) (go_stored HZ.out.2.2.1 HZ.out.2.2.2.1 (by omega) _ _ _ _ _ _ _ _ _).1 (by rfl) (go_stored HZ.out.2.2.1 HZ.out.2.2.2.1 (by omega) _ _ _ _ _ _ _ _ _).2) rfl ?_
        exact (go_end (Nat.le_refl _) ((HZ.out.2.2.2.2.drewN _).mono (fun _ _ h => h.elim)) (HRT.out _ (HZ.out.2.2.2.2.drewN _)) ⟨_, _, rfl, by have e : y'.parts[j] = z := Option.some.inj ((List.getElem?_eq_getElem hjp).symm.trans HZ1.out); show By _ _ _ (y'.parts[j]).data; rw [e]; exact By.mono (By.keep HV.out ((Keep.refl (fun _ => False) _).drewN _) (fun _ _ _ h => h)) (fun b _ h => h.1.imp (fun h => h) (fun h => by omega)), NS.nil _ _ _⟩)
set_option maxHeartbeats 1000000 in
theorem rgo_size (h : RT w F u L sz rows) (x : StZ) (p d : Value) (hp : NS parN w F p x.parts) (hd : By w F d x.data) (hdo : x.do_ = 1) (h24 : rows.length ≤ 1024) (hm64 : L.length ≤ 64) (h64 : ∀ c ∈ L, sz c ≤ 64) (r : Nat) (y : EnZ) (hr : x.row = (r : Int)) (hy : rows[r]? = some y) (hyl : y.parts.length = L.length) (j0 : Nat) (hj0 : j0 < L.length) (hat : ((L.getD j0 0 : Nat) : Int) = x.comp) (hno : ∀ j, j < j0 → ((L.getD j 0 : Nat) : Int) ≠ x.comp) (hbad : x.data.length ≠ sz (L.getD j0 0)) :
    Calls Tryd.prog 12 #[u, stV x p d] w (GoPost w F L sz rows (errT 7)) := by
  have HGB := Lib.hid hbad
  clear hbad
  have hrn : r < rows.length := (List.getElem?_eq_some_iff.1 hy).1
  have HRT := Lib.hid (fun W (hk : Keep (fun _ => False) w W) => (h.mono (G := fun b => (F b ∧ b < w.heap.size) ∨ w.heap.size + 4 ≤ b) (fun b hb h => .inl ⟨h, hb⟩)).same hk)
  obtain ⟨Ac, cc, As, cs, Ar, cr, rfl, hc1, hc2, hs1, hs2, hr1, hr2, k1, k2, k3⟩ := h.form
  have HC := Lib.hid k1
  have HS := Lib.hid k2
  have HD := Lib.hid hd
  obtain ⟨us, hu1, hu2, hu3⟩ := k3
  have A0 := Lib.hid (fun W (hk : Keep (fun _ => False) w W) => src_ml hu1 rfl (hu2.keep hk (fun _ _ _ h => h)) (fun i y q h1 h2 => entN.keep (hu3 i y q h1 h2) hk (fun _ _ _ h => h)))
  have HI := Lib.hid (show us.length = rows.length ∧ ∀ W, Keep (fun _ => False) w W → ∀ (i : Nat) y q, rows[i]? = some y → us[i]? = some q → NS parN W (fun b => F b ∧ b < w.heap.size) q y.parts from ⟨hu1, fun W hk i y q h1 h2 => ((NS.mono (hu3 i y q h1 h2) (G := fun b => F b ∧ b < w.heap.size) (fun b hb h => ⟨h, hb⟩)).same hk)⟩)
  obtain ⟨Ap, cp, rfl, hp2, hp1⟩ := hp.form
  obtain ⟨Ad, cd, rfl, -⟩ := hd
  have GB0 := Lib.hid (GB.first w (.slice Ac L.length cc) (.slice As L.length cs) (.slice Ar rows.length cr) x (.slice Ap x.parts.length cp) (.slice Ad x.data.length cd))
  unfold stV
  clear h hp k1 k2 hr1 hp1 hp2 hu1 hu2 hu3
  unfold maxLen at hr2 hc2 hs2
  obtain ⟨m, hm⟩ : ∃ m, L.length = m := ⟨_, rfl⟩
  have HM := Lib.hid hm
  rw [hm] at HC HS GB0 HRT hc1 hs1 hj0 hm64 hyl ⊢
  have HYL := Lib.hid hyl
  clear hm hyl
  obtain ⟨n, hn⟩ : ∃ n, rows.length = n := ⟨_, rfl⟩
  have HN := Lib.hid hn
  rw [hn] at A0 GB0 HRT hrn h24 ⊢
  clear hn
  generalize x.parts.length = q at *
  obtain ⟨do_, id, parts, row, comp, data⟩ := x
  simp only at hdo hr GB0 hat hno HD HGB ⊢
  generalize hnd : data.length = nd at *
  have HND := Lib.hid hnd
  clear hnd
  subst hdo hr
  have NO := Lib.hid hno
  have AT := Lib.hid hat
  have HY0 := Lib.hid hy
  have H64 := Lib.hid h64
  clear hno hat hy h64
  have n1 : ¬ (r : Int) < 0 := by omega
  have n3 : ¬ (n : Int) ≤ (r : Int) := by omega
  have f2 : (r : Int) < (n : Int) := by omega
  have f3 : (0 : Int) ≤ (r : Int) := by omega
  go_enter Tryd.func12, Tryd.ntmps12
  go_upto_region 1 with fail
  refine wp_world (S := fun W => GB w W (.slice Ac m cc) (.slice As m cs) (.slice Ar n cr) ⟨1, id, parts, r, comp, data⟩ (.slice Ap q cp) (.slice Ad nd cd)) GB0.out ?_
  intro X hX
  have HX := Lib.hid hX
  have hX4 : w.heap.size + 4 ≤ X.heap.size := by have := (Array.getElem?_eq_some_iff.1 hX.2.2.2.1).1; omega
  clear hX GB0
  obtain ⟨x0, x1, x2, xf⟩ := cells3 HX.out.1
  obtain ⟨s0, s1, s2, s3, s4, s5, s6, sf⟩ := cells7 HX.out.2.1
  go_upto_region 7 with fail
  have x2a : ∀ o, (X.alloc o).cell? ⟨w.heap.size, 2, none⟩ = some (.slice Ar n cr) := fun o => ((Keep.refl (fun _ => False) X).alloc o).cell (fun h => h) x2
  go_wp2_with (first
    | (at_builtin; refine wpList_ent0 (by rfl) _ _ (by rfl) X.heap.size _ (by rfl) (Own.none_ _ _ _ _ _) _ n _ (by rfl) (A0.out _ (HX.out.2.2.2.2.trans (T := fun _ => False) (by exact (by repeat first | (with_reducible assumption) | (with_reducible exact Keep.refl _ _) | (with_reducible refine Keep.alloc ?_ _) | (with_reducible refine Keep.drew ?_) | (with_reducible refine Keep.drewN ?_ _) | (with_reducible refine Keep.setCell ?_ (.inl (by first | omega | (simp; done) | (simp; omega) | fail)) _))) (fun _ _ h => h))) (by omega) (by first | (simp; done) | (simp; omega)) ?_)
    | fail)
  intro A5 c5 w5 ho5 hk5
  clear x2a
  have K5 := Lib.hid (show Keep (fun _ => False) X w5 from Keep.trans (T := fun _ => False) (by exact (by repeat first | (with_reducible assumption) | (with_reducible exact Keep.refl _ _) | (with_reducible refine Keep.alloc ?_ _) | (with_reducible refine Keep.drew ?_) | (with_reducible refine Keep.drewN ?_ _) | (with_reducible refine Keep.setCell ?_ (.inl (by first | omega | (simp; done) | (simp; omega) | fail)) _))) (hk5.mono (fun k _ e => by cases e)) (fun _ _ h => h))
  have HY := Lib.hid (HX.out.same K5.out)
  obtain ⟨g, rfl, hg1, hg2, hrw⟩ := rw_of (by omega) HN.out HI.out.1 ho5 (HI.out.2 w5 HY.out.2.2.2.2) (fun b h => by omega)
  have HRW := Lib.hid hrw
  have hc5 := hrw.le
  clear hk5 ho5 hrw x0 x1 x2 xf s0 s1 s2 s3 s4 s5 s6 sf
  obtain ⟨x0, x1, x2, xf⟩ := cells3 HY.out.1
  obtain ⟨s0, s1, s2, s3, s4, s5, s6, sf⟩ := cells7 HY.out.2.1
  have gn0 : ¬ g = w.heap.size := by omega
  have gn1 : ¬ g = w.heap.size + 1 := by omega
  have gn2 : ¬ g = w.heap.size + 1 + 1 := by omega
  have gn3 : ¬ g = w.heap.size + 1 + 1 + 1 := by omega
  go_wp2
  go_loopw [8] (fun i wr => ∃ (j : Nat), j ≤ j0 ∧ i = .int .i64 (j : Int) ∧ Hid (Keep (fun _ => False) w5 wr)) (fun i _ => m - (intOf i).toNat)
  case atStart => exact ⟨0, by omega, rfl, Lib.hid (Keep.refl _ _)⟩
  case round =>
    obtain ⟨j, hj, rfl, hkr⟩ := hrel
    have HZ := Lib.hid (HY.out.same hkr.out)
    clear x0 x1 x2 xf s0 s1 s2 s3 s4 s5 s6 sf
    obtain ⟨x0, x1, x2, xf⟩ := cells3 HZ.out.1
    obtain ⟨s0, s1, s2, s3, s4, s5, s6, sf⟩ := cells7 HZ.out.2.1
    have f1 : (j : Int) < (m : Int) := by omega
    have f0 : (0 : Int) ≤ (j : Int) := by omega
    by_cases hlt : j < j0
    · obtain ⟨b1, o1, rfl, hcl⟩ := ints_at (HC.out.keep HZ.out.2.2.2.2 (fun _ _ _ h => h)) HM.out (show j < m by omega)
      have hne := NO.out j hlt
      generalize L.getD j 0 = c at *
      have ene : ((c : Int) != comp) = true := by rw [bne_iff_ne]; exact hne
      clear hne
      go_wp2
      go_quiet (fail)
      go_wp2
      go_roundw
      case rel => exact ⟨j + 1, by omega, by go_num, Lib.hid (Keep.trans hkr.out (by exact (by repeat first | (with_reducible assumption) | (with_reducible exact Keep.refl _ _) | (with_reducible refine Keep.alloc ?_ _) | (with_reducible refine Keep.drew ?_) | (with_reducible refine Keep.drewN ?_ _) | (with_reducible refine Keep.setCell ?_ (.inl (by first | omega | (simp; done) | (simp; omega) | fail)) _))) (fun _ _ h => h))⟩
      case measure => simp [intOf]; omega
    · obtain rfl : j = j0 := by omega
      obtain ⟨b1, o1, rfl, hcl⟩ := ints_at (HC.out.keep HZ.out.2.2.2.2 (fun _ _ _ h => h)) HM.out hj0
      have hne := AT.out
      have HLJ := Lib.hid (show ∀ c, L.getD j 0 = c → c ∈ L from fun c e => e ▸ getD_mem (by rw [HM.out]; exact hj0))
      generalize hcc : L.getD j 0 = c at *
      have hcL := HLJ.out c rfl
      have HCC := Lib.hid hcc
      clear hcc HLJ
      subst hne
      have ene : ((c : Int) != (c : Int)) = false := by simp
      have HRZ := Lib.hid (HRW.out.keep hkr.out (fun h => h) (fun _ _ _ h => h))
      have hzz := hkr.out.size
      obtain ⟨b3, o3, rfl, hcs⟩ := ints_at (L := L.map sz) (HS.out.keep HZ.out.2.2.2.2 (fun _ _ _ h => h)) (by rw [List.length_map]; exact HM.out) hj0
      have hsz : (L.map sz).getD j 0 = sz c := by
        have hj' : j < L.length := by rw [HM.out]; exact hj0
        have := HCC.out
        rw [List.getD_eq_getElem?_getD, List.getElem?_eq_getElem hj'] at this
        rw [List.getD_eq_getElem?_getD, List.getElem?_map, List.getElem?_eq_getElem hj']
        show sz L[j] = sz c
        rw [← this]; rfl
      rw [hsz] at hcs
      have ens : ((nd : Int) != ((sz c : Nat) : Int)) = true := by
        rw [bne_iff_ne]
        have h1 : nd ≠ sz c := HGB.out
        omega
      clear hsz
      generalize sz c = sc at *
      obtain ⟨y0, y1, y2, yf⟩ := cells3 HZ.out.2.2.1
      obtain ⟨z0, z1, z2, z3, z4, z5, zf⟩ := cells6 HZ.out.2.2.2.1
      go_upto_region 18 with fail
      go_quiet (fail)
      go_upto_region 21 with fail
      go_quiet (fail)
      go_wp2
      refine bodyPost_ret (results_go Tryd.results12 _ _ (w.heap.size + 1 + 1) (w.heap.size + 1 + 1 + 1) _ _ _ _ _ _ _ _ _ (by rfl) (go_stored HZ.out.2.2.1 HZ.out.2.2.2.1 (by omega) _ _ _ _ _ _ _ _ _).1 (by rfl) (go_stored HZ.out.2.2.1 HZ.out.2.2.2.1 (by omega) _ _ _ _ _ _ _ _ _).2) rfl ?_
      exact go_end (Nat.le_refl _) ((HZ.out.2.2.2.2.drewN _).mono (fun _ _ h => h.elim)) (HRT.out _ (HZ.out.2.2.2.2.drewN _)) ⟨_, _, rfl, By.nil _ _, NS.nil _ _ _⟩
set_option maxHeartbeats 1000000 in
theorem rgo_set (h : RT w F u L sz rows) (x : StZ) (p d : Value) (hp : NS parN w F p x.parts) (hd : By w F d x.data) (hdo : x.do_ = 1) (h24 : rows.length ≤ 1024) (hm64 : L.length ≤ 64) (h64 : ∀ c ∈ L, sz c ≤ 64) (r : Nat) (y : EnZ) (hr : x.row = (r : Int)) (hy : rows[r]? = some y) (hyl : y.parts.length = L.length) (j0 : Nat) (hj0 : j0 < L.length) (hat : ((L.getD j0 0 : Nat) : Int) = x.comp) (hno : ∀ j, j < j0 → ((L.getD j 0 : Nat) : Int) ≠ x.comp) (hgood : x.data.length = sz (L.getD j0 0)) :
    Calls Tryd.prog 12 #[u, stV x p d] w (GoPost w F L sz (rows.set r ⟨y.id, y.parts.set j0 ⟨(y.parts.getD j0 default).comp, x.data⟩⟩) (errT 0)) := by
  have HGB := Lib.hid hgood
  clear hgood
  have hrn : r < rows.length := (List.getElem?_eq_some_iff.1 hy).1
  have HRT := Lib.hid (fun W (hk : Keep (fun _ => False) w W) => (h.mono (G := fun b => (F b ∧ b < w.heap.size) ∨ w.heap.size + 4 ≤ b) (fun b hb h => .inl ⟨h, hb⟩)).same hk)
  obtain ⟨Ac, cc, As, cs, Ar, cr, rfl, hc1, hc2, hs1, hs2, hr1, hr2, k1, k2, k3⟩ := h.form
  have HC := Lib.hid k1
  have HS := Lib.hid k2
  have HD := Lib.hid hd
  obtain ⟨us, hu1, hu2, hu3⟩ := k3
  have A0 := Lib.hid (fun W (hk : Keep (fun _ => False) w W) => src_ml hu1 rfl (hu2.keep hk (fun _ _ _ h => h)) (fun i y q h1 h2 => entN.keep (hu3 i y q h1 h2) hk (fun _ _ _ h => h)))
  have HI := Lib.hid (show us.length = rows.length ∧ ∀ W, Keep (fun _ => False) w W → ∀ (i : Nat) y q, rows[i]? = some y → us[i]? = some q → NS parN W (fun b => F b ∧ b < w.heap.size) q y.parts from ⟨hu1, fun W hk i y q h1 h2 => ((NS.mono (hu3 i y q h1 h2) (G := fun b => F b ∧ b < w.heap.size) (fun b hb h => ⟨h, hb⟩)).same hk)⟩)
  obtain ⟨Ap, cp, rfl, hp2, hp1⟩ := hp.form
  obtain ⟨Ad, cd, rfl, -⟩ := hd
  have GB0 := Lib.hid (GB.first w (.slice Ac L.length cc) (.slice As L.length cs) (.slice Ar rows.length cr) x (.slice Ap x.parts.length cp) (.slice Ad x.data.length cd))
  unfold stV
  clear h hp k1 k2 hr1 hp1 hp2 hu1 hu2 hu3
  unfold maxLen at hr2 hc2 hs2
  obtain ⟨m, hm⟩ : ∃ m, L.length = m := ⟨_, rfl⟩
  have HM := Lib.hid hm
  rw [hm] at HC HS GB0 HRT hc1 hs1 hj0 hm64 hyl ⊢
  have HYL := Lib.hid hyl
  clear hm hyl
  obtain ⟨n, hn⟩ : ∃ n, rows.length = n := ⟨_, rfl⟩
  have HN := Lib.hid hn
  rw [hn] at A0 GB0 HRT hrn h24 ⊢
  clear hn
  generalize x.parts.length = q at *
  obtain ⟨do_, id, parts, row, comp, data⟩ := x
  simp only at hdo hr GB0 hat hno HD HGB ⊢
  generalize hnd : data.length = nd at *
  have HND := Lib.hid hnd
  clear hnd
  subst hdo hr
  have NO := Lib.hid hno
  have AT := Lib.hid hat
  have HY0 := Lib.hid hy
  have H64 := Lib.hid h64
  clear hno hat hy h64
  have n1 : ¬ (r : Int) < 0 := by omega
  have n3 : ¬ (n : Int) ≤ (r : Int) := by omega
  have f2 : (r : Int) < (n : Int) := by omega
  have f3 : (0 : Int) ≤ (r : Int) := by omega
  go_enter Tryd.func12, Tryd.ntmps12
  go_upto_region 1 with fail
  refine wp_world (S := fun W => GB w W (.slice Ac m cc) (.slice As m cs) (.slice Ar n cr) ⟨1, id, parts, r, comp, data⟩ (.slice Ap q cp) (.slice Ad nd cd)) GB0.out ?_
  intro X hX
  have HX := Lib.hid hX
  have hX4 : w.heap.size + 4 ≤ X.heap.size := by have := (Array.getElem?_eq_some_iff.1 hX.2.2.2.1).1; omega
  clear hX GB0
  obtain ⟨x0, x1, x2, xf⟩ := cells3 HX.out.1
  obtain ⟨s0, s1, s2, s3, s4, s5, s6, sf⟩ := cells7 HX.out.2.1
  go_upto_region 7 with fail
  have x2a : ∀ o, (X.alloc o).cell? ⟨w.heap.size, 2, none⟩ = some (.slice Ar n cr) := fun o => ((Keep.refl (fun _ => False) X).alloc o).cell (fun h => h) x2
  go_wp2_with (first
    | (at_builtin; refine wpList_ent0 (by rfl) _ _ (by rfl) X.heap.size _ (by rfl) (Own.none_ _ _ _ _ _) _ n _ (by rfl) (A0.out _ (HX.out.2.2.2.2.trans (T := fun _ => False) (by exact (by repeat first | (with_reducible assumption) | (with_reducible exact Keep.refl _ _) | (with_reducible refine Keep.alloc ?_ _) | (with_reducible refine Keep.drew ?_) | (with_reducible refine Keep.drewN ?_ _) | (with_reducible refine Keep.setCell ?_ (.inl (by first | omega | (simp; done) | (simp; omega) | fail)) _))) (fun _ _ h => h))) (by omega) (by first | (simp; done) | (simp; omega)) ?_)
    | fail)
  intro A5 c5 w5 ho5 hk5
  clear x2a
  have K5 := Lib.hid (show Keep (fun _ => False) X w5 from Keep.trans (T := fun _ => False) (by exact (by repeat first | (with_reducible assumption) | (with_reducible exact Keep.refl _ _) | (with_reducible refine Keep.alloc ?_ _) | (with_reducible refine Keep.drew ?_) | (with_reducible refine Keep.drewN ?_ _) | (with_reducible refine Keep.setCell ?_ (.inl (by first | omega | (simp; done) | (simp; omega) | fail)) _))) (hk5.mono (fun k _ e => by cases e)) (fun _ _ h => h))
  have HY := Lib.hid (HX.out.same K5.out)
  obtain ⟨g, rfl, hg1, hg2, hrw⟩ := rw_of (by omega) HN.out HI.out.1 ho5 (HI.out.2 w5 HY.out.2.2.2.2) (fun b h => by omega)
  have HRW := Lib.hid hrw
  have hc5 := hrw.le
  clear hk5 ho5 hrw x0 x1 x2 xf s0 s1 s2 s3 s4 s5 s6 sf
  obtain ⟨x0, x1, x2, xf⟩ := cells3 HY.out.1
  obtain ⟨s0, s1, s2, s3, s4, s5, s6, sf⟩ := cells7 HY.out.2.1
  have gn0 : ¬ g = w.heap.size := by omega
  have gn1 : ¬ g = w.heap.size + 1 := by omega
  have gn2 : ¬ g = w.heap.size + 1 + 1 := by omega
  have gn3 : ¬ g = w.heap.size + 1 + 1 + 1 := by omega
  go_wp2
  go_loopw [8] (fun i wr => ∃ (j : Nat), j ≤ j0 ∧ i = .int .i64 (j : Int) ∧ Hid (Keep (fun _ => False) w5 wr)) (fun i _ => m - (intOf i).toNat)
  case atStart => exact ⟨0, by omega, rfl, Lib.hid (Keep.refl _ _)⟩
  case round =>
    obtain ⟨j, hj, rfl, hkr⟩ := hrel
    have HZ := Lib.hid (HY.out.same hkr.out)
    clear x0 x1 x2 xf s0 s1 s2 s3 s4 s5 s6 sf
    obtain ⟨x0, x1, x2, xf⟩ := cells3 HZ.out.1
    obtain ⟨s0, s1, s2, s3, s4, s5, s6, sf⟩ := cells7 HZ.out.2.1
    have f1 : (j : Int) < (m : Int) := by omega
    have f0 : (0 : Int) ≤ (j : Int) := by omega
    by_cases hlt : j < j0
    · obtain ⟨b1, o1, rfl, hcl⟩ := ints_at (HC.out.keep HZ.out.2.2.2.2 (fun _ _ _ h => h)) HM.out (show j < m by omega)
      have hne := NO.out j hlt
      generalize L.getD j 0 = c at *
      have ene : ((c : Int) != comp) = true := by rw [bne_iff_ne]; exact hne
      clear hne
      go_wp2
      go_quiet (fail)
      go_wp2
      go_roundw
      case rel => exact ⟨j + 1, by omega, by go_num, Lib.hid (Keep.trans hkr.out (by exact (by repeat first | (with_reducible assumption) | (with_reducible exact Keep.refl _ _) | (with_reducible refine Keep.alloc ?_ _) | (with_reducible refine Keep.drew ?_) | (with_reducible refine Keep.drewN ?_ _) | (with_reducible refine Keep.setCell ?_ (.inl (by first | omega | (simp; done) | (simp; omega) | fail)) _))) (fun _ _ h => h))⟩
      case measure => simp [intOf]; omega
    · obtain rfl : j = j0 := by omega
      obtain ⟨b1, o1, rfl, hcl⟩ := ints_at (HC.out.keep HZ.out.2.2.2.2 (fun _ _ _ h => h)) HM.out hj0
      have hne := AT.out
      have HLJ := Lib.hid (show ∀ c, L.getD j 0 = c → c ∈ L from fun c e => e ▸ getD_mem (by rw [HM.out]; exact hj0))
      generalize hcc : L.getD j 0 = c at *
      have hcL := HLJ.out c rfl
      have HCC := Lib.hid hcc
      clear hcc HLJ
      subst hne
      have ene : ((c : Int) != (c : Int)) = false := by simp
      have HRZ := Lib.hid (HRW.out.keep hkr.out (fun h => h) (fun _ _ _ h => h))
      have hzz := hkr.out.size
      obtain ⟨b3, o3, rfl, hcs⟩ := ints_at (L := L.map sz) (HS.out.keep HZ.out.2.2.2.2 (fun _ _ _ h => h)) (by rw [List.length_map]; exact HM.out) hj0
      have hsz : (L.map sz).getD j 0 = sz c := by
        have hj' : j < L.length := by rw [HM.out]; exact hj0
        have := HCC.out
        rw [List.getD_eq_getElem?_getD, List.getElem?_eq_getElem hj'] at this
        rw [List.getD_eq_getElem?_getD, List.getElem?_map, List.getElem?_eq_getElem hj']
        show sz L[j] = sz c
        rw [← this]; rfl
      have hgood : nd = sz c := HGB.out
      rw [hsz, ← hgood] at hcs
      have ens : ((nd : Int) != (nd : Int)) = false := by simp
      clear hsz hgood
      obtain ⟨y', q', hy', -, hin, -, -, l2, -⟩ := HRZ.out.at_ hrn
      obtain rfl : y' = y := Option.some.inj (hy'.symm.trans HY0.out)
      have HIN := Lib.hid hin
      obtain ⟨Aq, cq, rfl, hcq, hlq⟩ := hin.form
      have hjp : j < y'.parts.length := by rw [HYL.out]; exact hj0
      rw [HYL.out] at l2 hlq
      unfold maxLen at hcq
      obtain ⟨ps, hp1, hp2, hp3⟩ := hin
      rw [HYL.out] at hp2
      have A1 := Lib.hid (fun W (hk : Keep (fun _ => False) wr W) => src_mlP hp1 HYL.out (hp2.keep hk (fun _ _ _ h => h)) (fun i y q h1 h2 => By.keep (hp3 i y q h1 h2) hk (fun _ _ _ h => h)))
      have HP := Lib.hid (And.intro hp1 hp3)
      clear hp1 hp2 hp3 hy'
      go_upto_region 18 with fail
      go_quiet (fail)
      go_upto_region 21 with fail
      go_quiet (fail)
      go_upto_region 23 with fail
      have l2a : ∀ N o, ((wr.drewN N).alloc o).cell? ⟨g, r * 3 + 2, none⟩ = some (.slice Aq m cq) := fun N o => (((Keep.refl (fun _ => False) wr).drewN N).alloc o).cell (fun h => h) l2
      have s4a : ∀ N o, ((wr.drewN N).alloc o).cell? ⟨w.heap.size + 1, 4, none⟩ = some (.int .i64 (r : Int)) := fun N o => (((Keep.refl (fun _ => False) wr).drewN N).alloc o).cell (fun h => h) s4
      go_wp2_with (first
        | (at_builtin; refine wpList_parts0 (by rfl) _ _ (by rfl) wr.heap.size _ (by rfl) (Own.none_ _ _ _ _ _) _ m _ (by rfl) (A1.out _ (by exact (by repeat first | (with_reducible assumption) | (with_reducible exact Keep.refl _ _) | (with_reducible refine Keep.alloc ?_ _) | (with_reducible refine Keep.drew ?_) | (with_reducible refine Keep.drewN ?_ _) | (with_reducible refine Keep.setCell ?_ (.inl (by first | omega | (simp; done) | (simp; omega) | fail)) _)))) (by omega) (by first | (simp; done) | (simp; omega)) ?_)
        | fail)
      intro A6 c6 w6 ho6 hk6
      clear l2a s4a
      have K6 := Lib.hid (show Keep (fun _ => False) wr w6 from Keep.trans (T := fun _ => False) (by exact (by repeat first | (with_reducible assumption) | (with_reducible exact Keep.refl _ _) | (with_reducible refine Keep.alloc ?_ _) | (with_reducible refine Keep.drew ?_) | (with_reducible refine Keep.drewN ?_ _) | (with_reducible refine Keep.setCell ?_ (.inl (by first | omega | (simp; done) | (simp; omega) | fail)) _))) (hk6.mono (fun k _ e => by cases e)) (fun _ _ h => h))
      have HV := Lib.hid (HZ.out.same K6.out)
      have HR6 := Lib.hid (HRZ.out.keep K6.out (fun h => h) (fun _ _ _ h => h))
      obtain ⟨gp, rfl, hgp1, hgp2⟩ : ∃ gp, A6 = some ⟨gp, 0, none⟩ ∧ wr.heap.size ≤ gp ∧ gp < w6.heap.size := by
        obtain ⟨_, A', c', hv, hnc, _, hg⟩ := ho6
        injection hv with e1 e2 e3
        subst e1 e3
        obtain ⟨gp, cur, rfl, hb, hgg, _⟩ := hg (by omega)
        exact ⟨gp, rfl, hb, (Array.getElem?_eq_some_iff.1 hgg).1⟩
      have hc6 : m ≤ c6 := by
        obtain ⟨_, A', c', hv, hnc, _⟩ := ho6
        injection hv with _ _ e3
        omega
      have HO6 := Lib.hid ho6
      obtain ⟨x6, hx6⟩ : ∃ x6, y'.parts[j]? = some x6 := ⟨_, List.getElem?_eq_getElem hjp⟩
      obtain ⟨ps6, q6⟩ := HP.out
      have PP := Lib.hid (parts_put (j := j) (x := x6) (v := .slice Ad nd cd) (d := data) (F := fun b => (((F b ∧ b < w.heap.size) ∨ X.heap.size ≤ b) ∧ b ≠ g) ∧ b < wr.heap.size) (by omega) HYL.out ps6 ho6 (fun i y q h1 h2 => (By.keep (By.mono (q6 i y q h1 h2) (G := fun b => (((F b ∧ b < w.heap.size) ∨ X.heap.size ≤ b) ∧ b ≠ g) ∧ b < wr.heap.size) (fun b hb h => ⟨h, hb⟩)) K6.out (fun _ _ _ h => h))) hx6 (By.mono (G := fun b => (((F b ∧ b < w.heap.size) ∨ X.heap.size ≤ b) ∧ b ≠ g) ∧ b < wr.heap.size) (By.keep (By.mono HD.out (G := fun b => F b ∧ b < w.heap.size) (fun b hb h => ⟨h, hb⟩)) HV.out.2.2.2.2 (fun _ _ _ h => h)) (fun b _ h => ⟨⟨.inl h, by omega⟩, by omega⟩)) (fun b h e => by omega))
      have c6a : ∃ q, w6.cell? ⟨gp, j * 2 + 1, none⟩ = some q ∧ w6.frozen? ⟨gp, j * 2 + 1, none⟩ = false := by
        obtain ⟨hc, hf⟩ := ho6.atG (by omega)
        have hps : j < ps.length := by rw [ps6]; exact hjp
        exact ⟨_, hc _ _ (flat_at (f := parN.cells) (m := 2) (j := 1) (x := (x6, ps[j]'hps)) parN.len (List.getElem?_zip_eq_some.2 ⟨hx6, List.getElem?_eq_getElem hps⟩) rfl), hf _⟩
      obtain ⟨qo, c6b, c6f⟩ := c6a
      have HX6 := Lib.hid hx6
      clear ho6 hk6 hx6 x0 x1 x2 xf s0 s1 s2 s3 s4 s5 s6 sf l2
      obtain ⟨x0, x1, x2, xf⟩ := cells3 HV.out.1
      obtain ⟨s0, s1, s2, s3, s4, s5, s6, sf⟩ := cells7 HV.out.2.1
      obtain ⟨y0, y1, y2, yf⟩ := cells3 HV.out.2.2.1
      obtain ⟨z0, z1, z2, z3, z4, z5, zf⟩ := cells6 HV.out.2.2.2.1
      obtain ⟨yr, qr, -, -, -, -, -, l2, -, -, lf2⟩ := HR6.out.at_ hrn
      have pn0 : ¬ gp = w.heap.size := by omega
      have pn1 : ¬ gp = w.heap.size + 1 := by omega
      have pn2 : ¬ gp = w.heap.size + 1 + 1 := by omega
      have pn3 : ¬ gp = w.heap.size + 1 + 1 + 1 := by omega
      have pn4 : ¬ gp = g := by omega
      have pn5 : ¬ g = gp := by omega
      have KA := Lib.hid (show Keep (fun b => b = gp) wr (w6.setCell ⟨gp, j * 2 + 1, none⟩ (.slice Ad nd cd)) from (K6.out.mono (fun _ _ h => h.elim)).trans PP.out.2 (fun _ _ h => h))
      have PUT := Lib.hid ((HRZ.out.keep KA.out pn5 (fun b hb _ e => by omega)).put1 hrn HY0.out (y'.parts.set j ⟨x6.comp, data⟩) (.slice (some ⟨gp, 0, none⟩) m c6) (NS.mono PP.out.1 (fun b _ h => h.elim (fun h => h.1) (fun h => ⟨.inr (by omega), fun e => by omega⟩))))
      obtain ⟨W3, hW3⟩ : ∃ W3, W3 = ((w6.setCell ⟨gp, j * 2 + 1, none⟩ (.slice Ad nd cd)).setCell ⟨g, r * 3 + 2, none⟩ (.slice (some ⟨gp, 0, none⟩) m c6)).setCell ⟨w.heap.size, 2, none⟩ (.slice (some ⟨g, 0, none⟩) n c5) := ⟨_, rfl⟩
      have k3 : Keep (fun b => b = w.heap.size) ((w6.setCell ⟨gp, j * 2 + 1, none⟩ (.slice Ad nd cd)).setCell ⟨g, r * 3 + 2, none⟩ (.slice (some ⟨gp, 0, none⟩) m c6)) W3 := by rw [hW3]; exact Keep.setCell (S := fun b => b = w.heap.size) (p := ⟨w.heap.size, 2, none⟩) (Keep.refl _ _) (.inr rfl) _
      have KZ := Lib.hid (show Keep (fun b => b = gp ∨ b = g ∨ b = w.heap.size) wr W3 from ((KA.out.mono (T := fun b => b = gp ∨ b = g ∨ b = w.heap.size) (fun _ _ h => .inl h)).trans PUT.out.2 (fun _ _ h => .inr (.inl h))).trans k3 (fun _ _ h => .inr (.inr h)))
      have H3 := Lib.hid (show W3.heap[w.heap.size + 1 + 1]? = _ ∧ W3.heap[w.heap.size + 1 + 1 + 1]? = _ from ⟨(KZ.out.block _ (Array.getElem?_eq_some_iff.1 HZ.out.2.2.1).1 (fun e => by omega)).trans HZ.out.2.2.1, (KZ.out.block _ (Array.getElem?_eq_some_iff.1 HZ.out.2.2.2.1).1 (fun e => by omega)).trans HZ.out.2.2.2.1⟩)
      have HWK := Lib.hid (show Keep (fun b => w.heap.size ≤ b) w W3 from (HZ.out.2.2.2.2.mono (fun _ _ h => h.elim)).trans KZ.out (fun b _ e => by omega))
      have HNS := Lib.hid (show NS entN W3 (fun b => (F b ∧ b < w.heap.size) ∨ X.heap.size ≤ b) (.slice (some ⟨g, 0, none⟩) n c5) (rows.set r ⟨y'.id, y'.parts.set j ⟨x6.comp, data⟩⟩) from by
        have hk3 : ∀ b, (((F b ∧ b < w.heap.size) ∨ X.heap.size ≤ b) ∧ b ≠ g) ∨ X.heap.size ≤ b → b ≠ w.heap.size := fun b h e => by
          rcases h with h | h
          · rcases h.1 with h | h <;> omega
          · omega
        exact (PUT.out.1.all.keep k3 (fun b _ h e => hk3 b h e)).mono (fun b _ h => h.elim (fun h => h.1) .inr))
      have HCS := Lib.hid (And.intro ((HC.out.mono (G := fun b => F b ∧ b < w.heap.size) (fun b hb h => ⟨h, hb⟩)).keep HWK.out (fun b hb _ e => by omega)) ((HS.out.mono (G := fun b => F b ∧ b < w.heap.size) (fun b hb h => ⟨h, hb⟩)).keep HWK.out (fun b hb _ e => by omega)))
      go_wp2
      rw [← hW3]
      refine bodyPost_ret (results_go Tryd.results12 _ _ (w.heap.size + 1 + 1) (w.heap.size + 1 + 1 + 1) _ _ _ _ _ _ _ _ _ (by rfl) (go_stored H3.out.1 H3.out.2 (by omega) _ _ _ _ _ _ _ _ _).1 (by rfl) (go_stored H3.out.1 H3.out.2 (by omega) _ _ _ _ _ _ _ _ _).2) rfl ?_
      refine go_end hX4 HWK.out ⟨_, _, _, rfl, ?_, ?_, ?_⟩ ⟨_, _, rfl, By.nil _ _, NS.nil _ _ _⟩
      · rw [HM.out]; exact HCS.out.1.mono (fun _ _ h => .inl h)
      · rw [HM.out]; exact HCS.out.2.mono (fun _ _ h => .inl h)
      · have e : y'.parts[j] = x6 := Option.some.inj ((List.getElem?_eq_getElem hjp).symm.trans HX6.out)
        rw [e]; exact HNS.out
end
end Go.Proofs.YtpkeahikfbmcpaaDoor

/- vivariumlaw13.live; the walk of vivariumlaw13.CmdSames: it returns true, old memory unchanged. -/
import Derived.Test.YtmlbkenbgajkmaaCmdQ
import Derived.Test.YtmlbkenbgajkmaaCmd6
namespace Go.Proofs.Ytmlbkenbgajkmaa
open Go.RowKit
set_option maxRecDepth 100000
set_option linter.unusedVariables false

theorem live13 (w : World) :
    Calls Try.prog 42 #[] w fun e w' => e = .returned (.bool true) ∧ Below w.heap.size w w' := by
  have P0 := Lib.hid (cput_0 0 0 0 false none 0 0 [] (.slice none 0 0) (fun _ => True) w (By.nil _ _) (by decide))
  have P1 := Lib.hid (fun w => cput_1t 2 0 0 none 0 0 [] (.slice none 0 0) (fun _ => True) w (By.nil _ _) (by decide))
  rw [show (([] : List UInt8) ++ [0]) = [0] from rfl] at P0
  rw [show (([] : List UInt8) ++ (leB (word 1) 1 ++ (leB (word 1) 1 ++ leB (word 2) 8))) = [1, 1, 2, 0, 0, 0, 0, 0, 0, 0] by decide] at P1
  have S0 := Lib.hid (fun (W : World) u (F : Nat → Prop) (h : By W F u [0]) => same_any [0] [0] u _ F _ (W.alloc (.cells (bv [0]).toArray 5)) (h.keep ((Keep.refl (fun _ => False) W).alloc _) (fun _ _ _ h => h)) (By.lit W 5 [0] (by decide)))
  rw [decide_eq_true rfl] at S0
  have S1 := Lib.hid (fun (W : World) u (F : Nat → Prop) (h : By W F u [1, 1, 2, 0, 0, 0, 0, 0, 0, 0]) => same_any [1, 1, 2, 0, 0, 0, 0, 0, 0, 0] [1, 1, 2, 0, 0, 0, 0, 0, 0, 0] u _ F _ (W.alloc (.cells (bv [1, 1, 2, 0, 0, 0, 0, 0, 0, 0]).toArray 5)) (h.keep ((Keep.refl (fun _ => False) W).alloc _) (fun _ _ _ h => h)) (By.lit W 5 [1, 1, 2, 0, 0, 0, 0, 0, 0, 0] (by decide)))
  rw [decide_eq_true rfl] at S1
  go_enter Try.func42, Try.ntmps42
  go_wp2_with fail
  refine P0.out.mono ?_
  rintro e w1 ⟨A1, n1, c1, rfl, hby1, hb1⟩
  have H1 := Lib.hid (And.intro hby1 hb1)
  clear hby1 hb1
  go_wp2_with fail
  refine (S0.out _ _ _ H1.out.1).mono ?_
  rintro e w2 ⟨rfl, rfl⟩
  go_wp2_with fail
  refine (P1.out _).mono ?_
  rintro e w3 ⟨A3, n3, c3, rfl, hby3, hb3⟩
  have H3 := Lib.hid (And.intro hby3 hb3)
  clear hby3 hb3
  go_wp2_with fail
  refine (S1.out _ _ _ H3.out.1).mono ?_
  rintro e w4 ⟨rfl, rfl⟩
  go_wp2
  go_ret
  have h1 : Below w.heap.size w (w1.alloc (.cells (bv [0]).toArray 5)) := H1.out.2.alloc H1.out.2.size _
  have h2 := h1.trans (H3.out.2.mono h1.size)
  exact ⟨rfl, h2.alloc h2.size _⟩

/-- The two commands' boxes. -/
def CBX (w : World) (a b : Cmd) (u v : Value) (W : World) : Prop :=
  W.heap[w.heap.size]? = some (.cells #[.int .i64 a.do_, .bool a.loc, .int .i64 a.idx, .int .i64 a.gen, .int .i64 a.comp, u] 71 (0, 0)) ∧
  W.heap[w.heap.size + 1]? = some (.cells #[.int .i64 b.do_, .bool b.loc, .int .i64 b.idx, .int .i64 b.gen, .int .i64 b.comp, v] 71 (0, 0)) ∧ Keep (fun _ => False) w W
theorem cbx_drew {w W : World} {a b : Cmd} {u v : Value} (h : CBX w a b u v W) : CBX w a b u v W.drew := ⟨h.1, h.2.1, h.2.2.drew⟩
theorem cbx_next {w W W' : World} {a b : Cmd} {u v : Value} (h : CBX w a b u v W) (hb : Below W.heap.size W W') : CBX w a b u v W' :=
  ⟨(hb.block _ (Array.getElem?_eq_some_iff.1 h.1).1).trans h.1, (hb.block _ (Array.getElem?_eq_some_iff.1 h.2.1).1).trans h.2.1, h.2.2.trans (Keep.of_below' hb) (fun _ _ h => h)⟩
theorem cbx_cells {w W : World} {a b : Cmd} {u v : Value} (h : CBX w a b u v W) :
    (W.cell? ⟨w.heap.size, 0, none⟩ = some (.int .i64 a.do_) ∧ W.cell? ⟨w.heap.size, 1, none⟩ = some (.bool a.loc) ∧ W.cell? ⟨w.heap.size, 2, none⟩ = some (.int .i64 a.idx) ∧ W.cell? ⟨w.heap.size, 3, none⟩ = some (.int .i64 a.gen) ∧ W.cell? ⟨w.heap.size, 4, none⟩ = some (.int .i64 a.comp) ∧ W.cell? ⟨w.heap.size, 5, none⟩ = some u) ∧
    (W.cell? ⟨w.heap.size + 1, 0, none⟩ = some (.int .i64 b.do_) ∧ W.cell? ⟨w.heap.size + 1, 1, none⟩ = some (.bool b.loc) ∧ W.cell? ⟨w.heap.size + 1, 2, none⟩ = some (.int .i64 b.idx) ∧ W.cell? ⟨w.heap.size + 1, 3, none⟩ = some (.int .i64 b.gen) ∧ W.cell? ⟨w.heap.size + 1, 4, none⟩ = some (.int .i64 b.comp) ∧ W.cell? ⟨w.heap.size + 1, 5, none⟩ = some v) := by
  obtain ⟨x0, x1, x2, x3, x4, x5, _⟩ := cells6 h.1
  obtain ⟨y0, y1, y2, y3, y4, y5, _⟩ := cells6 h.2.1
  exact ⟨⟨x0, x1, x2, x3, x4, x5⟩, ⟨y0, y1, y2, y3, y4, y5⟩⟩

set_option maxHeartbeats 4000000 in
theorem cmdSames_walk (a b : Cmd) (u v : Value) (F G : Nat → Prop) (w : World) (hu : By w F u a.l) (hv : By w G v b.l) :
    Calls Try.prog 9 #[cmdV a u, cmdV b v] w fun e w' => e = .returned (.bool true) ∧ Below w.heap.size w w' := by
  have hu0 := hu
  have hv0 := hv
  obtain ⟨A, c, rfl, _, hcm, _, _⟩ := hu
  obtain ⟨B, d, rfl, _, hdm, _, _⟩ := hv
  by_cases hbig : 300 < a.l.length ∨ 300 < b.l.length
  · clear hu0 hv0
    unfold cmdV
    generalize a.l.length = n at *
    generalize b.l.length = m at *
    by_cases h1 : 300 < n
    · clear hbig
      go_enter Try.func9, Try.ntmps9
      go_wp2_with (go_at_call 42; refine (live13 _).mono ?_; rintro e w4 ⟨rfl, hb4⟩)
      go_ret
      exact ⟨rfl, (show Below w.heap.size w _ from (by repeat first | exact Below.refl _ _ | refine Below.setCell ?_ (by first | omega | (simp; done) | (simp; omega)) _ | refine Below.alloc ?_ (by first | omega | (simp; done) | (simp; omega)) _ | refine Below.drew ?_ | refine below_drewN ?_ _ | assumption)).trans (hb4.mono (by simp; omega))⟩
    · have h2 : 300 < m := by omega
      clear hbig
      go_enter Try.func9, Try.ntmps9
      go_wp2_with (go_at_call 42; refine (live13 _).mono ?_; rintro e w4 ⟨rfl, hb4⟩)
      go_ret
      exact ⟨rfl, (show Below w.heap.size w _ from (by repeat first | exact Below.refl _ _ | refine Below.setCell ?_ (by first | omega | (simp; done) | (simp; omega)) _ | refine Below.alloc ?_ (by first | omega | (simp; done) | (simp; omega)) _ | refine Below.drew ?_ | refine below_drewN ?_ _ | assumption)).trans (hb4.mono (by simp; omega))⟩
  have hA : a.l.length ≤ 300 := by omega
  have hB : b.l.length ≤ 300 := by omega
  have PS := Lib.hid (fun W (hk : Keep (fun _ => False) w W) => psame_any a b _ _ F G W (hu0.keep hk (fun _ _ _ h => h)) (hv0.keep hk (fun _ _ _ h => h)) (by omega) (by omega))
  have RA := Lib.hid (fun W (hk : Keep (fun _ => False) w W) => rplain_any a _ F W (hu0.keep hk (fun _ _ _ h => h)))
  have RB := Lib.hid (fun W (hk : Keep (fun _ => False) w W) => rplain_any b _ G W (hv0.keep hk (fun _ _ _ h => h)))
  have PA := Lib.hid (fun W (hk : Keep (fun _ => False) w W) => pplain_any a _ F W (hu0.keep hk (fun _ _ _ h => h)) (by omega))
  have P2 := Lib.hid (fun W (hk : Keep (fun _ => False) w W) u6 H6 (hby : By W H6 u6 (plainC a).l) => psame_any a (plainC a) _ u6 F H6 W (hu0.keep hk (fun _ _ _ h => h)) hby (by omega) (by have := plainC_len a; omega))
  have BX := Lib.hid (show ∀ W, Keep (fun _ => False) ((w.alloc (.cells #[.int .i64 a.do_, .bool a.loc, .int .i64 a.idx, .int .i64 a.gen, .int .i64 a.comp, .slice A a.l.length c] 71)).alloc (.cells #[.int .i64 b.do_, .bool b.loc, .int .i64 b.idx, .int .i64 b.gen, .int .i64 b.comp, .slice B b.l.length d] 71)) W → CBX w a b (.slice A a.l.length c) (.slice B b.l.length d) W from fun W hk =>
    ⟨(hk.block _ (by simp; omega) (fun h => h)).trans (by rw [Below.heap_alloc _ _ _ (by simp)]; exact heap_alloc_at _ _ _ rfl), (hk.block _ (by simp) (fun h => h)).trans (heap_alloc_at _ _ _ (by simp)), Keep.trans (T := fun _ => False) (by repeat first | exact Keep.refl _ _ | refine Keep.alloc ?_ _ | refine Keep.drew ?_ | refine Keep.drewN ?_ _) hk (fun _ _ h => h)⟩)
  have EX := Lib.hid (sameC_plain a)
  clear hu0 hv0
  rw [EX.out] at P2
  unfold cmdV at PS RA RB PA ⊢
  generalize hs : sameC a b = s at *
  have HS : Hid (exactC (plainC a) (plainC b) = s) := hs
  clear hs
  generalize hn : a.l.length = n at *
  generalize hm : b.l.length = m at *
  clear hn hm hbig
  have ss : (s == s) = true := by simp
  go_enter Try.func9, Try.ntmps9
  go_wp2
  go_region_held3 (fun w' => w'.cell? ⟨w.heap.size, 0, none⟩ = some (.int .i64 a.do_) ∧ w'.cell? ⟨w.heap.size, 1, none⟩ = some (.bool a.loc) ∧ w'.cell? ⟨w.heap.size, 2, none⟩ = some (.int .i64 a.idx) ∧ w'.cell? ⟨w.heap.size, 3, none⟩ = some (.int .i64 a.gen) ∧ w'.cell? ⟨w.heap.size, 4, none⟩ = some (.int .i64 a.comp) ∧ w'.cell? ⟨w.heap.size, 5, none⟩ = some (.slice A n c) ∧ w'.cell? ⟨w.heap.size + 1, 0, none⟩ = some (.int .i64 b.do_) ∧ w'.cell? ⟨w.heap.size + 1, 1, none⟩ = some (.bool b.loc) ∧ w'.cell? ⟨w.heap.size + 1, 2, none⟩ = some (.int .i64 b.idx) ∧ w'.cell? ⟨w.heap.size + 1, 3, none⟩ = some (.int .i64 b.gen) ∧ w'.cell? ⟨w.heap.size + 1, 4, none⟩ = some (.int .i64 b.comp) ∧ w'.cell? ⟨w.heap.size + 1, 5, none⟩ = some (.slice B m d)) (go_keep)
    (first
      | (go_at_call 43; first
          | (refine (PS2.out).mono ?_; rintro e w7 ⟨rfl, hb⟩; have B7 := Lib.hid (cbx_next (by first | exact B6.out | exact cbx_drew B6.out) hb); clear x0 x1 x2 x3 x4 x5 y0 y1 y2 y3 y4 y5; obtain ⟨⟨x0, x1, x2, x3, x4, x5⟩, ⟨y0, y1, y2, y3, y4, y5⟩⟩ := cbx_cells B7.out; clear hb)
          | (refine (PS.out _ (by exact (by repeat first | exact Keep.refl _ _ | refine Keep.alloc ?_ _ | refine Keep.drew ?_ | refine Keep.drewN ?_ _))).mono ?_; rintro e w1 ⟨rfl, hb⟩; have B1 := Lib.hid (cbx_next (BX.out _ (by exact (by repeat first | exact Keep.refl _ _ | refine Keep.alloc ?_ _ | refine Keep.drew ?_ | refine Keep.drewN ?_ _))) hb); obtain ⟨⟨x0, x1, x2, x3, x4, x5⟩, ⟨y0, y1, y2, y3, y4, y5⟩⟩ := cbx_cells B1.out; clear hb))
      | (go_at_call 45; first
          | (refine (RB.out _ B2.out.2.2).mono ?_; rintro e w3 ⟨A3, c3, rfl, hby, hb⟩; unfold cmdV; have B3 := Lib.hid (cbx_next (by first | exact B2.out | exact cbx_drew B2.out) hb); clear x0 x1 x2 x3 x4 x5 y0 y1 y2 y3 y4 y5; obtain ⟨⟨x0, x1, x2, x3, x4, x5⟩, ⟨y0, y1, y2, y3, y4, y5⟩⟩ := cbx_cells B3.out; have HB3 := Lib.hid hby; have HA3 := Lib.hid (HA2.out.below hb); clear hb hby)
          | (refine (RA.out _ B1.out.2.2).mono ?_; rintro e w2 ⟨A2, c2, rfl, hby, hb⟩; unfold cmdV; have B2 := Lib.hid (cbx_next (by first | exact B1.out | exact cbx_drew B1.out) hb); clear x0 x1 x2 x3 x4 x5 y0 y1 y2 y3 y4 y5; obtain ⟨⟨x0, x1, x2, x3, x4, x5⟩, ⟨y0, y1, y2, y3, y4, y5⟩⟩ := cbx_cells B2.out; have HA2 := Lib.hid hby; clear hb hby))
      | (go_at_call 44; refine (exact_any (plainC a) (plainC b) _ _ _ _ _ HA3.out HB3.out).mono ?_; rintro e w4 ⟨rfl, hb⟩; rw [HS.out]; have B4 := Lib.hid (cbx_next (by first | exact B3.out | exact cbx_drew B3.out) hb); clear x0 x1 x2 x3 x4 x5 y0 y1 y2 y3 y4 y5; obtain ⟨⟨x0, x1, x2, x3, x4, x5⟩, ⟨y0, y1, y2, y3, y4, y5⟩⟩ := cbx_cells B4.out; clear hb)
      | (go_at_call 46; refine (PA.out _ B4.out.2.2).mono ?_; rintro e w6 ⟨A6, c6, rfl, hby, hb⟩; unfold cmdV; have B6 := Lib.hid (cbx_next (by first | exact B4.out | exact cbx_drew B4.out) hb); clear x0 x1 x2 x3 x4 x5 y0 y1 y2 y3 y4 y5; obtain ⟨⟨x0, x1, x2, x3, x4, x5⟩, ⟨y0, y1, y2, y3, y4, y5⟩⟩ := cbx_cells B6.out; have PS2 := Lib.hid (P2.out w6 B6.out.2.2 _ _ hby); clear hb hby)
      | (go_at_call 42; refine (live13 _).mono ?_; rintro e w8 ⟨rfl, hb⟩; have B8 := Lib.hid (cbx_next (by first | exact B7.out | exact cbx_drew B7.out) hb); clear x0 x1 x2 x3 x4 x5 y0 y1 y2 y3 y4 y5; obtain ⟨⟨x0, x1, x2, x3, x4, x5⟩, ⟨y0, y1, y2, y3, y4, y5⟩⟩ := cbx_cells B8.out; clear hb)
      | fail)
  go_wp2
  go_ret
  exact ⟨rfl, B8.out.2.2.to_below'⟩
end Go.Proofs.Ytmlbkenbgajkmaa

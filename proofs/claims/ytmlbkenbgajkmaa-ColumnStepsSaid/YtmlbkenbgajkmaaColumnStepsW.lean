/- The walk of vivariumlaw08.ColumnSteps: it returns true, old memory unchanged. -/
import Derived.Test.YtmlbkenbgajkmaaColB
namespace Go.Proofs.Ytmlbkenbgajkmaa
open Go.RowKit
set_option maxRecDepth 100000
set_option linter.unusedVariables false

/-- Behind some steps: the column p and the reference's, in block q. -/
def CSt (W : World) (p q size : Nat) (w : World) : Prop :=
  ∃ Foot R v, Col w p Foot size R ∧ (∀ x, Foot x → W.heap.size ≤ x) ∧ w.heap[q]? = some (.cells #[.int .i64 (size : Nat), v] 87 (0, 0)) ∧ W.heap.size ≤ q ∧ ¬ Foot q ∧
    Bys w (fun b => ¬ Foot b ∧ b ≠ q) v R ∧ Below W.heap.size W w
/-- What is called behind a step. -/
def CAfter (W : World) (p q size : Nat) (u u2 v' : Value) (R' : List (List UInt8)) (w3 : World) : Prop :=
  Calls Try.prog 16 #[u, u2] w3 (fun e w' => e = .returned (.bool true) ∧ w3 = w') ∧
  Calls Try.prog 62 #[.pointer (some ⟨p, 0, none⟩)] w3 (fun e w' => e = .returned (.int .i64 (R'.length : Nat)) ∧ w3 = w') ∧
  Calls Try.prog 63 #[.pointer (some ⟨p, 0, none⟩)] w3 (fun e w' => e = .returned (.int .i64 (size : Nat)) ∧ w3 = w') ∧
  Calls Try.prog 35 #[.pointer (some ⟨p, 0, none⟩)] w3 (fun e w4 => ∃ u4, e = .returned u4 ∧ w4.cell? ⟨q, 0, none⟩ = some (.int .i64 (size : Nat)) ∧ w4.cell? ⟨q, 1, none⟩ = some v' ∧
    Hid (Calls Try.prog 64 #[.agg #[.int .i64 (size : Nat), v']] w4 (fun e w5 => ∃ u5, e = .returned u5 ∧ w5.cell? ⟨q, 0, none⟩ = some (.int .i64 (size : Nat)) ∧ w5.cell? ⟨q, 1, none⟩ = some v' ∧
      Hid (Calls Try.prog 16 #[u4, u5] w5 (fun e w' => e = .returned (.bool true) ∧ w5 = w')) ∧ Hid (CSt W p q size w5))))

theorem wp_world {P : Program} {c : Code} {Q : Exit → Act → World → Prop} {a : Act} {w : World} {S : World → Prop} (h : S w) (k : ∀ w3, S w3 → Code.wp P c Q a w3) : Code.wp P c Q a w := k w h
theorem heap_two {w : World} {p : Nat} {t : TypeId} {a b : Value} (h : w.heap[p]? = some (.cells #[a, b] t (0, 0))) (x y : Value) : ((w.setCell ⟨p, 0, none⟩ x).setCell ⟨p, 1, none⟩ y).heap[p]? = some (.cells #[x, y] t (0, 0)) := by
  rw [heap_setCell_same _ p 1 _ _ y (heap_setCell_same w p 0 _ _ x h)]; rfl
theorem cst_round {W w : World} {p q size : Nat} (hst : CSt W p q size w) (hW : ∀ a u, W.cell? a = some u → w.cell? a = some u) (act at_ : Int) (l : List UInt8) (dv : Value) (hd : By W (fun _ => True) dv l) :
    (∃ A n c, w.cell? ⟨q, 1, none⟩ = some (.slice A n c)) ∧
    Calls Try.prog 60 #[.pointer (some ⟨p, 0, none⟩), .agg #[.int .i64 act, .int .i64 at_, dv]] w fun e w1 => ∃ u z A n c, e = .returned (.tuple #[u, .int .i64 z]) ∧ (∀ a x, W.cell? a = some x → w1.cell? a = some x) ∧
      w1.cell? ⟨q, 0, none⟩ = some (.int .i64 (size : Nat)) ∧ w1.cell? ⟨q, 1, none⟩ = some (.slice A n c) ∧
      Hid (∀ W1, Keep (fun _ => False) w1 W1 → Calls Try.prog 61 #[.agg #[.int .i64 (size : Nat), .slice A n c], .agg #[.int .i64 act, .int .i64 at_, dv]] W1 fun e w2 => ∃ A' n' c' u2, e = .returned (.tuple #[.agg #[.int .i64 (size : Nat), .slice A' n' c'], u2, .int .i64 z]) ∧
        (∀ i, w2.frozen? ⟨q, i, none⟩ = false) ∧ w2.cell? ⟨q, 0, none⟩ = some (.int .i64 (size : Nat)) ∧ w2.cell? ⟨q, 1, none⟩ = some (.slice A n c) ∧ (∀ a x, W.cell? a = some x → w2.cell? a = some x) ∧ Hid (Below W1.heap.size W1 w2) ∧ Hid (w2.heap[q]? = some (.cells #[.int .i64 (size : Nat), .slice A n c] 87 (0, 0))) ∧
        Hid (∀ w3, Keep (fun b => b = q ∨ (w1.heap.size ≤ b ∧ b < W1.heap.size)) w2 w3 → w3.heap[q]? = some (.cells #[.int .i64 (size : Nat), .slice A' n' c'] 87 (0, 0)) → ∃ R' : List (List UInt8), R'.length = n' ∧ CAfter W p q size u u2 (.slice A' n' c') R' w3)) := by
  obtain ⟨Foot, R, v, hc, hf, hq, hqW, hqF, hb, hbel⟩ := hst
  obtain ⟨A, c, rfl, _, _, _⟩ := hb.form
  have hql := (Array.getElem?_eq_some_iff.1 hq).1
  refine ⟨⟨A, _, c, by rw [cell_of_row w q 1 _ _ _ hq]; rfl⟩, (col_do hc act at_ l dv _ (hd.keep (Keep.of_below' hbel) (fun _ _ _ h => h))).mono ?_⟩
  rintro e w1 ⟨u, rfl, hu, Foot1, hc1, hk1, hf1⟩
  have hbel1 : Below W.heap.size W w1 := hbel.trans (hk1.below hbel.size (fun x hx hF => by have := hf x hF; omega))
  have hq1 : w1.heap[q]? = _ := (hk1.block q hql hqF).trans hq
  have hqF1 : ¬ Foot1 q := fun h => by
    rcases hf1 q h with h | h
    · exact hqF h
    · omega
  have hb1 : Bys w1 (fun b => (¬ Foot1 b ∧ b ≠ q) ∧ b < w1.heap.size) (.slice A R.length c) R :=
    ((hb.mono (G := fun b => (¬ Foot b ∧ b ≠ q) ∧ b < w.heap.size) (fun b hl h => ⟨h, hl⟩)).keep hk1 (fun b _ h => h.1.1)).mono (fun b hl h => ⟨⟨fun hF => by
      rcases hf1 b hF with h' | h'
      · exact h.1.1 h'
      · have := h.2; omega, h.1.2⟩, hl⟩)
  have hd1 : By w1 (fun b => (¬ Foot1 b ∧ b ≠ q) ∧ b < w1.heap.size) dv l :=
    (((hd.mono (G := fun b => b < W.heap.size) (fun b hl _ => hl)).keep (Keep.of_below' hbel) (fun _ _ _ h => h)).keep hk1 (fun b hl h hF => by have := hf b hF; omega)).mono (fun b hl h => ⟨⟨fun hF => by
      rcases hf1 b hF with h' | h'
      · have := hf b h'; omega
      · have := hbel.size; omega, by omega⟩, hl⟩)
  refine ⟨u, _, A, _, c, rfl, fun a x ha => (Keep.of_below' hbel1).cell (fun h => h) ha, by rw [cell_of_row w1 q 0 _ _ _ hq1]; rfl, by rw [cell_of_row w1 q 1 _ _ _ hq1]; rfl, fun W1 hkW => ?_⟩
  refine (rcol_go size (hb1.keep hkW (fun _ _ _ h => h)) (hd1.keep hkW (fun _ _ _ h => h)) hc.few act at_).mono ?_
  rintro e w2 ⟨v', u2, rfl, hb2, hu2, hbel2⟩
  have hk2 : Keep (fun _ => False) w1 w2 := hkW.trans (Keep.of_below' hbel2) (fun _ _ h => h)
  have szW := hkW.size
  obtain ⟨A', c', rfl, _, _, _⟩ := hb2.form
  have hq2 : w2.heap[q]? = _ := (hk2.block q (Array.getElem?_eq_some_iff.1 hq1).1 (fun h => h)).trans hq1
  have hbelW2 : Below W.heap.size W w2 := hbel1.trans (hk2.below hbel1.size (fun _ _ h => h))
  have sz1 := hk1.size
  have hc2 := col_keep hc1 hk2 (fun _ _ h => h)
  generalize hr : cgo size R act at_ l = r at *
  refine ⟨A', _, c', u2, rfl, fun i => frozen_of_row w2 q i _ _ hq2, by rw [cell_of_row w2 q 0 _ _ _ hq2]; rfl, by rw [cell_of_row w2 q 1 _ _ _ hq2]; rfl, fun a x ha => (Keep.of_below' hbelW2).cell (fun h => h) ha, hbel2, hq2, fun w3 hk3 hq3 => ⟨r.1, rfl, ?_⟩⟩
  have hc3 := col_keep hc2 hk3 (fun k hk e => by
    rcases e with e | e
    · exact hqF1 (by rw [← e]; exact hk)
    · have := hc1.lt k hk; omega)
  have hql1 : q < w1.heap.size := by omega
  have hu3 := ((hu.mono (G := fun b => w.heap.size ≤ b ∧ b < w1.heap.size) (fun b hl h => ⟨h, hl⟩)).keep hk2 (fun _ _ _ h => h)).keep hk3 (fun b _ h e => by omega)
  have hu23 := hu2.keep hk3 (fun b _ h e => by
    rcases h with h | h
    · obtain ⟨⟨_, h1⟩, h2⟩ := h; omega
    · omega)
  have sW := hbel1.size
  have hbel3 : Below W.heap.size W w3 := hbelW2.trans (hk3.below hbelW2.size (fun x hx e => by omega))
  have hS := same_any _ _ _ _ _ _ w3 hu3 hu23
  rw [decide_eq_true rfl] at hS
  have hb3 : Bys w3 (fun b => ¬ Foot1 b ∧ b ≠ q) (.slice A' r.1.length c') r.1 := (hb2.keep hk3 (fun b _ h e => by
    rcases h with h | h
    · obtain ⟨⟨_, h1⟩, h2⟩ := h; omega
    · omega)).mono (fun b _ h => by
    rcases h with h | h
    · exact h.1
    · exact ⟨fun hF => by have := hc1.lt b hF; omega, by omega⟩)
  refine ⟨hS, col_len hc3, col_size hc3, (col_bytes hc3).mono ?_⟩
  rintro e w4 ⟨u4, rfl, hu4, hbel4⟩
  have hq4 : w4.heap[q]? = _ := (hbel4.block q (Array.getElem?_eq_some_iff.1 hq3).1).trans hq3
  refine ⟨u4, rfl, by rw [cell_of_row w4 q 0 _ _ _ hq4]; rfl, by rw [cell_of_row w4 q 1 _ _ _ hq4]; rfl, (rcol_bytes size (hb3.below hbel4) hc3.wide hc3.small hc3.few).mono ?_⟩
  rintro e w5 ⟨u5, rfl, hu5, hbel5⟩
  have hq5 : w5.heap[q]? = _ := (hbel5.block q (Array.getElem?_eq_some_iff.1 hq4).1).trans hq4
  have hS5 := same_any _ _ _ _ _ _ w5 ((sl_by hu4.sl).below hbel5) hu5
  rw [decide_eq_true rfl] at hS5
  refine ⟨u5, rfl, by rw [cell_of_row w5 q 0 _ _ _ hq5]; rfl, by rw [cell_of_row w5 q 1 _ _ _ hq5]; rfl, hS5, Foot1, r.1, _, ?_, ?_, hq5, hqW, hqF1, (hb3.below hbel4).below hbel5, ?_⟩
  · exact col_keep hc3 (Keep.trans (T := fun _ => False) (Keep.of_below' hbel4) (Keep.of_below' hbel5) (fun _ _ h => h)) (fun _ _ h => h)
  · intro x hx
    rcases hf1 x hx with h | h
    · exact hf x h
    · have := hbel.size; omega
  · have s3 := hbel3.size
    have s4 := hbel4.size
    exact (hbel3.trans (hbel4.mono s3)).trans (hbel5.mono (by omega))

set_option maxHeartbeats 2000000 in
theorem columnSteps_walk (n : Int) (l : List CStp) (A : Option Addr) (len cap : Nat) (W : World) (hA : ArgSt ccells 3 (cok W) W A len cap l) :
    Calls Try.prog 11 #[.int .i64 n, .slice A len cap] W fun e w' => e = .returned (.bool true) ∧ Below W.heap.size W w' := by
  have MU := Lib.hid (cmuch hA)
  obtain ⟨hlc, hcm, hrd, hll, hok, _⟩ := hA
  unfold maxLen at hcm
  have HR := Lib.hid (And.intro hrd (And.intro hll hok))
  clear hrd hll hok
  go_enter Try.func11, Try.ntmps11
  go_wp2_with fail
  refine MU.out.mono ?_
  rintro e w' ⟨b, rfl, rfl⟩
  cases b
  · go_wp2_with (first
      | (go_at_call 31; refine (col_new n W).mono ?_; rintro e w1 ⟨p, Foot, rfl, hc, hb, hf⟩; have H1 := Lib.hid (And.intro hc (And.intro hb hf)); clear hc hb hf)
      | (go_at_call 59; refine (rcol_new n _).mono ?_; rintro e w2 ⟨rfl, hb2⟩; have H2 := Lib.hid hb2; clear hb2))
    generalize hsz : clampN n = size at *
    clear hsz
    have S0 := Lib.hid (show CSt W p w2.heap.size size (w2.alloc (.cells #[.int .i64 (size : Nat), .slice none 0 0] 87)) from by
      obtain ⟨hc, hb, hf⟩ := H1.out
      have hk : Keep (fun _ => False) w1 (w2.alloc (.cells #[.int .i64 (size : Nat), .slice none 0 0] 87)) := (Keep.of_below' H2.out).alloc _
      have hsz := H2.out.size
      exact ⟨Foot, [], _, col_keep hc hk (fun _ _ h => h), hf, heap_alloc_new w2 _, Nat.le_trans hb.size hsz, fun h => by have := hc.lt _ h; omega, Bys.nil _ _, hb.trans (hk.below hb.size (fun _ _ h => h))⟩)
    go_loopw [7] (fun i wr => ∃ k : Nat, k ≤ len ∧ i = .int .i64 k ∧ Hid (CSt W p w2.heap.size size wr)) (fun i _ => len - (intOf i).toNat)
    case atStart => exact ⟨0, by omega, rfl, S0⟩
    case round =>
      obtain ⟨k, hk, rfl, hst⟩ := hrel
      have hWr : Hid (∀ a u, W.cell? a = some u → wr.cell? a = some u) := by
        obtain ⟨_, _, _, _, _, _, _, _, _, hbel⟩ := hst.out
        exact fun a u ha => (Keep.of_below' hbel).cell (fun h => h) ha
      by_cases hlt : k < len
      · obtain ⟨b, off, s, rfl, _, hs, hc⟩ := flat_cells ccells_len HR.out.1 HR.out.2.1 (by omega) hlt
        have hby := HR.out.2.2 s (List.mem_of_getElem? hs)
        obtain ⟨A2, c2, hdv, _⟩ := id hby
        have RD := Lib.hid (cst_round hst.out hWr.out s.act s.at_ s.l s.d hby)
        rw [hdv] at RD
        have HC : Hid (∀ w' : World, (∀ a u, W.cell? a = some u → w'.cell? a = some u) → w'.cell? ⟨b, off + k * 3, none⟩ = some (.int .i64 s.act) ∧ w'.cell? ⟨b, off + k * 3 + 1, none⟩ = some (.int .i64 s.at_) ∧ w'.cell? ⟨b, off + k * 3 + 2, none⟩ = some (.slice A2 s.l.length c2)) := fun w' h => ⟨h _ _ (hc 0 _ rfl), h _ _ (hc 1 _ rfl), by have := h _ _ (hc 2 _ rfl); rw [hdv] at this; exact this⟩
        generalize s.l.length = m at *
        generalize s.act = act at *
        generalize s.at_ = at_ at *
        have f1 : (k : Int) < (len : Int) := by omega
        have f0 : (0 : Int) ≤ (k : Int) := by omega
        obtain ⟨x0, x1, x2⟩ := HC.out wr hWr.out
        obtain ⟨⟨A5, n5, c5, y1⟩, DO⟩ := RD.out
        have DO := Lib.hid DO
        clear hby hdv hs hc RD
        go_wp2_with (go_at_call 60; refine DO.out.mono ?_; rintro e w1 ⟨u, z, A6, n6, c6, rfl, hW1, z0, z1, GO⟩; obtain ⟨d0, d1, d2⟩ := HC.out w1 hW1; have HW1 := Lib.hid hW1; clear hW1)
        have lq := World.block_lt_of_cell? w1 _ z0
        have lb := World.block_lt_of_cell? w1 _ d0
        have aw0 : ∀ (X : World) (i o : Nat) (u : Value), (X.setCell ⟨w1.heap.size, i, none⟩ u).cell? ⟨w2.heap.size, o, none⟩ = X.cell? ⟨w2.heap.size, o, none⟩ := fun X i o u => cell_away (by simp at lq; omega) u
        have awf : ∀ (X : World) (i o : Nat) (u : Value), (X.setCell ⟨w1.heap.size, i, none⟩ u).frozen? ⟨w2.heap.size, o, none⟩ = X.frozen? ⟨w2.heap.size, o, none⟩ := fun X i o u => frozen_away (by simp at lq; omega) u
        have aw1 : ∀ (X : World) (i o : Nat) (u : Value), (X.setCell ⟨w1.heap.size, i, none⟩ u).cell? ⟨b, o, none⟩ = X.cell? ⟨b, o, none⟩ := fun X i o u => cell_away (by simp at lb; omega) u
        go_region_held3 (fun w' => w'.cell? ⟨w2.heap.size, 0, none⟩ = some (.int .i64 (size : Nat)) ∧ w'.cell? ⟨w2.heap.size, 1, none⟩ = some (.slice A6 n6 c6) ∧ w'.cell? ⟨b, off + k * 3, none⟩ = some (.int .i64 act) ∧ w'.cell? ⟨b, off + k * 3 + 1, none⟩ = some (.int .i64 at_) ∧ w'.cell? ⟨b, off + k * 3 + 2, none⟩ = some (.slice A2 m c2)) (go_keep)
          ((go_at_call 61; refine (GO.out _ (by exact (by repeat first | exact Keep.refl _ _ | refine Keep.alloc ?_ _ | refine Keep.drew ?_ | refine Keep.drewN ?_ _))).mono ?_; rintro e w5 ⟨A7, n7, c7, u2, rfl, fz, t0, t1, hW5, hB5, hQ5, AF⟩; obtain ⟨g0, g1, g2⟩ := HC.out w5 hW5; have HW5 := Lib.hid hW5; clear hW5; have ne0 := World.new_ne w5 _ t0; have lz := World.block_lt_of_cell? w5 _ t0; have fz' : ∀ o i, (w5.alloc o).frozen? ⟨w2.heap.size, i, none⟩ = false := (fun o i => (World.frozen?_of_block (a := ⟨w2.heap.size, i, none⟩) (Below.heap_alloc w5 o _ lz)).trans (fz i)); have ne1 := World.new_ne w5 _ g0; (try (have nb : w5.heap[w1.heap.size]? = some (.cells #[.int .i64 0, .slice none 0 0] 87 (0, 0)) := (hB5.out.block w1.heap.size (by simp)).trans (by exact heap_alloc_new w1 _); have nb0 : w5.cell? ⟨w1.heap.size, 0, none⟩ = some (.int .i64 0) := (by rw [cell_of_row w5 _ 0 _ _ _ nb]; rfl); have nb1 : w5.cell? ⟨w1.heap.size, 1, none⟩ = some (.slice none 0 0) := (by rw [cell_of_row w5 _ 1 _ _ _ nb]; rfl); have nf := (fun i => frozen_of_row w5 w1.heap.size i _ _ nb); have NB := Lib.hid nb; clear nb))))
        all_goals go_wp2
        · have hq3 := (Below.heap_alloc ((w5.setCell ⟨w2.heap.size, 0, none⟩ (.int .i64 (size : Nat))).setCell ⟨w2.heap.size, 1, none⟩ (.slice A7 n7 c7)) (.cells #[.int .i64 (size : Nat), .slice A7 n7 c7] 87) w2.heap.size (by simpa using lz)).trans (heap_two hQ5.out (.int .i64 (size : Nat)) (.slice A7 n7 c7))
          refine wp_world (S := fun w3 => (∃ R' : List (List UInt8), R'.length = n7 ∧ CAfter W p w2.heap.size size u u2 (.slice A7 n7 c7) R' w3.drew) ∧ w3.heap[w2.heap.size]? = some (.cells #[.int .i64 (size : Nat), .slice A7 n7 c7] 87 (0, 0))) ⟨AF.out _ (Keep.drew (Keep.alloc (Keep.setCell (Keep.setCell (Keep.refl _ _) (.inr (.inl rfl)) _) (.inr (.inl rfl)) _) _)) hq3, hq3⟩ ?_
          rintro w3 ⟨⟨R', rfl, cS, cL, cZ, cB⟩, hq3⟩
          have r0 : w3.cell? ⟨w2.heap.size, 0, none⟩ = some (.int .i64 (size : Nat)) := by rw [cell_of_row w3 _ 0 _ _ _ hq3]; rfl
          have r1 : w3.cell? ⟨w2.heap.size, 1, none⟩ = some (.slice A7 R'.length c7) := by rw [cell_of_row w3 _ 1 _ _ _ hq3]; rfl
          have CS := Lib.hid cS
          have CL := Lib.hid cL
          have CZ := Lib.hid cZ
          have CB := Lib.hid cB
          clear cS cL cZ cB hq3 x0 x1 x2 y1 z0 z1 d0 d1 d2 t0 t1 g0 g1 g2 aw0 aw1 awf fz fz' ne0 ne1
          try clear nb0 nb1 nf
          generalize R'.length = n7 at *
          have n1 : (z != z) = false := by simp
          have n2 : ((n7 : Int) != (n7 : Int)) = false := by simp
          have n3 : ((size : Int) != (size : Int)) = false := by simp
          go_region_held3 (fun w' => w'.cell? ⟨w2.heap.size, 0, none⟩ = some (.int .i64 (size : Nat)) ∧ w'.cell? ⟨w2.heap.size, 1, none⟩ = some (.slice A7 n7 c7)) (go_keep)
            (first
              | (go_at_call 16; (first | refine S5.out.mono ?_ | refine CS.out.mono ?_); rintro e w9 ⟨rfl, rfl⟩)
              | (go_at_call 62; refine CL.out.mono ?_; rintro e w9 ⟨rfl, rfl⟩)
              | (go_at_call 63; refine CZ.out.mono ?_; rintro e w9 ⟨rfl, rfl⟩)
              | (go_at_call 35; refine CB.out.mono ?_; rintro e w6 ⟨u4, rfl, q0, q1, RB⟩)
              | (go_at_call 64; refine RB.out.mono ?_; rintro e w7 ⟨u5, rfl, q2, q3, S5, NX⟩))
          go_wp2
          go_roundw
          case rel => exact ⟨k + 1, by omega, by go_num, NX⟩
          case measure => simp [intOf]; omega
        · have hq3 := heap_two ((Below.heap_setCell ((w5.setCell ⟨w1.heap.size, 0, none⟩ (.int .i64 (size : Nat)))) ⟨w1.heap.size, 1, none⟩ (.slice A7 n7 c7) w2.heap.size (fun e => by have hh : w2.heap.size = w1.heap.size := e; have hl : w2.heap.size < w1.heap.size := lq; omega)).trans ((Below.heap_setCell w5 ⟨w1.heap.size, 0, none⟩ (.int .i64 (size : Nat)) w2.heap.size (fun e => by have hh : w2.heap.size = w1.heap.size := e; have hl : w2.heap.size < w1.heap.size := lq; omega)).trans hQ5.out)) (.int .i64 (size : Nat)) (.slice A7 n7 c7)
          refine wp_world (S := fun w3 => (∃ R' : List (List UInt8), R'.length = n7 ∧ CAfter W p w2.heap.size size u u2 (.slice A7 n7 c7) R' w3.drew) ∧ w3.heap[w2.heap.size]? = some (.cells #[.int .i64 (size : Nat), .slice A7 n7 c7] 87 (0, 0))) ⟨AF.out _ (Keep.drew (Keep.setCell (Keep.setCell (Keep.setCell (Keep.setCell (Keep.refl _ _) (.inr (.inr ⟨Nat.le_refl _, by simp⟩)) _) (.inr (.inr ⟨Nat.le_refl _, by simp⟩)) _) (.inr (.inl rfl)) _) (.inr (.inl rfl)) _)) hq3, hq3⟩ ?_
          rintro w3 ⟨⟨R', rfl, cS, cL, cZ, cB⟩, hq3⟩
          have r0 : w3.cell? ⟨w2.heap.size, 0, none⟩ = some (.int .i64 (size : Nat)) := by rw [cell_of_row w3 _ 0 _ _ _ hq3]; rfl
          have r1 : w3.cell? ⟨w2.heap.size, 1, none⟩ = some (.slice A7 R'.length c7) := by rw [cell_of_row w3 _ 1 _ _ _ hq3]; rfl
          have CS := Lib.hid cS
          have CL := Lib.hid cL
          have CZ := Lib.hid cZ
          have CB := Lib.hid cB
          clear cS cL cZ cB hq3 x0 x1 x2 y1 z0 z1 d0 d1 d2 t0 t1 g0 g1 g2 aw0 aw1 awf fz fz' ne0 ne1
          try clear nb0 nb1 nf
          generalize R'.length = n7 at *
          have n1 : (z != z) = false := by simp
          have n2 : ((n7 : Int) != (n7 : Int)) = false := by simp
          have n3 : ((size : Int) != (size : Int)) = false := by simp
          go_region_held3 (fun w' => w'.cell? ⟨w2.heap.size, 0, none⟩ = some (.int .i64 (size : Nat)) ∧ w'.cell? ⟨w2.heap.size, 1, none⟩ = some (.slice A7 n7 c7)) (go_keep)
            (first
              | (go_at_call 16; (first | refine S5.out.mono ?_ | refine CS.out.mono ?_); rintro e w9 ⟨rfl, rfl⟩)
              | (go_at_call 62; refine CL.out.mono ?_; rintro e w9 ⟨rfl, rfl⟩)
              | (go_at_call 63; refine CZ.out.mono ?_; rintro e w9 ⟨rfl, rfl⟩)
              | (go_at_call 35; refine CB.out.mono ?_; rintro e w6 ⟨u4, rfl, q0, q1, RB⟩)
              | (go_at_call 64; refine RB.out.mono ?_; rintro e w7 ⟨u5, rfl, q2, q3, S5, NX⟩))
          go_wp2
          go_roundw
          case rel => exact ⟨k + 1, by omega, by go_num, NX⟩
          case measure => simp [intOf]; omega
      · go_wp2_with (go_at_call 32; refine (live08 _).mono ?_; rintro e w4 ⟨rfl, hb4⟩)
        go_ret
        obtain ⟨_, _, _, _, _, _, _, _, _, hbel⟩ := hst.out
        exact ⟨rfl, hbel.trans (hb4.mono hbel.size)⟩
  · go_wp2_with (go_at_call 32; refine (live08 _).mono ?_; rintro e w4 ⟨rfl, hb4⟩)
    go_ret
    exact ⟨rfl, hb4⟩
end Go.Proofs.Ytmlbkenbgajkmaa

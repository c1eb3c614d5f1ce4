/- Contract of script.Put; the page's example. -/
import Derived.Test.YthkgchlndfcmpaaScrA
namespace Go.Proofs.Ythkgchlndfcmpaa
open Go.RowKit
set_option maxRecDepth 100000
set_option linter.unusedVariables false
set_option linter.unusedSimpArgs false

set_option maxHeartbeats 8000000 in
theorem sputs_any (l : List Ac) (v : Value) (F : Nat → Prop) (w : World) (h : AS w F v l) (hs : ∀ x ∈ l, smallA x) (hb : ∀ k, (putsB l k).length ≤ 1000000000) :
    Calls Try.prog 64 #[v] w (BytesPost w (putsB l l.length)) := by
  have HA := Lib.hid h
  have HS := Lib.hid (show ∀ k x, l[k]? = some x → smallA x from fun k x hx => hs x (List.mem_of_getElem? hx))
  have HB := Lib.hid hb
  obtain ⟨A, c, rfl, hc⟩ := h.form
  have hl := h.len
  clear h hs hb hc
  generalize hn : l.length = n at *
  clear hn
  go_enter Try.func64, Try.ntmps64
  go_wp2
  go_loopw [3, 8] (fun t i wr => ∃ k : Nat, k ≤ n ∧ i = .int .i64 k ∧ (∃ A n' c, t = .slice A n' c ∧ Hid (By wr (fun b => w.heap.size ≤ b) (.slice A n' c) (putsB l k) ∧ Keep (fun _ => False) w wr))) (fun _ i _ => n - (intOf i).toNat)
  case atStart => exact ⟨0, by omega, rfl, none, 0, 0, rfl, Lib.hid ⟨By.nil _ _, Keep.refl _ _⟩⟩
  case round =>
    obtain ⟨k, hk, rfl, A6, n6, c6, rfl, ht⟩ := hrel
    by_cases hlt : k < n
    · have hi : (k : Int) < (n : Int) := by omega
      obtain ⟨b, off, x, u1, u2, u3, rfl, -, hx, ham, hcs⟩ := (HA.out.same ht.out.2).at_ hlt
      obtain ⟨y0, y1, y2, y3, y4, y5, y6, y7, y8, y9, y10, y11⟩ := cells_at12 hcs
      have PN := Lib.hid (putsB_next hx)
      obtain ⟨A1, m1, rfl, -⟩ := ham.1
      obtain ⟨A2, m2, rfl⟩ := ham.2.1.form
      obtain ⟨A3, m3, rfl⟩ := ham.2.2.form
      have SM := Lib.hid (HS.out k x hx)
      have AMH := Lib.hid ham
      clear hcs hx ham
      go_upto_region 5 with fail
      refine wp_world (S := fun Z => Ax Z wr.heap.size x (.slice A1 x.c.l.length m1) (.slice A2 x.fa.length m2) (.slice A3 x.fu.length m3) ∧ By Z (fun b => w.heap.size ≤ b) (.slice A6 n6 c6) (putsB l k) ∧ AM Z (fun b => b < wr.heap.size) x (.slice A1 x.c.l.length m1) (.slice A2 x.fa.length m2) (.slice A3 x.fu.length m3) ∧ Keep (fun _ => False) w Z) ⟨heap_alloc_new wr _, ht.out.1.keep ((Keep.refl (fun _ => False) wr).alloc _) (fun _ _ _ h => h), (AMH.out.mono (fun b hb _ => hb)).keep ((Keep.refl (fun _ => False) wr).alloc _) (fun _ _ _ h => h), ht.out.2.trans ((Keep.refl (fun _ => False) wr).alloc _) (fun _ _ h => h)⟩ ?_
      intro Z hZ
      have HZ := Lib.hid hZ
      clear hZ y0 y1 y2 y3 y4 y5 y6 y7 y8 y9 y10 y11 ht AMH
      generalize wr.heap.size = P at *
      obtain ⟨x0, x1, x2, x3, x4, x5, x6, x7, x8, x9, x10, x11, xf⟩ := cells12 HZ.out.1
      have K1 := srightA x (.slice A1 x.c.l.length m1) (.slice A2 x.fa.length m2) (.slice A3 x.fu.length m3) _ Z HZ.out.2.2.1
      unfold actV at K1
      go_wp2_with fail
      with_reducible refine K1.mono ?_
      rintro e w2 ⟨rfl, hb⟩
      have H2 := Lib.hid (show Ax w2 P x (.slice A1 x.c.l.length m1) (.slice A2 x.fa.length m2) (.slice A3 x.fu.length m3) ∧ By w2 (fun b => w.heap.size ≤ b) (.slice A6 n6 c6) (putsB l k) ∧ AM w2 (fun b => b < P) x (.slice A1 x.c.l.length m1) (.slice A2 x.fa.length m2) (.slice A3 x.fu.length m3) ∧ Keep (fun _ => False) w w2 from
        have kk := Keep.of_below' hb
        ⟨HZ.out.1.keep kk (fun h => h), HZ.out.2.1.keep kk (fun _ _ _ h => h), HZ.out.2.2.1.same kk, HZ.out.2.2.2.trans kk (fun _ _ h => h)⟩)
      clear hb K1 HZ x0 x1 x2 x3 x4 x5 x6 x7 x8 x9 x10 x11 xf
      obtain ⟨x0, x1, x2, x3, x4, x5, x6, x7, x8, x9, x10, x11, xf⟩ := cells12 H2.out.1
      by_cases hr : rightA x = true
      · have K1 := sput_any x (.slice A1 x.c.l.length m1) (.slice A2 x.fa.length m2) (.slice A3 x.fu.length m3) _ (putsB l k) _ _ w2 H2.out.2.1 (HB.out k) H2.out.2.2.1 SM.out
        unfold actV at K1
        have PN2 := Lib.hid (show putsB l (k + 1) = putsB l k ++ oneB x by rw [PN.out, if_pos hr])
        rw [← PN2.out] at K1
        go_wp2_with fail
        with_reducible refine K1.mono ?_
        rintro e w3 ⟨A7, n7, c7, rfl, hy, hb⟩
        have NT := Lib.hid (And.intro (hy.mono (G := fun b => w.heap.size ≤ b) (fun b _ h => Nat.le_trans H2.out.2.2.2.size h)) (H2.out.2.2.2.trans (Keep.of_below' hb) (fun _ _ h => h)))
        clear hy hb K1
        go_wp2
        go_roundw
        case rel => exact ⟨k + 1, by omega, by go_num, A7, n7, c7, rfl, NT⟩
        case measure => simp [intOf]; omega
      · have hr : rightA x = false := by simpa using hr
        have PN2 := Lib.hid (show putsB l (k + 1) = putsB l k by rw [PN.out, if_neg (by simp [hr]), List.append_nil])
        have NT := Lib.hid (And.intro H2.out.2.1 H2.out.2.2.2)
        rw [← PN2.out] at NT
        go_wp2
        go_roundw
        case rel => exact ⟨k + 1, by omega, by go_num, A6, n6, c6, rfl, NT⟩
        case measure => simp [intOf]; omega
    · have hi : ¬ (k : Int) < (n : Int) := by omega
      obtain rfl : k = n := by omega
      go_wp2
      go_ret
      exact ⟨A6, n6, c6, rfl, ht.out.1, ht.out.2.to_below'⟩
def liveL : List Ac := [⟨2, zeroCm, 0, 0, 0, [], []⟩, ⟨5, zeroCm, 0, 0, 1, [], []⟩]
def liveC : List Value := [.int .i64 2, .int .i64 0, .bool false, .int .i64 0, .int .i64 0, .int .i64 0, .slice none 0 0, .int .i64 0, .int .i64 0, .int .i64 0, .slice none 0 0, .slice none 0 0, .int .i64 5, .int .i64 0, .bool false, .int .i64 0, .int .i64 0, .int .i64 0, .slice none 0 0, .int .i64 0, .int .i64 0, .int .i64 1, .slice none 0 0, .slice none 0 0]
theorem AM.zero (w : World) (F : Nat → Prop) (d r f n : Int) : AM w F ⟨d, zeroCm, r, f, n, [], []⟩ (.slice none 0 0) (.slice none 0 0) (.slice none 0 0) := ⟨By.nil _ _, ML.nil _ _ _ _, ML.nil _ _ _ _⟩
theorem AS.live (w : World) (e : TypeId) : AS (w.alloc (.cells liveC.toArray e)) (fun k => k = w.heap.size) (.slice (some ⟨w.heap.size, 0, none⟩) 2 2) liveL :=
  ⟨[(.slice none 0 0, .slice none 0 0, .slice none 0 0), (.slice none 0 0, .slice none 0 0, .slice none 0 0)], rfl, ⟨_, _, rfl, Nat.le_refl _, by decide, Rd.lit w e liveC, fun h => by cases h⟩, fun i x u hx hu => by
    match i, hx, hu with
    | 0, hx, hu => simp [liveL] at hx; simp at hu; subst hx hu; exact AM.zero _ _ _ _ _ _
    | 1, hx, hu => simp [liveL] at hx; simp at hu; subst hx hu; exact AM.zero _ _ _ _ _ _
    | n + 2, hx, hu => simp [liveL] at hx⟩
theorem live31 (w : World) :
    Calls Try.prog 26 #[] w fun e w' => e = .returned (.bool true) ∧ Below w.heap.size w w' := by
  have PT := Lib.hid (sputs_any liveL _ _ _ (AS.live w 45) (by intro x hx; simp [liveL] at hx; rcases hx with rfl | rfl <;> exact ⟨by decide, by decide, by decide⟩) (fun k => by
    have h : (putsB liveL k).length ≤ (putsB liveL 2).length := by
      match k with
      | 0 => decide
      | 1 => decide
      | k + 2 => unfold putsB; rw [List.take_of_length_le (by simp [liveL])]; exact Nat.le_refl _
    exact Nat.le_trans h (by decide)))
  rw [show putsB liveL liveL.length = [2, 5, 1, 0, 0, 0, 0, 0, 0, 0] by decide] at PT
  have S0 := Lib.hid (fun (W : World) u (F : Nat → Prop) (h : By W F u [2, 5, 1, 0, 0, 0, 0, 0, 0, 0]) => same_any [2, 5, 1, 0, 0, 0, 0, 0, 0, 0] [2, 5, 1, 0, 0, 0, 0, 0, 0, 0] u _ F _ (W.alloc (.cells (bv [2, 5, 1, 0, 0, 0, 0, 0, 0, 0]).toArray 5)) (h.keep ((Keep.refl (fun _ => False) W).alloc _) (fun _ _ _ h => h)) (By.lit W 5 [2, 5, 1, 0, 0, 0, 0, 0, 0, 0] (by decide)))
  rw [decide_eq_true rfl] at S0
  go_enter Try.func26, Try.ntmps26
  go_wp2_with fail
  refine PT.out.mono ?_
  rintro e w1 ⟨A1, n1, c1, rfl, hby1, hb1⟩
  have H1 := Lib.hid (And.intro hby1 hb1)
  clear hby1 hb1
  go_wp2_with fail
  refine (S0.out _ _ _ H1.out.1).mono ?_
  rintro e w2 ⟨rfl, rfl⟩
  go_wp2
  go_ret
  have h0 : Below w.heap.size w (w.alloc (.cells liveC.toArray 45)) := (by repeat first | exact Below.refl _ _ | refine Below.setCell ?_ (by first | omega | (simp; done) | (simp; omega)) _ | refine Below.alloc ?_ (by first | omega | (simp; done) | (simp; omega)) _ | refine Below.drew ?_ | refine below_drewN ?_ _ | assumption)
  have h1 : Below w.heap.size w w1 := h0.trans (H1.out.2.mono h0.size)
  exact ⟨rfl, h1.alloc h1.size _⟩
end Go.Proofs.Ythkgchlndfcmpaa

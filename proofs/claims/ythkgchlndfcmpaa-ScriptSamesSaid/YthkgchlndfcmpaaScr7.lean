/- Contract of script.Same. Printed by genscr7.py. -/
import Derived.Test.YthkgchlndfcmpaaScr6
import Derived.Test.YthkgchlndfcmpaaScr3
import Derived.Test.YthkgchlndfcmpaaScr8
import Derived.Test.YthkgchlndfcmpaaCmd6
namespace Go.Proofs.Ythkgchlndfcmpaa
open Go.RowKit
set_option maxRecDepth 100000
set_option linter.unusedVariables false
set_option linter.unusedSimpArgs false

theorem smallA_plain {x : Ac} (h : smallA x) : smallA (plainA x) := by
  obtain ⟨d, cm, room, frames, nn, fa, fu⟩ := x
  obtain ⟨h1, h2, h3⟩ := h
  simp only at h1 h2 h3
  unfold plainA
  split
  · have := plainC_len cm
    refine ⟨?_, Nat.zero_le _, Nat.zero_le _⟩
    show (plainC cm).l.length ≤ _
    omega
  · split
    · exact ⟨Nat.zero_le _, Nat.zero_le _, Nat.zero_le _⟩
    · split
      · exact ⟨Nat.zero_le _, Nat.zero_le _, Nat.zero_le _⟩
      · split
        · exact ⟨Nat.zero_le _, h2, h3⟩
        · exact ⟨Nat.zero_le _, Nat.zero_le _, Nat.zero_le _⟩
/-- A new act's box. -/
def Al (W : World) (p : Nat) : Prop := W.heap[p]? = some (.cells #[.int .i64 0, .int .i64 0, .bool false, .int .i64 0, .int .i64 0, .int .i64 0, .slice none 0 0, .int .i64 0, .int .i64 0, .int .i64 0, .slice none 0 0, .slice none 0 0] 45 (0, 0))
section
variable {W W' : World} {p q : Nat}
theorem Al.new (W : World) (k : Nat) (h : k = W.heap.size) : Al (W.alloc (.cells #[.int .i64 0, .int .i64 0, .bool false, .int .i64 0, .int .i64 0, .int .i64 0, .slice none 0 0, .int .i64 0, .int .i64 0, .int .i64 0, .slice none 0 0, .slice none 0 0] 45)) k := heap_alloc_at _ _ _ h
theorem Al.alloc (h : Al W p) (o : Obj) : Al (W.alloc o) p := (heap_alloc_old _ _ (Array.getElem?_eq_some_iff.1 h).1).trans h
theorem Al.below (h : Al W p) (hb : Below W.heap.size W W') : Al W' p := (hb.block _ (Array.getElem?_eq_some_iff.1 h).1).trans h
theorem alloc_cell (h : Al W p) (o : Obj) (k : Nat) : (W.alloc o).cell? ⟨p, k, none⟩ = W.cell? ⟨p, k, none⟩ := World.cell?_of_block (a := ⟨p, k, none⟩) (heap_alloc_old _ _ (Array.getElem?_eq_some_iff.1 h).1)
theorem alloc_frozen (h : Al W p) (o : Obj) (k : Nat) : (W.alloc o).frozen? ⟨p, k, none⟩ = W.frozen? ⟨p, k, none⟩ := World.frozen?_of_block (a := ⟨p, k, none⟩) (heap_alloc_old _ _ (Array.getElem?_eq_some_iff.1 h).1)
theorem Al.drew (h : Al W p) : Al W.drew p := h
end
/-- An act's cells in block p. -/
def Ac12 (W : World) (p : Nat) (x : Ac) (u1 u2 u3 : Value) : Prop := W.cell? ⟨p, 0, none⟩ = some (.int .i64 x.do_) ∧ W.cell? ⟨p, 1, none⟩ = some (.int .i64 x.c.do_) ∧ W.cell? ⟨p, 2, none⟩ = some (.bool x.c.loc) ∧ W.cell? ⟨p, 3, none⟩ = some (.int .i64 x.c.idx) ∧ W.cell? ⟨p, 4, none⟩ = some (.int .i64 x.c.gen) ∧ W.cell? ⟨p, 5, none⟩ = some (.int .i64 x.c.comp) ∧ W.cell? ⟨p, 6, none⟩ = some u1 ∧ W.cell? ⟨p, 7, none⟩ = some (.int .i64 x.room) ∧ W.cell? ⟨p, 8, none⟩ = some (.int .i64 x.frames) ∧ W.cell? ⟨p, 9, none⟩ = some (.int .i64 x.n) ∧ W.cell? ⟨p, 10, none⟩ = some u2 ∧ W.cell? ⟨p, 11, none⟩ = some u3
theorem Ac12.keep {W W' : World} {p : Nat} {x : Ac} {u1 u2 u3 : Value} {S : Nat → Prop} (h : Ac12 W p x u1 u2 u3) (hk : Keep S W W') (hs : ¬ S p) : Ac12 W' p x u1 u2 u3 := by
  obtain ⟨h0, h1, h2, h3, h4, h5, h6, h7, h8, h9, h10, h11⟩ := h
  exact ⟨hk.cell hs h0, hk.cell hs h1, hk.cell hs h2, hk.cell hs h3, hk.cell hs h4, hk.cell hs h5, hk.cell hs h6, hk.cell hs h7, hk.cell hs h8, hk.cell hs h9, hk.cell hs h10, hk.cell hs h11⟩
/-- Two acts in boxes. -/
def TwoA (w W : World) (p q : Nat) (x y : Ac) (u1 u2 u3 v1 v2 v3 : Value) : Prop :=
  Ac12 W p x u1 u2 u3 ∧ Ac12 W q y v1 v2 v3 ∧ AM W (fun _ => True) x u1 u2 u3 ∧ AM W (fun _ => True) y v1 v2 v3 ∧ Keep (fun _ => False) w W
theorem TwoA.same {w W W' : World} {p q : Nat} {x y : Ac} {u1 u2 u3 v1 v2 v3 : Value} (h : TwoA w W p q x y u1 u2 u3 v1 v2 v3) (hk : Keep (fun _ => False) W W') : TwoA w W' p q x y u1 u2 u3 v1 v2 v3 :=
  ⟨h.1.keep hk (fun h => h), h.2.1.keep hk (fun h => h), h.2.2.1.same hk, h.2.2.2.1.same hk, h.2.2.2.2.trans hk (fun _ _ h => h)⟩
theorem AM.keepn {w w' : World} {F : Nat → Prop} {x : Ac} {u1 u2 u3 : Value} (h : AM w F x u1 u2 u3) (hk : Keep (fun b => ¬ F b) w w') : AM w' (fun _ => True) x u1 u2 u3 := (h.keep hk (fun _ _ h hn => hn h)).mono (fun _ _ _ => trivial)

set_option maxHeartbeats 8000000 in
theorem ssame_any (a b : Ac) (u1 u2 u3 v1 v2 v3 : Value) (F G : Nat → Prop) (w : World) (ha : AM w F a u1 u2 u3) (hb : AM w G b v1 v2 v3) (hsa : smallA a) (hsb : smallA b) :
    Calls Try.prog 32 #[actV a u1 u2 u3, actV b v1 v2 v3] w fun e w' => e = .returned (.bool (sameA a b)) ∧ Below w.heap.size w w' := by
  have PA := Lib.hid (fun W (hk : Keep (fun _ => False) w W) => splainA_any a u1 u2 u3 (fun b => b < w.heap.size) W ((ha.mono (fun b hb h => hb)).keep hk (fun _ _ _ h => h)) hsa)
  have PB' := Lib.hid (fun W (hk : Keep (fun _ => False) w W) => splainA_any b v1 v2 v3 (fun b => b < w.heap.size) W ((hb.mono (fun b hb h => hb)).keep hk (fun _ _ _ h => h)) hsb)
  have SA := Lib.hid (smallA_plain hsa)
  have SB := Lib.hid (smallA_plain hsb)
  unfold sameA
  generalize plainA a = x at *
  generalize plainA b = y at *
  obtain ⟨r1, hr1⟩ : ∃ r, r = (if x.do_ = 0 then exactC x.c y.c else sameC x.c y.c) := ⟨_, rfl⟩
  have R1 := Lib.hid hr1
  rw [← hr1]
  clear hr1
  obtain ⟨z, hz⟩ : ∃ z, z = (decide (x.do_ = y.do_) && (r1 && (decide (x.room = y.room ∧ x.frames = y.frames) && (decide (x.n = y.n) && (decide (x.fa = y.fa) && decide (x.fu = y.fu)))))) := ⟨_, rfl⟩
  rw [← hz]
  have HZ := Lib.hid hz
  clear hz ha hb hsa hsb
  unfold actV at *
  go_enter Try.func32, Try.ntmps32
  go_upto_region 1 with fail
  refine wp_world (S := fun X => Ax X w.heap.size a u1 u2 u3 ∧ Ax X (w.heap.size + 1) b v1 v2 v3 ∧ Keep (fun _ => False) w X) ⟨(heap_alloc_old _ _ (by simp)).trans (heap_alloc_new w _), heap_alloc_at _ _ _ (by simp), (by repeat first | exact Keep.refl _ _ | refine Keep.alloc ?_ _ | refine Keep.drew ?_ | refine Keep.drewN ?_ _)⟩ ?_
  intro X hX
  have HX := Lib.hid hX
  clear hX
  have hsX := HX.out.2.2.size
  go_cut [5, 6] (fun s5 s6 wx => ∃ p q A1 c1 A2 c2 A3 c3 B1 d1 B2 d2 B3 d3, s5 = .pointer (some ⟨p, 0, none⟩) ∧ s6 = .pointer (some ⟨q, 0, none⟩) ∧ Hid (TwoA w wx p q x y (.slice A1 x.c.l.length c1) (.slice A2 x.fa.length c2) (.slice A3 x.fu.length c3) (.slice B1 y.c.l.length d1) (.slice B2 y.fa.length d2) (.slice B3 y.fu.length d3)))
  case first =>
    have CE := Lib.hid (show ∀ W', Keep (fun _ => False) X W' → W'.cell? ⟨w.heap.size, 0, none⟩ = some (.int .i64 a.do_) ∧ W'.cell? ⟨w.heap.size, 1, none⟩ = some (.int .i64 a.c.do_) ∧ W'.cell? ⟨w.heap.size, 2, none⟩ = some (.bool a.c.loc) ∧ W'.cell? ⟨w.heap.size, 3, none⟩ = some (.int .i64 a.c.idx) ∧ W'.cell? ⟨w.heap.size, 4, none⟩ = some (.int .i64 a.c.gen) ∧ W'.cell? ⟨w.heap.size, 5, none⟩ = some (.int .i64 a.c.comp) ∧ W'.cell? ⟨w.heap.size, 6, none⟩ = some u1 ∧ W'.cell? ⟨w.heap.size, 7, none⟩ = some (.int .i64 a.room) ∧ W'.cell? ⟨w.heap.size, 8, none⟩ = some (.int .i64 a.frames) ∧ W'.cell? ⟨w.heap.size, 9, none⟩ = some (.int .i64 a.n) ∧ W'.cell? ⟨w.heap.size, 10, none⟩ = some u2 ∧ W'.cell? ⟨w.heap.size, 11, none⟩ = some u3 ∧ W'.cell? ⟨w.heap.size + 1, 0, none⟩ = some (.int .i64 b.do_) ∧ W'.cell? ⟨w.heap.size + 1, 1, none⟩ = some (.int .i64 b.c.do_) ∧ W'.cell? ⟨w.heap.size + 1, 2, none⟩ = some (.bool b.c.loc) ∧ W'.cell? ⟨w.heap.size + 1, 3, none⟩ = some (.int .i64 b.c.idx) ∧ W'.cell? ⟨w.heap.size + 1, 4, none⟩ = some (.int .i64 b.c.gen) ∧ W'.cell? ⟨w.heap.size + 1, 5, none⟩ = some (.int .i64 b.c.comp) ∧ W'.cell? ⟨w.heap.size + 1, 6, none⟩ = some v1 ∧ W'.cell? ⟨w.heap.size + 1, 7, none⟩ = some (.int .i64 b.room) ∧ W'.cell? ⟨w.heap.size + 1, 8, none⟩ = some (.int .i64 b.frames) ∧ W'.cell? ⟨w.heap.size + 1, 9, none⟩ = some (.int .i64 b.n) ∧ W'.cell? ⟨w.heap.size + 1, 10, none⟩ = some v2 ∧ W'.cell? ⟨w.heap.size + 1, 11, none⟩ = some v3 ∧ Keep (fun _ => False) X W' from fun W' hk => by
      obtain ⟨x0, x1, x2, x3, x4, x5, x6, x7, x8, x9, x10, x11, xf⟩ := cells12 (HX.out.1.keep hk (fun h => h))
      obtain ⟨y0, y1, y2, y3, y4, y5, y6, y7, y8, y9, y10, y11, yf⟩ := cells12 (HX.out.2.1.keep hk (fun h => h))
      exact ⟨x0, x1, x2, x3, x4, x5, x6, x7, x8, x9, x10, x11, y0, y1, y2, y3, y4, y5, y6, y7, y8, y9, y10, y11, hk⟩)
    go_region_held3 (fun W' => W'.cell? ⟨w.heap.size, 0, none⟩ = some (.int .i64 a.do_) ∧ W'.cell? ⟨w.heap.size, 1, none⟩ = some (.int .i64 a.c.do_) ∧ W'.cell? ⟨w.heap.size, 2, none⟩ = some (.bool a.c.loc) ∧ W'.cell? ⟨w.heap.size, 3, none⟩ = some (.int .i64 a.c.idx) ∧ W'.cell? ⟨w.heap.size, 4, none⟩ = some (.int .i64 a.c.gen) ∧ W'.cell? ⟨w.heap.size, 5, none⟩ = some (.int .i64 a.c.comp) ∧ W'.cell? ⟨w.heap.size, 6, none⟩ = some u1 ∧ W'.cell? ⟨w.heap.size, 7, none⟩ = some (.int .i64 a.room) ∧ W'.cell? ⟨w.heap.size, 8, none⟩ = some (.int .i64 a.frames) ∧ W'.cell? ⟨w.heap.size, 9, none⟩ = some (.int .i64 a.n) ∧ W'.cell? ⟨w.heap.size, 10, none⟩ = some u2 ∧ W'.cell? ⟨w.heap.size, 11, none⟩ = some u3 ∧ W'.cell? ⟨w.heap.size + 1, 0, none⟩ = some (.int .i64 b.do_) ∧ W'.cell? ⟨w.heap.size + 1, 1, none⟩ = some (.int .i64 b.c.do_) ∧ W'.cell? ⟨w.heap.size + 1, 2, none⟩ = some (.bool b.c.loc) ∧ W'.cell? ⟨w.heap.size + 1, 3, none⟩ = some (.int .i64 b.c.idx) ∧ W'.cell? ⟨w.heap.size + 1, 4, none⟩ = some (.int .i64 b.c.gen) ∧ W'.cell? ⟨w.heap.size + 1, 5, none⟩ = some (.int .i64 b.c.comp) ∧ W'.cell? ⟨w.heap.size + 1, 6, none⟩ = some v1 ∧ W'.cell? ⟨w.heap.size + 1, 7, none⟩ = some (.int .i64 b.room) ∧ W'.cell? ⟨w.heap.size + 1, 8, none⟩ = some (.int .i64 b.frames) ∧ W'.cell? ⟨w.heap.size + 1, 9, none⟩ = some (.int .i64 b.n) ∧ W'.cell? ⟨w.heap.size + 1, 10, none⟩ = some v2 ∧ W'.cell? ⟨w.heap.size + 1, 11, none⟩ = some v3 ∧ Keep (fun _ => False) X W') (with_reducible exact CE.out _ (by exact (by repeat first | (with_reducible assumption) | (with_reducible exact Keep.refl _ _) | (with_reducible refine Keep.alloc ?_ _) | (with_reducible refine Keep.drew ?_) | (with_reducible refine Keep.drewN ?_ _) | (with_reducible refine Keep.setCell ?_ (.inl (by first | omega | (simp; done) | (simp; omega) | fail)) _)))) (first
      | (go_at_call 28; (with_reducible refine (PA.out _ ?_).mono ?_); (exact HX.out.2.2.trans (by exact (by repeat first | (with_reducible assumption) | (with_reducible exact Keep.refl _ _) | (with_reducible refine Keep.alloc ?_ _) | (with_reducible refine Keep.drew ?_) | (with_reducible refine Keep.drewN ?_ _) | (with_reducible refine Keep.setCell ?_ (.inl (by first | omega | (simp; done) | (simp; omega) | fail)) _))) (fun _ _ h => h)); rintro e w1 ⟨A1, c1, A2, c2, A3, c3, rfl, hm1, hb1⟩; unfold actV; have hk1 : Keep (fun _ => False) X w1 := Keep.trans (T := fun _ => False) (by exact (by repeat first | (with_reducible assumption) | (with_reducible exact Keep.refl _ _) | (with_reducible refine Keep.alloc ?_ _) | (with_reducible refine Keep.drew ?_) | (with_reducible refine Keep.drewN ?_ _) | (with_reducible refine Keep.setCell ?_ (.inl (by first | omega | (simp; done) | (simp; omega) | fail)) _))) (Keep.of_below' hb1) (fun _ _ h => h); (first | (have HM1 := Lib.hid (hm1.mono (G := fun b => b < w1.heap.size ∧ (b < w.heap.size ∨ X.heap.size + 2 ≤ b)) (by intro b hb h; refine ⟨hb, ?_⟩; (try simp [heap_drew'] at h); omega))) | (have HM1 := Lib.hid (hm1.mono (G := fun b => b < w1.heap.size ∧ (b < w.heap.size ∨ X.heap.size + 1 ≤ b)) (by intro b hb h; refine ⟨hb, ?_⟩; (try simp [heap_drew'] at h); omega))) | (have HM1 := Lib.hid (hm1.mono (G := fun b => b < w1.heap.size ∧ (b < w.heap.size ∨ X.heap.size + 0 ≤ b)) (by intro b hb h; refine ⟨hb, ?_⟩; (try simp [heap_drew'] at h); omega)))); have hz1 := hb1.size; have hs1 := hk1.size; (first | ((first | (have al10 : Hid (Al w1 X.heap.size) := by with_reducible exact Lib.hid (Al.below (Al.drew (Al.alloc (Al.new _ _ (by first | rfl | (simp; done) | (with_unfolding_all rfl) | (simp [heap_drew']; done) | fail)) _)) hb1)) | (have al10 : Hid (Al w1 X.heap.size) := by with_reducible exact Lib.hid (Al.below (Al.drew (Al.new _ _ (by first | rfl | (simp; done) | (with_unfolding_all rfl) | (simp [heap_drew']; done) | fail))) hb1))); obtain ⟨z10_0, z10_1, z10_2, z10_3, z10_4, z10_5, z10_6, z10_7, z10_8, z10_9, z10_10, z10_11, z10_12⟩ := cells12 al10.out; have lt10 := (Array.getElem?_eq_some_iff.1 al10.out).1) | skip); (first | ((first | (have al11 : Hid (Al w1 (X.heap.size + 1)) := by with_reducible exact Lib.hid (Al.below (Al.drew (Al.new _ _ (by first | rfl | (simp; done) | (with_unfolding_all rfl) | (simp [heap_drew']; done) | fail))) hb1))); obtain ⟨z11_0, z11_1, z11_2, z11_3, z11_4, z11_5, z11_6, z11_7, z11_8, z11_9, z11_10, z11_11, z11_12⟩ := cells12 al11.out; have lt11 := (Array.getElem?_eq_some_iff.1 al11.out).1) | skip); clear hm1 hb1)
      | (go_at_call 28; (with_reducible refine (PB'.out _ ?_).mono ?_); (exact HX.out.2.2.trans (by exact (by repeat first | (with_reducible assumption) | (with_reducible exact Keep.refl _ _) | (with_reducible refine Keep.alloc ?_ _) | (with_reducible refine Keep.drew ?_) | (with_reducible refine Keep.drewN ?_ _) | (with_reducible refine Keep.setCell ?_ (.inl (by first | omega | (simp; done) | (simp; omega) | fail)) _))) (fun _ _ h => h)); rintro e w2 ⟨B1, d1, B2, d2, B3, d3, rfl, hm2, hb2⟩; unfold actV; have hk2 : Keep (fun _ => False) X w2 := Keep.trans (T := fun _ => False) (by exact (by repeat first | (with_reducible assumption) | (with_reducible exact Keep.refl _ _) | (with_reducible refine Keep.alloc ?_ _) | (with_reducible refine Keep.drew ?_) | (with_reducible refine Keep.drewN ?_ _) | (with_reducible refine Keep.setCell ?_ (.inl (by first | omega | (simp; done) | (simp; omega) | fail)) _))) (Keep.of_below' hb2) (fun _ _ h => h); have hk12 : Keep (fun _ => False) w1 w2 := Keep.trans (T := fun _ => False) (by exact (by repeat first | (with_reducible assumption) | (with_reducible exact Keep.refl _ _) | (with_reducible refine Keep.alloc ?_ _) | (with_reducible refine Keep.drew ?_) | (with_reducible refine Keep.drewN ?_ _) | (with_reducible refine Keep.setCell ?_ (.inl (by first | omega | (simp; done) | (simp; omega) | fail)) _))) (Keep.of_below' hb2) (fun _ _ h => h); (first | (have HM2 := Lib.hid (hm2.mono (G := fun b => b < w2.heap.size ∧ (b < w.heap.size ∨ w1.heap.size + 2 ≤ b)) (by intro b hb h; refine ⟨hb, ?_⟩; (try simp [heap_drew'] at h); omega))) | (have HM2 := Lib.hid (hm2.mono (G := fun b => b < w2.heap.size ∧ (b < w.heap.size ∨ w1.heap.size + 1 ≤ b)) (by intro b hb h; refine ⟨hb, ?_⟩; (try simp [heap_drew'] at h); omega))) | (have HM2 := Lib.hid (hm2.mono (G := fun b => b < w2.heap.size ∧ (b < w.heap.size ∨ w1.heap.size + 0 ≤ b)) (by intro b hb h; refine ⟨hb, ?_⟩; (try simp [heap_drew'] at h); omega)))); have hz2 := hb2.size; have hs2 := hk2.size; have hs12 := hk12.size; (first | ((first | (have al20 : Hid (Al w2 X.heap.size) := by with_reducible exact Lib.hid (Al.below (al10.out) hb2)) | (have al20 : Hid (Al w2 X.heap.size) := by with_reducible exact Lib.hid (Al.below (Al.alloc al10.out _) hb2))); obtain ⟨z20_0, z20_1, z20_2, z20_3, z20_4, z20_5, z20_6, z20_7, z20_8, z20_9, z20_10, z20_11, z20_12⟩ := cells12 al20.out; have lt20 := (Array.getElem?_eq_some_iff.1 al20.out).1) | skip); (first | ((first | (have al21 : Hid (Al w2 (X.heap.size + 1)) := by with_reducible exact Lib.hid (Al.below (al11.out) hb2))); obtain ⟨z21_0, z21_1, z21_2, z21_3, z21_4, z21_5, z21_6, z21_7, z21_8, z21_9, z21_10, z21_11, z21_12⟩ := cells12 al21.out; have lt21 := (Array.getElem?_eq_some_iff.1 al21.out).1) | skip); (first | ((first | (have al22 : Hid (Al w2 w1.heap.size) := by with_reducible exact Lib.hid (Al.below (Al.alloc (Al.new _ _ (by first | rfl | (simp; done) | (with_unfolding_all rfl) | (simp [heap_drew']; done) | fail)) _) hb2)) | (have al22 : Hid (Al w2 w1.heap.size) := by with_reducible exact Lib.hid (Al.below (Al.new _ _ (by first | rfl | (simp; done) | (with_unfolding_all rfl) | (simp [heap_drew']; done) | fail)) hb2))); obtain ⟨z22_0, z22_1, z22_2, z22_3, z22_4, z22_5, z22_6, z22_7, z22_8, z22_9, z22_10, z22_11, z22_12⟩ := cells12 al22.out; have lt22 := (Array.getElem?_eq_some_iff.1 al22.out).1) | skip); (first | ((first | (have al23 : Hid (Al w2 (w1.heap.size + 1)) := by with_reducible exact Lib.hid (Al.below (Al.new _ _ (by first | rfl | (simp; done) | (with_unfolding_all rfl) | (simp [heap_drew']; done) | fail)) hb2))); obtain ⟨z23_0, z23_1, z23_2, z23_3, z23_4, z23_5, z23_6, z23_7, z23_8, z23_9, z23_10, z23_11, z23_12⟩ := cells12 al23.out; have lt23 := (Array.getElem?_eq_some_iff.1 al23.out).1) | skip); (first | (have zo20 : ∀ (o : Obj) (k : Nat), (w2.alloc o).cell? ⟨X.heap.size, k, none⟩ = w2.cell? ⟨X.heap.size, k, none⟩ := fun o k => alloc_cell al20.out o k; have zf20 : ∀ (o : Obj) (k : Nat), (w2.alloc o).frozen? ⟨X.heap.size, k, none⟩ = w2.frozen? ⟨X.heap.size, k, none⟩ := fun o k => alloc_frozen al20.out o k) | skip); (first | (have zo21 : ∀ (o : Obj) (k : Nat), (w2.alloc o).cell? ⟨(X.heap.size + 1), k, none⟩ = w2.cell? ⟨(X.heap.size + 1), k, none⟩ := fun o k => alloc_cell al21.out o k; have zf21 : ∀ (o : Obj) (k : Nat), (w2.alloc o).frozen? ⟨(X.heap.size + 1), k, none⟩ = w2.frozen? ⟨(X.heap.size + 1), k, none⟩ := fun o k => alloc_frozen al21.out o k) | skip); (first | (have zo22 : ∀ (o : Obj) (k : Nat), (w2.alloc o).cell? ⟨w1.heap.size, k, none⟩ = w2.cell? ⟨w1.heap.size, k, none⟩ := fun o k => alloc_cell al22.out o k; have zf22 : ∀ (o : Obj) (k : Nat), (w2.alloc o).frozen? ⟨w1.heap.size, k, none⟩ = w2.frozen? ⟨w1.heap.size, k, none⟩ := fun o k => alloc_frozen al22.out o k) | skip); (first | (have zo23 : ∀ (o : Obj) (k : Nat), (w2.alloc o).cell? ⟨(w1.heap.size + 1), k, none⟩ = w2.cell? ⟨(w1.heap.size + 1), k, none⟩ := fun o k => alloc_cell al23.out o k; have zf23 : ∀ (o : Obj) (k : Nat), (w2.alloc o).frozen? ⟨(w1.heap.size + 1), k, none⟩ = w2.frozen? ⟨(w1.heap.size + 1), k, none⟩ := fun o k => alloc_frozen al23.out o k) | skip); (first | (have ne1 : X.heap.size ≠ w1.heap.size := Nat.ne_of_lt (Array.getElem?_eq_some_iff.1 al10.out).1; have ne1' := ne1.symm) | skip); (first | (have ne2 : X.heap.size ≠ w2.heap.size := Nat.ne_of_lt (Array.getElem?_eq_some_iff.1 al20.out).1; have ne2' := ne2.symm) | skip); (first | (have ne3 : w1.heap.size ≠ w2.heap.size := Nat.ne_of_lt (Array.getElem?_eq_some_iff.1 al22.out).1; have ne3' := ne3.symm) | skip); clear hm2 hb2)
      | fail)
    all_goals
      go_wp2_with fail
      go_meet
      refine ⟨_, _, A1, c1, A2, c2, A3, c3, B1, d1, B2, d2, B3, d3, rfl, rfl, Lib.hid ⟨?_, ?_, (HM1.out.same hk12).keepn ?_, HM2.out.keepn ?_, ?_⟩⟩
      focus (unfold Ac12; go_simp)
      focus (unfold Ac12; go_simp)
      focus (exact (by repeat first | (with_reducible exact Keep.refl _ _) | (with_reducible refine Keep.alloc ?_ _) | (with_reducible refine Keep.drew ?_) | (with_reducible refine Keep.setCell ?_ (.inr (by (try dsimp only); omega)) _) | (with_reducible refine Keep.setCell ?_ (.inl (by first | omega | (simp; done) | (simp; omega) | fail)) _)))
      focus (exact (by repeat first | (with_reducible exact Keep.refl _ _) | (with_reducible refine Keep.alloc ?_ _) | (with_reducible refine Keep.drew ?_) | (with_reducible refine Keep.setCell ?_ (.inr (by (try dsimp only); omega)) _) | (with_reducible refine Keep.setCell ?_ (.inl (by first | omega | (simp; done) | (simp; omega) | fail)) _)))
      focus (refine HX.out.2.2.trans (T := fun _ => False) ?_ (fun _ _ h => h); exact (by repeat first | (with_reducible assumption) | (with_reducible exact Keep.refl _ _) | (with_reducible refine Keep.alloc ?_ _) | (with_reducible refine Keep.drew ?_) | (with_reducible refine Keep.drewN ?_ _) | (with_reducible refine Keep.setCell ?_ (.inl (by first | omega | (simp; done) | (simp; omega) | fail)) _)))
  case rest =>
    obtain ⟨p, q, A1, c1, A2, c2, A3, c3, B1, d1, B2, d2, B3, d3, rfl, rfl, hst⟩ := hcut
    have H0 := Lib.hid hst.out
    clear hst HX PA PB' hsX
    have PS := Lib.hid (fun W (hk : Keep (fun _ => False) wc W) => psame_any x.c y.c _ _ _ _ W (H0.out.2.2.1.1.keep hk (fun _ _ _ h => h)) (H0.out.2.2.2.1.1.keep hk (fun _ _ _ h => h)) (by have := SA.out.1; omega) (by have := SB.out.1; omega))
    have EX := Lib.hid (fun W (hk : Keep (fun _ => False) wc W) => sexact_any x.c y.c _ _ _ _ W (H0.out.2.2.1.1.keep hk (fun _ _ _ h => h)) (H0.out.2.2.2.1.1.keep hk (fun _ _ _ h => h)) SA.out.1)
    unfold cmdV at PS EX
    obtain ⟨⟨x0, x1, x2, x3, x4, x5, x6, x7, x8, x9, x10, x11⟩, ⟨y0, y1, y2, y3, y4, y5, y6, y7, y8, y9, y10, y11⟩, -⟩ := H0.out
    have hz := HZ.out
    clear HZ
    by_cases h0 : x.do_ = 0
    · have e0 : (x.do_ == 0) = true := by simp [h0]
      have R2 := R1.out
      rw [if_pos h0] at R2
      rw [R2] at hz
      clear R1 R2 h0
      generalize exactC x.c y.c = r1 at *
      generalize hr6 : decide (x.fa = y.fa) = r6 at *
      generalize hr7 : decide (x.fu = y.fu) = r7 at *
      have H67 := Lib.hid (And.intro hr6 hr7)
      clear hr6 hr7
      by_cases h1 : ¬ x.do_ = y.do_
      · have Z := Lib.hid (show z = false by rw [hz]; simp [h1])
        have e1 : (x.do_ == y.do_) = false := by simp [h1]
        clear hz
        go_wp2_with fail
        with_reducible refine (EX.out _ (Keep.refl _ _)).mono ?_
        rintro e w3 ⟨rfl, hb⟩
        have H1 := Lib.hid (H0.out.same (Keep.of_below' hb))
        clear hb
        clear x0 x1 x2 x3 x4 x5 x6 x7 x8 x9 x10 x11 y0 y1 y2 y3 y4 y5 y6 y7 y8 y9 y10 y11
        obtain ⟨⟨x0, x1, x2, x3, x4, x5, x6, x7, x8, x9, x10, x11⟩, ⟨y0, y1, y2, y3, y4, y5, y6, y7, y8, y9, y10, y11⟩, -⟩ := H1.out
        have EF := Lib.hid (fun W (hk : Keep (fun _ => False) w3 W) => equal_f x.fa y.fa _ _ _ _ W (H1.out.2.2.1.2.1.keep hk (fun _ _ _ h => h)) (H1.out.2.2.2.1.2.1.keep hk (fun _ _ _ h => h)) SA.out.2.1)
        have EI := Lib.hid (fun W (hk : Keep (fun _ => False) w3 W) => equal_i x.fu y.fu _ _ _ _ W (H1.out.2.2.1.2.2.keep hk (fun _ _ _ h => h)) (H1.out.2.2.2.1.2.2.keep hk (fun _ _ _ h => h)) SA.out.2.2)
        go_wp2
        go_ret
        exact ⟨ret_bool Z.out.symm, H1.out.2.2.2.2.to_below'⟩
      have e1 : (x.do_ == y.do_) = true := by simpa using h1
      by_cases h2 : r1 = false
      · have Z := Lib.hid (show z = false by rw [hz]; simp [h2])
        subst h2
        clear hz
        go_wp2_with fail
        with_reducible refine (EX.out _ (Keep.refl _ _)).mono ?_
        rintro e w3 ⟨rfl, hb⟩
        have H1 := Lib.hid (H0.out.same (Keep.of_below' hb))
        clear hb
        clear x0 x1 x2 x3 x4 x5 x6 x7 x8 x9 x10 x11 y0 y1 y2 y3 y4 y5 y6 y7 y8 y9 y10 y11
        obtain ⟨⟨x0, x1, x2, x3, x4, x5, x6, x7, x8, x9, x10, x11⟩, ⟨y0, y1, y2, y3, y4, y5, y6, y7, y8, y9, y10, y11⟩, -⟩ := H1.out
        have EF := Lib.hid (fun W (hk : Keep (fun _ => False) w3 W) => equal_f x.fa y.fa _ _ _ _ W (H1.out.2.2.1.2.1.keep hk (fun _ _ _ h => h)) (H1.out.2.2.2.1.2.1.keep hk (fun _ _ _ h => h)) SA.out.2.1)
        have EI := Lib.hid (fun W (hk : Keep (fun _ => False) w3 W) => equal_i x.fu y.fu _ _ _ _ W (H1.out.2.2.1.2.2.keep hk (fun _ _ _ h => h)) (H1.out.2.2.2.1.2.2.keep hk (fun _ _ _ h => h)) SA.out.2.2)
        go_wp2
        go_ret
        exact ⟨ret_bool Z.out.symm, H1.out.2.2.2.2.to_below'⟩
      have h2 : r1 = true := by simpa using h2
      subst h2
      by_cases h3 : ¬ x.room = y.room
      · have Z := Lib.hid (show z = false by rw [hz]; simp [h3])
        have e3 : (x.room == y.room) = false := by simp [h3]
        clear hz
        go_wp2_with fail
        with_reducible refine (EX.out _ (Keep.refl _ _)).mono ?_
        rintro e w3 ⟨rfl, hb⟩
        have H1 := Lib.hid (H0.out.same (Keep.of_below' hb))
        clear hb
        clear x0 x1 x2 x3 x4 x5 x6 x7 x8 x9 x10 x11 y0 y1 y2 y3 y4 y5 y6 y7 y8 y9 y10 y11
        obtain ⟨⟨x0, x1, x2, x3, x4, x5, x6, x7, x8, x9, x10, x11⟩, ⟨y0, y1, y2, y3, y4, y5, y6, y7, y8, y9, y10, y11⟩, -⟩ := H1.out
        have EF := Lib.hid (fun W (hk : Keep (fun _ => False) w3 W) => equal_f x.fa y.fa _ _ _ _ W (H1.out.2.2.1.2.1.keep hk (fun _ _ _ h => h)) (H1.out.2.2.2.1.2.1.keep hk (fun _ _ _ h => h)) SA.out.2.1)
        have EI := Lib.hid (fun W (hk : Keep (fun _ => False) w3 W) => equal_i x.fu y.fu _ _ _ _ W (H1.out.2.2.1.2.2.keep hk (fun _ _ _ h => h)) (H1.out.2.2.2.1.2.2.keep hk (fun _ _ _ h => h)) SA.out.2.2)
        go_wp2
        go_ret
        exact ⟨ret_bool Z.out.symm, H1.out.2.2.2.2.to_below'⟩
      have e3 : (x.room == y.room) = true := by simpa using h3
      by_cases h4 : ¬ x.frames = y.frames
      · have Z := Lib.hid (show z = false by rw [hz]; simp [h4])
        have e4 : (x.frames == y.frames) = false := by simp [h4]
        clear hz
        go_wp2_with fail
        with_reducible refine (EX.out _ (Keep.refl _ _)).mono ?_
        rintro e w3 ⟨rfl, hb⟩
        have H1 := Lib.hid (H0.out.same (Keep.of_below' hb))
        clear hb
        clear x0 x1 x2 x3 x4 x5 x6 x7 x8 x9 x10 x11 y0 y1 y2 y3 y4 y5 y6 y7 y8 y9 y10 y11
        obtain ⟨⟨x0, x1, x2, x3, x4, x5, x6, x7, x8, x9, x10, x11⟩, ⟨y0, y1, y2, y3, y4, y5, y6, y7, y8, y9, y10, y11⟩, -⟩ := H1.out
        have EF := Lib.hid (fun W (hk : Keep (fun _ => False) w3 W) => equal_f x.fa y.fa _ _ _ _ W (H1.out.2.2.1.2.1.keep hk (fun _ _ _ h => h)) (H1.out.2.2.2.1.2.1.keep hk (fun _ _ _ h => h)) SA.out.2.1)
        have EI := Lib.hid (fun W (hk : Keep (fun _ => False) w3 W) => equal_i x.fu y.fu _ _ _ _ W (H1.out.2.2.1.2.2.keep hk (fun _ _ _ h => h)) (H1.out.2.2.2.1.2.2.keep hk (fun _ _ _ h => h)) SA.out.2.2)
        go_wp2
        go_ret
        exact ⟨ret_bool Z.out.symm, H1.out.2.2.2.2.to_below'⟩
      have e4 : (x.frames == y.frames) = true := by simpa using h4
      by_cases h5 : ¬ x.n = y.n
      · have Z := Lib.hid (show z = false by rw [hz]; simp [h5])
        have e5 : (x.n == y.n) = false := by simp [h5]
        clear hz
        go_wp2_with fail
        with_reducible refine (EX.out _ (Keep.refl _ _)).mono ?_
        rintro e w3 ⟨rfl, hb⟩
        have H1 := Lib.hid (H0.out.same (Keep.of_below' hb))
        clear hb
        clear x0 x1 x2 x3 x4 x5 x6 x7 x8 x9 x10 x11 y0 y1 y2 y3 y4 y5 y6 y7 y8 y9 y10 y11
        obtain ⟨⟨x0, x1, x2, x3, x4, x5, x6, x7, x8, x9, x10, x11⟩, ⟨y0, y1, y2, y3, y4, y5, y6, y7, y8, y9, y10, y11⟩, -⟩ := H1.out
        have EF := Lib.hid (fun W (hk : Keep (fun _ => False) w3 W) => equal_f x.fa y.fa _ _ _ _ W (H1.out.2.2.1.2.1.keep hk (fun _ _ _ h => h)) (H1.out.2.2.2.1.2.1.keep hk (fun _ _ _ h => h)) SA.out.2.1)
        have EI := Lib.hid (fun W (hk : Keep (fun _ => False) w3 W) => equal_i x.fu y.fu _ _ _ _ W (H1.out.2.2.1.2.2.keep hk (fun _ _ _ h => h)) (H1.out.2.2.2.1.2.2.keep hk (fun _ _ _ h => h)) SA.out.2.2)
        go_wp2
        go_ret
        exact ⟨ret_bool Z.out.symm, H1.out.2.2.2.2.to_below'⟩
      have e5 : (x.n == y.n) = true := by simpa using h5
      by_cases h6 : r6 = false
      · have Z := Lib.hid (show z = false by rw [hz]; simp [h6])
        subst h6
        clear hz
        go_wp2_with fail
        with_reducible refine (EX.out _ (Keep.refl _ _)).mono ?_
        rintro e w3 ⟨rfl, hb⟩
        have H1 := Lib.hid (H0.out.same (Keep.of_below' hb))
        clear hb
        clear x0 x1 x2 x3 x4 x5 x6 x7 x8 x9 x10 x11 y0 y1 y2 y3 y4 y5 y6 y7 y8 y9 y10 y11
        obtain ⟨⟨x0, x1, x2, x3, x4, x5, x6, x7, x8, x9, x10, x11⟩, ⟨y0, y1, y2, y3, y4, y5, y6, y7, y8, y9, y10, y11⟩, -⟩ := H1.out
        have EF := Lib.hid (fun W (hk : Keep (fun _ => False) w3 W) => equal_f x.fa y.fa _ _ _ _ W (H1.out.2.2.1.2.1.keep hk (fun _ _ _ h => h)) (H1.out.2.2.2.1.2.1.keep hk (fun _ _ _ h => h)) SA.out.2.1)
        have EI := Lib.hid (fun W (hk : Keep (fun _ => False) w3 W) => equal_i x.fu y.fu _ _ _ _ W (H1.out.2.2.1.2.2.keep hk (fun _ _ _ h => h)) (H1.out.2.2.2.1.2.2.keep hk (fun _ _ _ h => h)) SA.out.2.2)
        go_wp2_with fail
        with_reducible refine (EF.out _ (Keep.refl _ _)).mono ?_
        rintro e w5 ⟨rfl, k3, rfl⟩
        rw [H67.out.1]
        go_wp2
        go_ret
        exact ⟨ret_bool Z.out.symm, (H1.out.2.2.2.2.drewN _).to_below'⟩
      have h6 : r6 = true := by simpa using h6
      subst h6
      have Z := Lib.hid (show z = r7 by rw [hz]; simp_all)
      clear hz
      go_wp2_with fail
      with_reducible refine (EX.out _ (Keep.refl _ _)).mono ?_
      rintro e w3 ⟨rfl, hb⟩
      have H1 := Lib.hid (H0.out.same (Keep.of_below' hb))
      clear hb
      clear x0 x1 x2 x3 x4 x5 x6 x7 x8 x9 x10 x11 y0 y1 y2 y3 y4 y5 y6 y7 y8 y9 y10 y11
      obtain ⟨⟨x0, x1, x2, x3, x4, x5, x6, x7, x8, x9, x10, x11⟩, ⟨y0, y1, y2, y3, y4, y5, y6, y7, y8, y9, y10, y11⟩, -⟩ := H1.out
      have EF := Lib.hid (fun W (hk : Keep (fun _ => False) w3 W) => equal_f x.fa y.fa _ _ _ _ W (H1.out.2.2.1.2.1.keep hk (fun _ _ _ h => h)) (H1.out.2.2.2.1.2.1.keep hk (fun _ _ _ h => h)) SA.out.2.1)
      have EI := Lib.hid (fun W (hk : Keep (fun _ => False) w3 W) => equal_i x.fu y.fu _ _ _ _ W (H1.out.2.2.1.2.2.keep hk (fun _ _ _ h => h)) (H1.out.2.2.2.1.2.2.keep hk (fun _ _ _ h => h)) SA.out.2.2)
      go_wp2_with fail
      with_reducible refine (EF.out _ (Keep.refl _ _)).mono ?_
      rintro e w5 ⟨rfl, k3, rfl⟩
      rw [H67.out.1]
      go_wp2_with fail
      with_reducible refine (EI.out _ (by exact (by repeat first | exact Keep.refl _ _ | refine Keep.alloc ?_ _ | refine Keep.drew ?_ | refine Keep.drewN ?_ _))).mono ?_
      rintro e w4 ⟨rfl, k4, rfl⟩
      rw [H67.out.2]
      go_wp2
      go_ret
      exact ⟨ret_bool Z.out.symm, by first | exact (H1.out.2.2.2.2.drewN _).to_below' | exact ((H1.out.2.2.2.2.drewN _).drewN _).to_below'⟩
    · have e0 : (x.do_ == 0) = false := by simp [h0]
      have R2 := R1.out
      rw [if_neg h0] at R2
      rw [R2] at hz
      clear R1 R2 h0
      generalize sameC x.c y.c = r1 at *
      generalize hr6 : decide (x.fa = y.fa) = r6 at *
      generalize hr7 : decide (x.fu = y.fu) = r7 at *
      have H67 := Lib.hid (And.intro hr6 hr7)
      clear hr6 hr7
      by_cases h1 : ¬ x.do_ = y.do_
      · have Z := Lib.hid (show z = false by rw [hz]; simp [h1])
        have e1 : (x.do_ == y.do_) = false := by simp [h1]
        clear hz
        go_wp2_with fail
        with_reducible refine (PS.out _ (Keep.refl _ _)).mono ?_
        rintro e w3 ⟨rfl, hb⟩
        have H1 := Lib.hid (H0.out.same (Keep.of_below' hb))
        clear hb
        clear x0 x1 x2 x3 x4 x5 x6 x7 x8 x9 x10 x11 y0 y1 y2 y3 y4 y5 y6 y7 y8 y9 y10 y11
        obtain ⟨⟨x0, x1, x2, x3, x4, x5, x6, x7, x8, x9, x10, x11⟩, ⟨y0, y1, y2, y3, y4, y5, y6, y7, y8, y9, y10, y11⟩, -⟩ := H1.out
        have EF := Lib.hid (fun W (hk : Keep (fun _ => False) w3 W) => equal_f x.fa y.fa _ _ _ _ W (H1.out.2.2.1.2.1.keep hk (fun _ _ _ h => h)) (H1.out.2.2.2.1.2.1.keep hk (fun _ _ _ h => h)) SA.out.2.1)
        have EI := Lib.hid (fun W (hk : Keep (fun _ => False) w3 W) => equal_i x.fu y.fu _ _ _ _ W (H1.out.2.2.1.2.2.keep hk (fun _ _ _ h => h)) (H1.out.2.2.2.1.2.2.keep hk (fun _ _ _ h => h)) SA.out.2.2)
        go_wp2
        go_ret
        exact ⟨ret_bool Z.out.symm, H1.out.2.2.2.2.to_below'⟩
      have e1 : (x.do_ == y.do_) = true := by simpa using h1
      by_cases h2 : r1 = false
      · have Z := Lib.hid (show z = false by rw [hz]; simp [h2])
        subst h2
        clear hz
        go_wp2_with fail
        with_reducible refine (PS.out _ (Keep.refl _ _)).mono ?_
        rintro e w3 ⟨rfl, hb⟩
        have H1 := Lib.hid (H0.out.same (Keep.of_below' hb))
        clear hb
        clear x0 x1 x2 x3 x4 x5 x6 x7 x8 x9 x10 x11 y0 y1 y2 y3 y4 y5 y6 y7 y8 y9 y10 y11
        obtain ⟨⟨x0, x1, x2, x3, x4, x5, x6, x7, x8, x9, x10, x11⟩, ⟨y0, y1, y2, y3, y4, y5, y6, y7, y8, y9, y10, y11⟩, -⟩ := H1.out
        have EF := Lib.hid (fun W (hk : Keep (fun _ => False) w3 W) => equal_f x.fa y.fa _ _ _ _ W (H1.out.2.2.1.2.1.keep hk (fun _ _ _ h => h)) (H1.out.2.2.2.1.2.1.keep hk (fun _ _ _ h => h)) SA.out.2.1)
        have EI := Lib.hid (fun W (hk : Keep (fun _ => False) w3 W) => equal_i x.fu y.fu _ _ _ _ W (H1.out.2.2.1.2.2.keep hk (fun _ _ _ h => h)) (H1.out.2.2.2.1.2.2.keep hk (fun _ _ _ h => h)) SA.out.2.2)
        go_wp2
        go_ret
        exact ⟨ret_bool Z.out.symm, H1.out.2.2.2.2.to_below'⟩
      have h2 : r1 = true := by simpa using h2
      subst h2
      by_cases h3 : ¬ x.room = y.room
      · have Z := Lib.hid (show z = false by rw [hz]; simp [h3])
        have e3 : (x.room == y.room) = false := by simp [h3]
        clear hz
        go_wp2_with fail
        with_reducible refine (PS.out _ (Keep.refl _ _)).mono ?_
        rintro e w3 ⟨rfl, hb⟩
        have H1 := Lib.hid (H0.out.same (Keep.of_below' hb))
        clear hb
        clear x0 x1 x2 x3 x4 x5 x6 x7 x8 x9 x10 x11 y0 y1 y2 y3 y4 y5 y6 y7 y8 y9 y10 y11
        obtain ⟨⟨x0, x1, x2, x3, x4, x5, x6, x7, x8, x9, x10, x11⟩, ⟨y0, y1, y2, y3, y4, y5, y6, y7, y8, y9, y10, y11⟩, -⟩ := H1.out
        have EF := Lib.hid (fun W (hk : Keep (fun _ => False) w3 W) => equal_f x.fa y.fa _ _ _ _ W (H1.out.2.2.1.2.1.keep hk (fun _ _ _ h => h)) (H1.out.2.2.2.1.2.1.keep hk (fun _ _ _ h => h)) SA.out.2.1)
        have EI := Lib.hid (fun W (hk : Keep (fun _ => False) w3 W) => equal_i x.fu y.fu _ _ _ _ W (H1.out.2.2.1.2.2.keep hk (fun _ _ _ h => h)) (H1.out.2.2.2.1.2.2.keep hk (fun _ _ _ h => h)) SA.out.2.2)
        go_wp2
        go_ret
        exact ⟨ret_bool Z.out.symm, H1.out.2.2.2.2.to_below'⟩
      have e3 : (x.room == y.room) = true := by simpa using h3
      by_cases h4 : ¬ x.frames = y.frames
      · have Z := Lib.hid (show z = false by rw [hz]; simp [h4])
        have e4 : (x.frames == y.frames) = false := by simp [h4]
        clear hz
        go_wp2_with fail
        with_reducible refine (PS.out _ (Keep.refl _ _)).mono ?_
        rintro e w3 ⟨rfl, hb⟩
        have H1 := Lib.hid (H0.out.same (Keep.of_below' hb))
        clear hb
        clear x0 x1 x2 x3 x4 x5 x6 x7 x8 x9 x10 x11 y0 y1 y2 y3 y4 y5 y6 y7 y8 y9 y10 y11
        obtain ⟨⟨x0, x1, x2, x3, x4, x5, x6, x7, x8, x9, x10, x11⟩, ⟨y0, y1, y2, y3, y4, y5, y6, y7, y8, y9, y10, y11⟩, -⟩ := H1.out
        have EF := Lib.hid (fun W (hk : Keep (fun _ => False) w3 W) => equal_f x.fa y.fa _ _ _ _ W (H1.out.2.2.1.2.1.keep hk (fun _ _ _ h => h)) (H1.out.2.2.2.1.2.1.keep hk (fun _ _ _ h => h)) SA.out.2.1)
        have EI := Lib.hid (fun W (hk : Keep (fun _ => False) w3 W) => equal_i x.fu y.fu _ _ _ _ W (H1.out.2.2.1.2.2.keep hk (fun _ _ _ h => h)) (H1.out.2.2.2.1.2.2.keep hk (fun _ _ _ h => h)) SA.out.2.2)
        go_wp2
        go_ret
        exact ⟨ret_bool Z.out.symm, H1.out.2.2.2.2.to_below'⟩
      have e4 : (x.frames == y.frames) = true := by simpa using h4
      by_cases h5 : ¬ x.n = y.n
      · have Z := Lib.hid (show z = false by rw [hz]; simp [h5])
        have e5 : (x.n == y.n) = false := by simp [h5]
        clear hz
        go_wp2_with fail
        with_reducible refine (PS.out _ (Keep.refl _ _)).mono ?_
        rintro e w3 ⟨rfl, hb⟩
        have H1 := Lib.hid (H0.out.same (Keep.of_below' hb))
        clear hb
        clear x0 x1 x2 x3 x4 x5 x6 x7 x8 x9 x10 x11 y0 y1 y2 y3 y4 y5 y6 y7 y8 y9 y10 y11
        obtain ⟨⟨x0, x1, x2, x3, x4, x5, x6, x7, x8, x9, x10, x11⟩, ⟨y0, y1, y2, y3, y4, y5, y6, y7, y8, y9, y10, y11⟩, -⟩ := H1.out
        have EF := Lib.hid (fun W (hk : Keep (fun _ => False) w3 W) => equal_f x.fa y.fa _ _ _ _ W (H1.out.2.2.1.2.1.keep hk (fun _ _ _ h => h)) (H1.out.2.2.2.1.2.1.keep hk (fun _ _ _ h => h)) SA.out.2.1)
        have EI := Lib.hid (fun W (hk : Keep (fun _ => False) w3 W) => equal_i x.fu y.fu _ _ _ _ W (H1.out.2.2.1.2.2.keep hk (fun _ _ _ h => h)) (H1.out.2.2.2.1.2.2.keep hk (fun _ _ _ h => h)) SA.out.2.2)
        go_wp2
        go_ret
        exact ⟨ret_bool Z.out.symm, H1.out.2.2.2.2.to_below'⟩
      have e5 : (x.n == y.n) = true := by simpa using h5
      by_cases h6 : r6 = false
      · have Z := Lib.hid (show z = false by rw [hz]; simp [h6])
        subst h6
        clear hz
        go_wp2_with fail
        with_reducible refine (PS.out _ (Keep.refl _ _)).mono ?_
        rintro e w3 ⟨rfl, hb⟩
        have H1 := Lib.hid (H0.out.same (Keep.of_below' hb))
        clear hb
        clear x0 x1 x2 x3 x4 x5 x6 x7 x8 x9 x10 x11 y0 y1 y2 y3 y4 y5 y6 y7 y8 y9 y10 y11
        obtain ⟨⟨x0, x1, x2, x3, x4, x5, x6, x7, x8, x9, x10, x11⟩, ⟨y0, y1, y2, y3, y4, y5, y6, y7, y8, y9, y10, y11⟩, -⟩ := H1.out
        have EF := Lib.hid (fun W (hk : Keep (fun _ => False) w3 W) => equal_f x.fa y.fa _ _ _ _ W (H1.out.2.2.1.2.1.keep hk (fun _ _ _ h => h)) (H1.out.2.2.2.1.2.1.keep hk (fun _ _ _ h => h)) SA.out.2.1)
        have EI := Lib.hid (fun W (hk : Keep (fun _ => False) w3 W) => equal_i x.fu y.fu _ _ _ _ W (H1.out.2.2.1.2.2.keep hk (fun _ _ _ h => h)) (H1.out.2.2.2.1.2.2.keep hk (fun _ _ _ h => h)) SA.out.2.2)
        go_wp2_with fail
        with_reducible refine (EF.out _ (Keep.refl _ _)).mono ?_
        rintro e w5 ⟨rfl, k3, rfl⟩
        rw [H67.out.1]
        go_wp2
        go_ret
        exact ⟨ret_bool Z.out.symm, (H1.out.2.2.2.2.drewN _).to_below'⟩
      have h6 : r6 = true := by simpa using h6
      subst h6
      have Z := Lib.hid (show z = r7 by rw [hz]; simp_all)
      clear hz
      go_wp2_with fail
      with_reducible refine (PS.out _ (Keep.refl _ _)).mono ?_
      rintro e w3 ⟨rfl, hb⟩
      have H1 := Lib.hid (H0.out.same (Keep.of_below' hb))
      clear hb
      clear x0 x1 x2 x3 x4 x5 x6 x7 x8 x9 x10 x11 y0 y1 y2 y3 y4 y5 y6 y7 y8 y9 y10 y11
      obtain ⟨⟨x0, x1, x2, x3, x4, x5, x6, x7, x8, x9, x10, x11⟩, ⟨y0, y1, y2, y3, y4, y5, y6, y7, y8, y9, y10, y11⟩, -⟩ := H1.out
      have EF := Lib.hid (fun W (hk : Keep (fun _ => False) w3 W) => equal_f x.fa y.fa _ _ _ _ W (H1.out.2.2.1.2.1.keep hk (fun _ _ _ h => h)) (H1.out.2.2.2.1.2.1.keep hk (fun _ _ _ h => h)) SA.out.2.1)
      have EI := Lib.hid (fun W (hk : Keep (fun _ => False) w3 W) => equal_i x.fu y.fu _ _ _ _ W (H1.out.2.2.1.2.2.keep hk (fun _ _ _ h => h)) (H1.out.2.2.2.1.2.2.keep hk (fun _ _ _ h => h)) SA.out.2.2)
      go_wp2_with fail
      with_reducible refine (EF.out _ (Keep.refl _ _)).mono ?_
      rintro e w5 ⟨rfl, k3, rfl⟩
      rw [H67.out.1]
      go_wp2_with fail
      with_reducible refine (EI.out _ (by exact (by repeat first | exact Keep.refl _ _ | refine Keep.alloc ?_ _ | refine Keep.drew ?_ | refine Keep.drewN ?_ _))).mono ?_
      rintro e w4 ⟨rfl, k4, rfl⟩
      rw [H67.out.2]
      go_wp2
      go_ret
      exact ⟨ret_bool Z.out.symm, by first | exact (H1.out.2.2.2.2.drewN _).to_below' | exact ((H1.out.2.2.2.2.drewN _).drewN _).to_below'⟩
end Go.Proofs.Ythkgchlndfcmpaa

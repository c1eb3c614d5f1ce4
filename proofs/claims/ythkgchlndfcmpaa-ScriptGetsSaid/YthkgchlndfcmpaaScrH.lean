/- Contract of vivariumref31.get. Printed by genscrh.py. -/
import Derived.Test.YthkgchlndfcmpaaScrE
import Derived.Test.YthkgchlndfcmpaaCmdI
import Derived.Deep.RegionLaw
namespace Go.Proofs.Ythkgchlndfcmpaa
open Go.RowKit
set_option maxRecDepth 100000
set_option linter.unusedVariables false
set_option linter.unusedSimpArgs false

def fatesOf (l : List Int) (k : Nat) : List Fa := (List.range k).map fun i => ⟨l.getD (2 * i) 0, l.getD (2 * i + 1) 0⟩
theorem fatesOf_next (l : List Int) (k : Nat) : fatesOf l (k + 1) = fatesOf l k ++ [⟨l.getD (2 * k) 0, l.getD (2 * k + 1) 0⟩] := by
  unfold fatesOf
  rw [List.range_succ, List.map_append]
  rfl
theorem fatesOf_len (l : List Int) (k : Nat) : (fatesOf l k).length = k := by simp [fatesOf]
/-- What get answers of six. -/
def sixQ (b : List UInt8) (s : Int) : Ac × Int × Int :=
  let n := (getZ b s 2).toNat
  let N := numsQ b (s + 2) (2 * n)
  let M := numsQ b (N.2.1 + 2) (getZ b N.2.1 2).toNat
  if getOk b s 2 = true ∧ N.2.2 = true ∧ getOk b N.2.1 2 = true ∧ M.2.2 = true then (⟨6, zeroCm, 0, 0, 0, fatesOf N.1 n, M.1⟩, M.2.1, 0) else (zeroA, 0, 12)
def oneQ (b : List UInt8) (a : Nat) : Ac × Int × Int :=
  if 6 < byteA b a then (zeroA, 0, 11)
  else if byteA b a = 0 then (⟨0, (refP b (a + 1 : Nat)).1, 0, 0, 0, [], []⟩, (refP b (a + 1 : Nat)).2.1, (refP b (a + 1 : Nat)).2.2)
  else if byteA b a = 6 then sixQ b (a + 1 : Nat)
  else if byteA b a = 4 then (if (numsQ b (a + 1 : Nat) 2).2.2 = true then (⟨4, zeroCm, (numsQ b (a + 1 : Nat) 2).1.getD 0 0, (numsQ b (a + 1 : Nat) 2).1.getD 1 0, 0, [], []⟩, (numsQ b (a + 1 : Nat) 2).2.1, 0) else (zeroA, 0, 12))
  else if byteA b a = 5 then (if (numsQ b (a + 1 : Nat) 1).2.2 = true then (⟨5, zeroCm, 0, 0, (numsQ b (a + 1 : Nat) 1).1.getD 0 0, [], []⟩, (numsQ b (a + 1 : Nat) 1).2.1, 0) else (zeroA, 0, 12))
  else (if (numsQ b (a + 1 : Nat) 0).2.2 = true then (⟨byteA b a, zeroCm, 0, 0, 0, [], []⟩, (numsQ b (a + 1 : Nat) 0).2.1, 0) else (zeroA, 0, 12))
def QG (w : World) (F : Nat → Prop) (b : Nat) : Prop := (F b ∧ b < w.heap.size) ∨ w.heap.size + 1 < b
/-- Where get stands: the result's box, x. -/
def QSt (w W : World) (F : Nat → Prop) (x : Ac) (u1 u2 u3 : Value) : Prop :=
  Row12 W w.heap.size [.int .i64 0, .int .i64 0, .bool false, .int .i64 0, .int .i64 0, .int .i64 0, .slice none 0 0, .int .i64 0, .int .i64 0, .int .i64 0, .slice none 0 0, .slice none 0 0] ∧ Ax W (w.heap.size + 1) x u1 u2 u3 ∧ AM W (QG w F) x u1 u2 u3 ∧ Below w.heap.size w W
section
variable {w W W' : World} {F : Nat → Prop} {x x' : Ac} {u1 u2 u3 v1 v2 v3 : Value}
theorem QSt.same (h : QSt w W F x u1 u2 u3) (hk : Keep (fun _ => False) W W') : QSt w W' F x u1 u2 u3 :=
  ⟨(hk.block _ (Array.getElem?_eq_some_iff.1 h.1).1 (fun h => h)).trans h.1, h.2.1.keep hk (fun h => h), h.2.2.1.same hk, ((Keep.of_below h.2.2.2).trans hk (fun _ _ h => h.elim)).to_below (Nat.le_refl _)⟩
theorem QSt.lt (h : QSt w W F x u1 u2 u3) : w.heap.size + 1 < W.heap.size := h.2.1.lt
theorem QSt.set (h : QSt w W F x u1 u2 u3) (i : Nat) (z : Value) (ha : AM W (QG w F) x' v1 v2 v3)
    (he : (#[.int .i64 (x).do_, .int .i64 (x).c.do_, .bool (x).c.loc, .int .i64 (x).c.idx, .int .i64 (x).c.gen, .int .i64 (x).c.comp, u1, .int .i64 (x).room, .int .i64 (x).frames, .int .i64 (x).n, u2, u3] : Array Value).setIfInBounds i z = #[.int .i64 (x').do_, .int .i64 (x').c.do_, .bool (x').c.loc, .int .i64 (x').c.idx, .int .i64 (x').c.gen, .int .i64 (x').c.comp, v1, .int .i64 (x').room, .int .i64 (x').frames, .int .i64 (x').n, v2, v3]) : QSt w (W.setCell ⟨w.heap.size + 1, i, none⟩ z) F x' v1 v2 v3 := by
  have hk : Keep (fun b => b = w.heap.size + 1) W (W.setCell ⟨w.heap.size + 1, i, none⟩ z) := Keep.setCell (S := fun b => b = w.heap.size + 1) (p := ⟨w.heap.size + 1, i, none⟩) (Keep.refl _ W) (.inr rfl) _
  refine ⟨(hk.block _ (Array.getElem?_eq_some_iff.1 h.1).1 (by omega)).trans h.1, ?_, ha.keep hk (fun b _ hb e => by unfold QG at hb; omega), ((Keep.of_below h.2.2.2).trans hk (fun b _ e => by omega)).to_below (Nat.le_refl _)⟩
  show (W.setCell ⟨w.heap.size + 1, i, none⟩ z).heap[w.heap.size + 1]? = _
  rw [heap_setCell_same W (w.heap.size + 1) i _ _ z h.2.1, he]
/-- What it leaves. -/
theorem QSt.fin (h : QSt w W F x u1 u2 u3) (hk : Keep (fun b => b = w.heap.size) W W') : AM W' (fun b => F b ∨ w.heap.size ≤ b) x u1 u2 u3 ∧ Below w.heap.size w W' :=
  ⟨(h.2.2.1.keep hk (fun b _ hb e => by unfold QG at hb; omega)).mono (fun b _ hb => by unfold QG at hb; rcases hb with hb | hb; exact .inl hb.1; exact .inr (by omega)), ((Keep.of_below h.2.2.2).trans hk (fun b _ e => by omega)).to_below (Nat.le_refl _)⟩
theorem QSt.ret0 (h : QSt w W F x u1 u2 u3) (hk : Keep (fun b => b = w.heap.size) W W') (d r f n nx e : Int) : OPost (fun b => F b ∨ w.heap.size ≤ b) w (⟨d, zeroCm, r, f, n, [], []⟩, nx, e) (.returned (.tuple #[.agg #[.int .i64 d, .int .i64 zeroCm.do_, .bool zeroCm.loc, .int .i64 zeroCm.idx, .int .i64 zeroCm.gen, .int .i64 zeroCm.comp, .slice none 0 0, .int .i64 r, .int .i64 f, .int .i64 n, .slice none 0 0, .slice none 0 0], .int .i64 nx, .int .i64 e])) W' :=
  ⟨none, 0, none, 0, none, 0, rfl, AM.zero _ _ _ _ _ _, ((Keep.of_below h.2.2.2).trans hk (fun b _ e => by omega)).to_below (Nat.le_refl _)⟩
theorem QSt.zero (h : QSt w W F x u1 u2 u3) (hk : Keep (fun b => b = w.heap.size) W W') (e : Int) : OPost (fun b => F b ∨ w.heap.size ≤ b) w (zeroA, 0, e) (.returned (.tuple #[.agg #[.int .i64 0, .int .i64 0, .bool false, .int .i64 0, .int .i64 0, .int .i64 0, .slice none 0 0, .int .i64 0, .int .i64 0, .int .i64 0, .slice none 0 0, .slice none 0 0], .int .i64 0, .int .i64 e])) W' :=
  ⟨none, 0, none, 0, none, 0, rfl, AM.zero _ _ _ _ _ _, ((Keep.of_below h.2.2.2).trans hk (fun b _ e => by omega)).to_below (Nat.le_refl _)⟩
end
set_option maxHeartbeats 8000000 in
theorem rget_form (b : List UInt8) (v : Value) (F : Nat → Prop) (a : Nat) (w : World) (hv : By w F v b) (hn : b.length ≤ 1000000000) (ha : a < b.length) (h6 : 6 < byteA b a) :
    Calls Try.prog 112 #[v, .int .i64 (a : Nat)] w (OPost (fun x => F x ∨ w.heap.size ≤ x) w (oneQ b a)) := by
  have HV := Lib.hid hv
  have bx := bv_at (l := b) (k := a) ha
  obtain ⟨A, c, rfl, hbc, hcm, hnil, hrd⟩ := id hv
  obtain ⟨gb, go, rfl, -, q1⟩ := hrd.at_ (show a < b.length * 1 by omega)
  have c1 := q1 a _ bx.1
  have hd0 : (0 : Int) ≤ byteA b a := by unfold byteA; omega
  have hd1 : byteA b a ≤ 255 := by unfold byteA; have := (b.getD a 0).toNat_lt; omega
  have BA := Lib.hid (show ((b.getD a 0).toNat : Int) = byteA b a from rfl)
  rw [BA.out] at c1
  have c1o : ∀ o : Obj, (w.alloc o).cell? ⟨gb, go + a, none⟩ = some (.int .u8 (byteA b a)) := fun o => ((Keep.refl (fun _ => False) w).alloc o).cell (fun h => h) c1
  have HN := Lib.hid hn
  have HL := Lib.hid ha
  clear hv q1 bx hrd hnil hn
  have h00 : (0 : Int) ≤ (a : Int) := by omega
  have h01 : (a : Int) < (b.length : Int) := by omega
  obtain ⟨s, es⟩ : ∃ s : Nat, s = a + 1 := ⟨_, rfl⟩
  have es1 : (a : Int) + 1 = (s : Int) := by omega
  have hws : IntKind.i64.wrap (s : Int) = (s : Int) := IntWalk.i64_in _ (by have := HN.out; omega)
  have hsn : (s : Int) ≤ (b.length : Int) := by omega
  have hs0 : (0 : Int) ≤ (s : Int) := by omega
  have hn9 : b.length ≤ 1000000000 := HN.out
  have E := Lib.hid (show oneQ b a = (zeroA, 0, 11) by unfold oneQ; rw [if_pos h6])
  rw [E.out]
  clear E
  generalize byteA b a = d at *
  generalize b.length = n at *
  have ES := Lib.hid es
  clear es
  have hw : IntKind.i64.wrap d = d := IntWalk.i64_in _ (by omega)
  go_enter Try.func112, Try.ntmps112
  go_upto_region 2 with fail
  refine wp_world (S := fun X => QSt w X F ⟨d, zeroCm, 0, 0, 0, [], []⟩ (.slice none 0 0) (.slice none 0 0) (.slice none 0 0)) ⟨?c0, ?c1, AM.zero _ _ _ _ _ _, ?c2⟩ ?_
  case c0 => unfold Row12; ((try simp only [heap_drew']); (try simp only [World.heap_drewN]); repeat (first | (refine heap_alloc_at _ _ _ ?_; first | rfl | (simp; done)) | (refine (Below.heap_alloc _ _ _ ?_).trans ?_; (focus first | (simp; done) | (simp; omega)))))
  case c1 => unfold Ax; ((try simp only [heap_drew']); (try simp only [World.heap_drewN]); repeat (first | (refine heap_alloc_at _ _ _ ?_; first | rfl | (simp; done)) | (refine (Below.heap_alloc _ _ _ ?_).trans ?_; (focus first | (simp; done) | (simp; omega)))))
  case c2 => exact (by repeat first | exact Below.refl _ _ | refine Below.setCell ?_ (by first | omega | (simp; done) | (simp; omega)) _ | refine Below.alloc ?_ (by first | omega | (simp; done) | (simp; omega)) _ | refine Below.drew ?_ | refine below_drewN ?_ _ | assumption)
  intro X hX
  have HX := Lib.hid hX
  clear hX c1 c1o
  obtain ⟨x0, x1, x2, x3, x4, x5, x6, x7, x8, x9, x10, x11, xf⟩ := cells12 HX.out.2.1
  obtain ⟨r0, r1, r2, r3, r4, r5, r6, r7, r8, r9, r10, r11, rf⟩ := cells12 HX.out.1
  have XS := Lib.hid (HX.out.2.2.2.size)
  go_wp2
  have KK := keepS12 X w.heap.size (.int .i64 0) (.int .i64 0) (.bool false) (.int .i64 0) (.int .i64 0) (.int .i64 0) (.slice none 0 0) (.int .i64 0) (.int .i64 0) (.int .i64 0) (.slice none 0 0) (.slice none 0 0)
  have HS := stored12 (show Row12 X w.heap.size [.int .i64 0, .int .i64 0, .bool false, .int .i64 0, .int .i64 0, .int .i64 0, .slice none 0 0, .int .i64 0, .int .i64 0, .int .i64 0, .slice none 0 0, .slice none 0 0] from HX.out.1) (.int .i64 0) (.int .i64 0) (.bool false) (.int .i64 0) (.int .i64 0) (.int .i64 0) (.slice none 0 0) (.int .i64 0) (.int .i64 0) (.int .i64 0) (.slice none 0 0) (.slice none 0 0)
  generalize ((((((((((((X.setCell ⟨w.heap.size, 0, none⟩ (.int .i64 0)).setCell ⟨w.heap.size, 1, none⟩ (.int .i64 0)).setCell ⟨w.heap.size, 2, none⟩ (.bool false)).setCell ⟨w.heap.size, 3, none⟩ (.int .i64 0)).setCell ⟨w.heap.size, 4, none⟩ (.int .i64 0)).setCell ⟨w.heap.size, 5, none⟩ (.int .i64 0)).setCell ⟨w.heap.size, 6, none⟩ (.slice none 0 0)).setCell ⟨w.heap.size, 7, none⟩ (.int .i64 0)).setCell ⟨w.heap.size, 8, none⟩ (.int .i64 0)).setCell ⟨w.heap.size, 9, none⟩ (.int .i64 0)).setCell ⟨w.heap.size, 10, none⟩ (.slice none 0 0)).setCell ⟨w.heap.size, 11, none⟩ (.slice none 0 0)) = W7 at KK HS ⊢
  refine bodyPost_ret (results_act3 rfl _ _ w.heap.size _ _ _ _ _ _ _ _ _ _ _ _ rfl (by exact HS) _ _ rfl rfl) rfl ?_
  try simp only [Array.getD_eq_getD_getElem?, List.getElem?_toArray, List.getElem?_cons_succ, List.getElem?_cons_zero, Option.getD_some]
  with_reducible exact HX.out.zero KK 11
set_option maxHeartbeats 8000000 in
theorem rget_cmd (b : List UInt8) (v : Value) (F : Nat → Prop) (a : Nat) (w : World) (hv : By w F v b) (hn : b.length ≤ 1000000000) (ha : a < b.length) (h0 : byteA b a = 0) :
    Calls Try.prog 112 #[v, .int .i64 (a : Nat)] w (OPost (fun x => F x ∨ w.heap.size ≤ x) w (oneQ b a)) := by
  have HV := Lib.hid hv
  have bx := bv_at (l := b) (k := a) ha
  obtain ⟨A, c, rfl, hbc, hcm, hnil, hrd⟩ := id hv
  obtain ⟨gb, go, rfl, -, q1⟩ := hrd.at_ (show a < b.length * 1 by omega)
  have c1 := q1 a _ bx.1
  have hd0 : (0 : Int) ≤ byteA b a := by unfold byteA; omega
  have hd1 : byteA b a ≤ 255 := by unfold byteA; have := (b.getD a 0).toNat_lt; omega
  have BA := Lib.hid (show ((b.getD a 0).toNat : Int) = byteA b a from rfl)
  rw [BA.out] at c1
  have c1o : ∀ o : Obj, (w.alloc o).cell? ⟨gb, go + a, none⟩ = some (.int .u8 (byteA b a)) := fun o => ((Keep.refl (fun _ => False) w).alloc o).cell (fun h => h) c1
  have HN := Lib.hid hn
  have HL := Lib.hid ha
  clear hv q1 bx hrd hnil hn
  have h00 : (0 : Int) ≤ (a : Int) := by omega
  have h01 : (a : Int) < (b.length : Int) := by omega
  obtain ⟨s, es⟩ : ∃ s : Nat, s = a + 1 := ⟨_, rfl⟩
  have es1 : (a : Int) + 1 = (s : Int) := by omega
  have hws : IntKind.i64.wrap (s : Int) = (s : Int) := IntWalk.i64_in _ (by have := HN.out; omega)
  have hsn : (s : Int) ≤ (b.length : Int) := by omega
  have hs0 : (0 : Int) ≤ (s : Int) := by omega
  have hn9 : b.length ≤ 1000000000 := HN.out
  have E := Lib.hid (show oneQ b a = (⟨0, (refP b (s : Nat)).1, 0, 0, 0, [], []⟩, (refP b (s : Nat)).2.1, (refP b (s : Nat)).2.2) by unfold oneQ; rw [if_neg (by omega), if_pos h0, es])
  rw [E.out]
  clear E
  have GP := Lib.hid (fun W (hk : Keep (fun _ => False) w W) => rget_any b _ (fun k => F k ∧ k < w.heap.size) (s : Int) W ((HV.out.mono (fun k hk h => ⟨h, hk⟩)).keep hk (fun _ _ _ h => h)) (by have := HN.out; omega) (by omega) (by have := HN.out; omega))
  generalize refP b (s : Int) = r at *
  obtain ⟨y, nx, er⟩ := r
  generalize byteA b a = d at *
  subst h0
  generalize b.length = n at *
  have ES := Lib.hid es
  clear es
  have hw : IntKind.i64.wrap 0 = 0 := IntWalk.i64_in _ (by omega)
  go_enter Try.func112, Try.ntmps112
  go_upto_region 2 with fail
  refine wp_world (S := fun X => QSt w X F ⟨0, zeroCm, 0, 0, 0, [], []⟩ (.slice none 0 0) (.slice none 0 0) (.slice none 0 0)) ⟨?c0, ?c1, AM.zero _ _ _ _ _ _, ?c2⟩ ?_
  case c0 => unfold Row12; ((try simp only [heap_drew']); (try simp only [World.heap_drewN]); repeat (first | (refine heap_alloc_at _ _ _ ?_; first | rfl | (simp; done)) | (refine (Below.heap_alloc _ _ _ ?_).trans ?_; (focus first | (simp; done) | (simp; omega)))))
  case c1 => unfold Ax; ((try simp only [heap_drew']); (try simp only [World.heap_drewN]); repeat (first | (refine heap_alloc_at _ _ _ ?_; first | rfl | (simp; done)) | (refine (Below.heap_alloc _ _ _ ?_).trans ?_; (focus first | (simp; done) | (simp; omega)))))
  case c2 => exact (by repeat first | exact Below.refl _ _ | refine Below.setCell ?_ (by first | omega | (simp; done) | (simp; omega)) _ | refine Below.alloc ?_ (by first | omega | (simp; done) | (simp; omega)) _ | refine Below.drew ?_ | refine below_drewN ?_ _ | assumption)
  intro X hX
  have HX := Lib.hid hX
  clear hX c1 c1o
  obtain ⟨x0, x1, x2, x3, x4, x5, x6, x7, x8, x9, x10, x11, xf⟩ := cells12 HX.out.2.1
  obtain ⟨r0, r1, r2, r3, r4, r5, r6, r7, r8, r9, r10, r11, rf⟩ := cells12 HX.out.1
  have XS := Lib.hid (HX.out.2.2.2.size)
  have KX := Lib.hid (show Keep (fun _ => False) w X from Keep.of_below' HX.out.2.2.2)
  have GP1 := GP.out X KX.out
  unfold RGPost cmdV at GP1
  go_wp2_with fail
  with_reducible refine GP1.mono ?_
  rintro e w1 ⟨A2, n2, c2, rfl, hy, hb⟩
  have e2 : n2 = y.l.length := by
    obtain ⟨_, _, e2, _⟩ := id hy
    injection e2 with _ e2 _
  subst e2
  have H1 := Lib.hid (HX.out.same (Keep.of_below' hb))
  have HY := Lib.hid hy
  have hs1 := H1.out.lt
  clear hb hy GP1 GP x0 x1 x2 x3 x4 x5 x6 x7 x8 x9 x10 x11 xf r0 r1 r2 r3 r4 r5 r6 r7 r8 r9 r10 r11 rf
  obtain ⟨x0, x1, x2, x3, x4, x5, x6, x7, x8, x9, x10, x11, xf⟩ := cells12 H1.out.2.1
  obtain ⟨r0, r1, r2, r3, r4, r5, r6, r7, r8, r9, r10, r11, rf⟩ := cells12 H1.out.1
  go_upto_region 7 with fail
  refine wp_world (S := fun Z => QSt w Z F ⟨0, zeroCm, 0, 0, 0, [], []⟩ (.slice none 0 0) (.slice none 0 0) (.slice none 0 0) ∧ By Z (QG w F) (.slice A2 y.l.length c2) y.l ∧ Z.heap[w1.heap.size]? = some (.cells #[.int .i64 y.do_, .bool y.loc, .int .i64 y.idx, .int .i64 y.gen, .int .i64 y.comp, .slice A2 y.l.length c2] 39 (0, 0))) ⟨H1.out.same ((Keep.refl _ w1).alloc _), (HY.out.mono (fun b _ h => .inl h)).keep ((Keep.refl (fun _ => False) w1).alloc _) (fun _ _ _ h => h), heap_alloc_new w1 _⟩ ?_
  intro Z hZ
  have HZ := Lib.hid hZ
  generalize w1.heap.size = P at *
  clear hZ x0 x1 x2 x3 x4 x5 x6 x7 x8 x9 x10 x11 xf r0 r1 r2 r3 r4 r5 r6 r7 r8 r9 r10 r11 rf H1 HY
  obtain ⟨x0, x1, x2, x3, x4, x5, x6, x7, x8, x9, x10, x11, xf⟩ := cells12 HZ.out.1.2.1
  obtain ⟨r0, r1, r2, r3, r4, r5, r6, r7, r8, r9, r10, r11, rf⟩ := cells12 HZ.out.1.1
  obtain ⟨y0, y1, y2, y3, y4, y5, yf⟩ := cells6 HZ.out.2.2
  go_upto_region 8 with fail
  refine wp_world (S := fun Z2 => QSt w Z2 F ⟨0, y, 0, 0, 0, [], []⟩ (.slice A2 y.l.length c2) (.slice none 0 0) (.slice none 0 0)) ?c3 ?_
  case c3 =>
    obtain ⟨g1, g2⟩ := set_cmd HZ.out.1.2.1 y (.slice A2 y.l.length c2)
    exact ⟨(g2.block _ (Array.getElem?_eq_some_iff.1 HZ.out.1.1).1 (by omega)).trans HZ.out.1.1, g1, ⟨HZ.out.2.1.keep g2 (fun b _ hb e => by unfold QG at hb; omega), ML.nil _ _ _ _, ML.nil _ _ _ _⟩, ((Keep.of_below HZ.out.1.2.2.2).trans g2 (fun b _ e => by omega)).to_below (Nat.le_refl _)⟩
  intro Z2 hZ2
  have H2 := Lib.hid hZ2
  clear hZ2 HZ x0 x1 x2 x3 x4 x5 x6 x7 x8 x9 x10 x11 xf r0 r1 r2 r3 r4 r5 r6 r7 r8 r9 r10 r11 rf y0 y1 y2 y3 y4 y5 yf
  obtain ⟨x0, x1, x2, x3, x4, x5, x6, x7, x8, x9, x10, x11, xf⟩ := cells12 H2.out.2.1
  obtain ⟨r0, r1, r2, r3, r4, r5, r6, r7, r8, r9, r10, r11, rf⟩ := cells12 H2.out.1
  go_wp2
  have KK := keepS12 Z2 w.heap.size (.int .i64 0) (.int .i64 y.do_) (.bool y.loc) (.int .i64 y.idx) (.int .i64 y.gen) (.int .i64 y.comp) (.slice A2 y.l.length c2) (.int .i64 0) (.int .i64 0) (.int .i64 0) (.slice none 0 0) (.slice none 0 0)
  have HS := stored12 (show Row12 Z2 w.heap.size [.int .i64 0, .int .i64 0, .bool false, .int .i64 0, .int .i64 0, .int .i64 0, .slice none 0 0, .int .i64 0, .int .i64 0, .int .i64 0, .slice none 0 0, .slice none 0 0] from H2.out.1) (.int .i64 0) (.int .i64 y.do_) (.bool y.loc) (.int .i64 y.idx) (.int .i64 y.gen) (.int .i64 y.comp) (.slice A2 y.l.length c2) (.int .i64 0) (.int .i64 0) (.int .i64 0) (.slice none 0 0) (.slice none 0 0)
  generalize ((((((((((((Z2.setCell ⟨w.heap.size, 0, none⟩ (.int .i64 0)).setCell ⟨w.heap.size, 1, none⟩ (.int .i64 y.do_)).setCell ⟨w.heap.size, 2, none⟩ (.bool y.loc)).setCell ⟨w.heap.size, 3, none⟩ (.int .i64 y.idx)).setCell ⟨w.heap.size, 4, none⟩ (.int .i64 y.gen)).setCell ⟨w.heap.size, 5, none⟩ (.int .i64 y.comp)).setCell ⟨w.heap.size, 6, none⟩ (.slice A2 y.l.length c2)).setCell ⟨w.heap.size, 7, none⟩ (.int .i64 0)).setCell ⟨w.heap.size, 8, none⟩ (.int .i64 0)).setCell ⟨w.heap.size, 9, none⟩ (.int .i64 0)).setCell ⟨w.heap.size, 10, none⟩ (.slice none 0 0)).setCell ⟨w.heap.size, 11, none⟩ (.slice none 0 0)) = W7 at KK HS ⊢
  refine bodyPost_ret (results_act3 rfl _ _ w.heap.size _ _ _ _ _ _ _ _ _ _ _ _ rfl (by exact HS) _ _ rfl rfl) rfl ?_
  try simp only [Array.getD_eq_getD_getElem?, List.getElem?_toArray, List.getElem?_cons_succ, List.getElem?_cons_zero, Option.getD_some]
  have R := H2.out.fin KK
  exact ⟨A2, c2, none, 0, none, 0, rfl, R.1, R.2⟩
end Go.Proofs.Ythkgchlndfcmpaa
namespace Go.Proofs.Ythkgchlndfcmpaa
open Go.RowKit
set_option maxRecDepth 100000
set_option linter.unusedVariables false
set_option linter.unusedSimpArgs false
theorem numsQ_len (b : List UInt8) (a : Int) (n : Nat) (h : (numsQ b a n).2.2 = true) : (numsQ b a n).1.length = n := by
  unfold numsQ at h ⊢
  split at h
  · cases h
  · rename_i h2
    rw [if_neg h2]
    exact zsQ_len b a n
set_option maxHeartbeats 8000000 in
theorem rget_0 (b : List UInt8) (v : Value) (F : Nat → Prop) (a : Nat) (w : World) (hv : By w F v b) (hn : b.length ≤ 1000000000) (ha : a < b.length) (h1 : 1 ≤ byteA b a) (h6 : byteA b a ≤ 3) :
    Calls Try.prog 112 #[v, .int .i64 (a : Nat)] w (OPost (fun x => F x ∨ w.heap.size ≤ x) w (oneQ b a)) := by
  have HV := Lib.hid hv
  have bx := bv_at (l := b) (k := a) ha
  obtain ⟨A, c, rfl, hbc, hcm, hnil, hrd⟩ := id hv
  obtain ⟨gb, go, rfl, -, q1⟩ := hrd.at_ (show a < b.length * 1 by omega)
  have c1 := q1 a _ bx.1
  have hd0 : (0 : Int) ≤ byteA b a := by unfold byteA; omega
  have hd1 : byteA b a ≤ 255 := by unfold byteA; have := (b.getD a 0).toNat_lt; omega
  have BA := Lib.hid (show ((b.getD a 0).toNat : Int) = byteA b a from rfl)
  rw [BA.out] at c1
  have c1o : ∀ o : Obj, (w.alloc o).cell? ⟨gb, go + a, none⟩ = some (.int .u8 (byteA b a)) := fun o => ((Keep.refl (fun _ => False) w).alloc o).cell (fun h => h) c1
  have HN := Lib.hid hn
  have HL := Lib.hid ha
  clear hv q1 bx hrd hnil hn
  have h00 : (0 : Int) ≤ (a : Int) := by omega
  have h01 : (a : Int) < (b.length : Int) := by omega
  obtain ⟨s, es⟩ : ∃ s : Nat, s = a + 1 := ⟨_, rfl⟩
  have es1 : (a : Int) + 1 = (s : Int) := by omega
  have hws : IntKind.i64.wrap (s : Int) = (s : Int) := IntWalk.i64_in _ (by have := HN.out; omega)
  have hsn : (s : Int) ≤ (b.length : Int) := by omega
  have hs0 : (0 : Int) ≤ (s : Int) := by omega
  have hn9 : b.length ≤ 1000000000 := HN.out
  have E := Lib.hid (show oneQ b a = (if (numsQ b (s : Nat) 0).2.2 = true then (⟨byteA b a, zeroCm, 0, 0, 0, [], []⟩, (numsQ b (s : Nat) 0).2.1, 0) else (zeroA, 0, 12)) by unfold oneQ; rw [if_neg (by omega), if_neg (by omega), if_neg (by omega), if_neg (by omega), if_neg (by omega), es])
  rw [E.out]
  clear E
  have NU := Lib.hid (fun W (hk : Keep (fun _ => False) w W) => nums_any b _ F (s : Int) 0 W (HV.out.keep hk (fun _ _ _ h => h)) HN.out (by omega) (by have := HN.out; omega) (by omega))
  rw [show ((0 : Nat) : Int) = 0 from rfl] at NU
  have LN := Lib.hid (numsQ_len b (s : Int) 0)
  obtain ⟨res, hres⟩ : ∃ res : Ac × Int × Int, res = (if (numsQ b (s : Nat) 0).2.2 = true then (⟨byteA b a, zeroCm, 0, 0, 0, [], []⟩, (numsQ b (s : Nat) 0).2.1, 0) else (zeroA, 0, 12)) := ⟨_, rfl⟩
  rw [← hres]
  have RES := Lib.hid hres
  clear hres
  generalize numsQ b (s : Int) 0 = r at *
  obtain ⟨ls, nx, ok⟩ := r
  generalize byteA b a = d at *
  have e0 : (d == 0) = false := by simp; omega
  have e4 : (d == 4) = false := by simp; omega
  have e5 : (d == 5) = false := by simp; omega
  have e6 : (d == 6) = false := by simp; omega
  have e7 : ¬ 6 < d := by omega
  generalize b.length = n at *
  try simp only at NU LN RES
  have ES := Lib.hid es
  clear es
  have hw : IntKind.i64.wrap d = d := IntWalk.i64_in _ (by omega)
  go_enter Try.func112, Try.ntmps112
  go_upto_region 2 with fail
  refine wp_world (S := fun X => QSt w X F ⟨d, zeroCm, 0, 0, 0, [], []⟩ (.slice none 0 0) (.slice none 0 0) (.slice none 0 0)) ⟨?c0, ?c1, AM.zero _ _ _ _ _ _, ?c2⟩ ?_
  case c0 => unfold Row12; ((try simp only [heap_drew']); (try simp only [World.heap_drewN]); repeat (first | (refine heap_alloc_at _ _ _ ?_; first | rfl | (simp; done)) | (refine (Below.heap_alloc _ _ _ ?_).trans ?_; (focus first | (simp; done) | (simp; omega)))))
  case c1 => unfold Ax; ((try simp only [heap_drew']); (try simp only [World.heap_drewN]); repeat (first | (refine heap_alloc_at _ _ _ ?_; first | rfl | (simp; done)) | (refine (Below.heap_alloc _ _ _ ?_).trans ?_; (focus first | (simp; done) | (simp; omega)))))
  case c2 => exact (by repeat first | exact Below.refl _ _ | refine Below.setCell ?_ (by first | omega | (simp; done) | (simp; omega)) _ | refine Below.alloc ?_ (by first | omega | (simp; done) | (simp; omega)) _ | refine Below.drew ?_ | refine below_drewN ?_ _ | assumption)
  intro X hX
  have HX := Lib.hid hX
  clear hX c1 c1o
  obtain ⟨x0, x1, x2, x3, x4, x5, x6, x7, x8, x9, x10, x11, xf⟩ := cells12 HX.out.2.1
  obtain ⟨r0, r1, r2, r3, r4, r5, r6, r7, r8, r9, r10, r11, rf⟩ := cells12 HX.out.1
  have XS := Lib.hid (HX.out.2.2.2.size)
  have KX := Lib.hid (show Keep (fun _ => False) w X from Keep.of_below' HX.out.2.2.2)
  have N1 := NU.out X KX.out
  try simp only at N1
  go_wp2_with fail
  with_reducible refine N1.mono ?_
  rintro e w1 ⟨A1, c1, rfl, hm, hb⟩
  have H1 := Lib.hid (HX.out.same (Keep.of_below' hb))
  have hz1 := HX.out.lt
  have HM := Lib.hid (hm.mono (G := fun x => w.heap.size + 1 < x) (fun b _ h => by omega))
  clear hb hm N1 NU x0 x1 x2 x3 x4 x5 x6 x7 x8 x9 x10 x11 xf r0 r1 r2 r3 r4 r5 r6 r7 r8 r9 r10 r11 rf
  obtain ⟨x0, x1, x2, x3, x4, x5, x6, x7, x8, x9, x10, x11, xf⟩ := cells12 H1.out.2.1
  obtain ⟨r0, r1, r2, r3, r4, r5, r6, r7, r8, r9, r10, r11, rf⟩ := cells12 H1.out.1
  cases ok
  · have RE := Lib.hid (show res = (zeroA, 0, 12) from RES.out)
    go_wp2
    have KK := keepS12 w1 w.heap.size (.int .i64 0) (.int .i64 0) (.bool false) (.int .i64 0) (.int .i64 0) (.int .i64 0) (.slice none 0 0) (.int .i64 0) (.int .i64 0) (.int .i64 0) (.slice none 0 0) (.slice none 0 0)
    have HS := stored12 (show Row12 w1 w.heap.size [.int .i64 0, .int .i64 0, .bool false, .int .i64 0, .int .i64 0, .int .i64 0, .slice none 0 0, .int .i64 0, .int .i64 0, .int .i64 0, .slice none 0 0, .slice none 0 0] from H1.out.1) (.int .i64 0) (.int .i64 0) (.bool false) (.int .i64 0) (.int .i64 0) (.int .i64 0) (.slice none 0 0) (.int .i64 0) (.int .i64 0) (.int .i64 0) (.slice none 0 0) (.slice none 0 0)
    generalize ((((((((((((w1.setCell ⟨w.heap.size, 0, none⟩ (.int .i64 0)).setCell ⟨w.heap.size, 1, none⟩ (.int .i64 0)).setCell ⟨w.heap.size, 2, none⟩ (.bool false)).setCell ⟨w.heap.size, 3, none⟩ (.int .i64 0)).setCell ⟨w.heap.size, 4, none⟩ (.int .i64 0)).setCell ⟨w.heap.size, 5, none⟩ (.int .i64 0)).setCell ⟨w.heap.size, 6, none⟩ (.slice none 0 0)).setCell ⟨w.heap.size, 7, none⟩ (.int .i64 0)).setCell ⟨w.heap.size, 8, none⟩ (.int .i64 0)).setCell ⟨w.heap.size, 9, none⟩ (.int .i64 0)).setCell ⟨w.heap.size, 10, none⟩ (.slice none 0 0)).setCell ⟨w.heap.size, 11, none⟩ (.slice none 0 0)) = W7 at KK HS ⊢
    refine bodyPost_ret (results_act3 rfl _ _ w.heap.size _ _ _ _ _ _ _ _ _ _ _ _ rfl (by exact HS) _ _ rfl rfl) rfl ?_
    try simp only [Array.getD_eq_getD_getElem?, List.getElem?_toArray, List.getElem?_cons_succ, List.getElem?_cons_zero, Option.getD_some]
    rw [RE.out]
    with_reducible exact H1.out.zero KK 12
  · have RE := Lib.hid (show res = (⟨d, zeroCm, 0, 0, 0, [], []⟩, nx, 0) from RES.out)
    have hl := LN.out rfl
    go_wp2
    have KK := keepS12 w1 w.heap.size (.int .i64 d) (.int .i64 zeroCm.do_) (.bool zeroCm.loc) (.int .i64 zeroCm.idx) (.int .i64 zeroCm.gen) (.int .i64 zeroCm.comp) (.slice none 0 0) (.int .i64 0) (.int .i64 0) (.int .i64 0) (.slice none 0 0) (.slice none 0 0)
    have HS := stored12 (show Row12 w1 w.heap.size [.int .i64 0, .int .i64 0, .bool false, .int .i64 0, .int .i64 0, .int .i64 0, .slice none 0 0, .int .i64 0, .int .i64 0, .int .i64 0, .slice none 0 0, .slice none 0 0] from H1.out.1) (.int .i64 d) (.int .i64 zeroCm.do_) (.bool zeroCm.loc) (.int .i64 zeroCm.idx) (.int .i64 zeroCm.gen) (.int .i64 zeroCm.comp) (.slice none 0 0) (.int .i64 0) (.int .i64 0) (.int .i64 0) (.slice none 0 0) (.slice none 0 0)
    generalize ((((((((((((w1.setCell ⟨w.heap.size, 0, none⟩ (.int .i64 d)).setCell ⟨w.heap.size, 1, none⟩ (.int .i64 zeroCm.do_)).setCell ⟨w.heap.size, 2, none⟩ (.bool zeroCm.loc)).setCell ⟨w.heap.size, 3, none⟩ (.int .i64 zeroCm.idx)).setCell ⟨w.heap.size, 4, none⟩ (.int .i64 zeroCm.gen)).setCell ⟨w.heap.size, 5, none⟩ (.int .i64 zeroCm.comp)).setCell ⟨w.heap.size, 6, none⟩ (.slice none 0 0)).setCell ⟨w.heap.size, 7, none⟩ (.int .i64 0)).setCell ⟨w.heap.size, 8, none⟩ (.int .i64 0)).setCell ⟨w.heap.size, 9, none⟩ (.int .i64 0)).setCell ⟨w.heap.size, 10, none⟩ (.slice none 0 0)).setCell ⟨w.heap.size, 11, none⟩ (.slice none 0 0)) = W7 at KK HS ⊢
    refine bodyPost_ret (results_act3 rfl _ _ w.heap.size _ _ _ _ _ _ _ _ _ _ _ _ rfl (by exact HS) _ _ rfl rfl) rfl ?_
    try simp only [Array.getD_eq_getD_getElem?, List.getElem?_toArray, List.getElem?_cons_succ, List.getElem?_cons_zero, Option.getD_some]
    rw [RE.out]
    with_reducible exact H1.out.ret0 KK _ _ _ _ _ _
set_option maxHeartbeats 8000000 in
theorem rget_5 (b : List UInt8) (v : Value) (F : Nat → Prop) (a : Nat) (w : World) (hv : By w F v b) (hn : b.length ≤ 1000000000) (ha : a < b.length) (h0 : byteA b a = 5) :
    Calls Try.prog 112 #[v, .int .i64 (a : Nat)] w (OPost (fun x => F x ∨ w.heap.size ≤ x) w (oneQ b a)) := by
  have HV := Lib.hid hv
  have bx := bv_at (l := b) (k := a) ha
  obtain ⟨A, c, rfl, hbc, hcm, hnil, hrd⟩ := id hv
  obtain ⟨gb, go, rfl, -, q1⟩ := hrd.at_ (show a < b.length * 1 by omega)
  have c1 := q1 a _ bx.1
  have hd0 : (0 : Int) ≤ byteA b a := by unfold byteA; omega
  have hd1 : byteA b a ≤ 255 := by unfold byteA; have := (b.getD a 0).toNat_lt; omega
  have BA := Lib.hid (show ((b.getD a 0).toNat : Int) = byteA b a from rfl)
  rw [BA.out] at c1
  have c1o : ∀ o : Obj, (w.alloc o).cell? ⟨gb, go + a, none⟩ = some (.int .u8 (byteA b a)) := fun o => ((Keep.refl (fun _ => False) w).alloc o).cell (fun h => h) c1
  have HN := Lib.hid hn
  have HL := Lib.hid ha
  clear hv q1 bx hrd hnil hn
  have h00 : (0 : Int) ≤ (a : Int) := by omega
  have h01 : (a : Int) < (b.length : Int) := by omega
  obtain ⟨s, es⟩ : ∃ s : Nat, s = a + 1 := ⟨_, rfl⟩
  have es1 : (a : Int) + 1 = (s : Int) := by omega
  have hws : IntKind.i64.wrap (s : Int) = (s : Int) := IntWalk.i64_in _ (by have := HN.out; omega)
  have hsn : (s : Int) ≤ (b.length : Int) := by omega
  have hs0 : (0 : Int) ≤ (s : Int) := by omega
  have hn9 : b.length ≤ 1000000000 := HN.out
  have E := Lib.hid (show oneQ b a = (if (numsQ b (s : Nat) 1).2.2 = true then (⟨5, zeroCm, 0, 0, (numsQ b (s : Nat) 1).1.getD 0 0, [], []⟩, (numsQ b (s : Nat) 1).2.1, 0) else (zeroA, 0, 12)) by unfold oneQ; rw [if_neg (by omega), if_neg (by omega), if_neg (by omega), if_neg (by omega), if_pos h0, es])
  rw [E.out]
  clear E
  have NU := Lib.hid (fun W (hk : Keep (fun _ => False) w W) => nums_any b _ F (s : Int) 1 W (HV.out.keep hk (fun _ _ _ h => h)) HN.out (by omega) (by have := HN.out; omega) (by omega))
  rw [show ((1 : Nat) : Int) = 1 from rfl] at NU
  have LN := Lib.hid (numsQ_len b (s : Int) 1)
  obtain ⟨res, hres⟩ : ∃ res : Ac × Int × Int, res = (if (numsQ b (s : Nat) 1).2.2 = true then (⟨5, zeroCm, 0, 0, (numsQ b (s : Nat) 1).1.getD 0 0, [], []⟩, (numsQ b (s : Nat) 1).2.1, 0) else (zeroA, 0, 12)) := ⟨_, rfl⟩
  rw [← hres]
  have RES := Lib.hid hres
  clear hres
  generalize numsQ b (s : Int) 1 = r at *
  obtain ⟨ls, nx, ok⟩ := r
  generalize byteA b a = d at *
  subst h0
  generalize b.length = n at *
  try simp only at NU LN RES
  have ES := Lib.hid es
  clear es
  have hw : IntKind.i64.wrap 5 = 5 := IntWalk.i64_in _ (by omega)
  go_enter Try.func112, Try.ntmps112
  go_upto_region 2 with fail
  refine wp_world (S := fun X => QSt w X F ⟨5, zeroCm, 0, 0, 0, [], []⟩ (.slice none 0 0) (.slice none 0 0) (.slice none 0 0)) ⟨?c0, ?c1, AM.zero _ _ _ _ _ _, ?c2⟩ ?_
  case c0 => unfold Row12; ((try simp only [heap_drew']); (try simp only [World.heap_drewN]); repeat (first | (refine heap_alloc_at _ _ _ ?_; first | rfl | (simp; done)) | (refine (Below.heap_alloc _ _ _ ?_).trans ?_; (focus first | (simp; done) | (simp; omega)))))
  case c1 => unfold Ax; ((try simp only [heap_drew']); (try simp only [World.heap_drewN]); repeat (first | (refine heap_alloc_at _ _ _ ?_; first | rfl | (simp; done)) | (refine (Below.heap_alloc _ _ _ ?_).trans ?_; (focus first | (simp; done) | (simp; omega)))))
  case c2 => exact (by repeat first | exact Below.refl _ _ | refine Below.setCell ?_ (by first | omega | (simp; done) | (simp; omega)) _ | refine Below.alloc ?_ (by first | omega | (simp; done) | (simp; omega)) _ | refine Below.drew ?_ | refine below_drewN ?_ _ | assumption)
  intro X hX
  have HX := Lib.hid hX
  clear hX c1 c1o
  obtain ⟨x0, x1, x2, x3, x4, x5, x6, x7, x8, x9, x10, x11, xf⟩ := cells12 HX.out.2.1
  obtain ⟨r0, r1, r2, r3, r4, r5, r6, r7, r8, r9, r10, r11, rf⟩ := cells12 HX.out.1
  have XS := Lib.hid (HX.out.2.2.2.size)
  have KX := Lib.hid (show Keep (fun _ => False) w X from Keep.of_below' HX.out.2.2.2)
  have N1 := NU.out X KX.out
  try simp only at N1
  go_wp2_with fail
  with_reducible refine N1.mono ?_
  rintro e w1 ⟨A1, c1, rfl, hm, hb⟩
  have H1 := Lib.hid (HX.out.same (Keep.of_below' hb))
  have hz1 := HX.out.lt
  have HM := Lib.hid (hm.mono (G := fun x => w.heap.size + 1 < x) (fun b _ h => by omega))
  clear hb hm N1 NU x0 x1 x2 x3 x4 x5 x6 x7 x8 x9 x10 x11 xf r0 r1 r2 r3 r4 r5 r6 r7 r8 r9 r10 r11 rf
  obtain ⟨x0, x1, x2, x3, x4, x5, x6, x7, x8, x9, x10, x11, xf⟩ := cells12 H1.out.2.1
  obtain ⟨r0, r1, r2, r3, r4, r5, r6, r7, r8, r9, r10, r11, rf⟩ := cells12 H1.out.1
  cases ok
  · have RE := Lib.hid (show res = (zeroA, 0, 12) from RES.out)
    go_wp2
    have KK := keepS12 w1 w.heap.size (.int .i64 0) (.int .i64 0) (.bool false) (.int .i64 0) (.int .i64 0) (.int .i64 0) (.slice none 0 0) (.int .i64 0) (.int .i64 0) (.int .i64 0) (.slice none 0 0) (.slice none 0 0)
    have HS := stored12 (show Row12 w1 w.heap.size [.int .i64 0, .int .i64 0, .bool false, .int .i64 0, .int .i64 0, .int .i64 0, .slice none 0 0, .int .i64 0, .int .i64 0, .int .i64 0, .slice none 0 0, .slice none 0 0] from H1.out.1) (.int .i64 0) (.int .i64 0) (.bool false) (.int .i64 0) (.int .i64 0) (.int .i64 0) (.slice none 0 0) (.int .i64 0) (.int .i64 0) (.int .i64 0) (.slice none 0 0) (.slice none 0 0)
    generalize ((((((((((((w1.setCell ⟨w.heap.size, 0, none⟩ (.int .i64 0)).setCell ⟨w.heap.size, 1, none⟩ (.int .i64 0)).setCell ⟨w.heap.size, 2, none⟩ (.bool false)).setCell ⟨w.heap.size, 3, none⟩ (.int .i64 0)).setCell ⟨w.heap.size, 4, none⟩ (.int .i64 0)).setCell ⟨w.heap.size, 5, none⟩ (.int .i64 0)).setCell ⟨w.heap.size, 6, none⟩ (.slice none 0 0)).setCell ⟨w.heap.size, 7, none⟩ (.int .i64 0)).setCell ⟨w.heap.size, 8, none⟩ (.int .i64 0)).setCell ⟨w.heap.size, 9, none⟩ (.int .i64 0)).setCell ⟨w.heap.size, 10, none⟩ (.slice none 0 0)).setCell ⟨w.heap.size, 11, none⟩ (.slice none 0 0)) = W7 at KK HS ⊢
    refine bodyPost_ret (results_act3 rfl _ _ w.heap.size _ _ _ _ _ _ _ _ _ _ _ _ rfl (by exact HS) _ _ rfl rfl) rfl ?_
    try simp only [Array.getD_eq_getD_getElem?, List.getElem?_toArray, List.getElem?_cons_succ, List.getElem?_cons_zero, Option.getD_some]
    rw [RE.out]
    with_reducible exact H1.out.zero KK 12
  · have RE := Lib.hid (show res = (⟨5, zeroCm, 0, 0, ls.getD 0 0, [], []⟩, nx, 0) from RES.out)
    have hl := LN.out rfl
    obtain ⟨z, rfl⟩ : ∃ z, ls = [z] := List.length_eq_one_iff.1 hl
    obtain ⟨bb, oo, y, rfl, hF, hx, hcs⟩ := ML.at_ icells_len (by decide) HM.out (k := 0) (by simp)
    obtain rfl : z = y := by simpa using hx
    have cz : w1.cell? ⟨bb, oo, none⟩ = some (.int .i64 z) := by simpa using hcs 0 _ rfl
    have HF := Lib.hid hF
    clear hcs hx hF hl
    go_upto_region 34 with fail
    refine wp_world (S := fun Z => QSt w Z F ⟨5, zeroCm, 0, 0, z, [], []⟩ (.slice none 0 0) (.slice none 0 0) (.slice none 0 0)) (H1.out.set 9 (.int .i64 z) (AM.zero _ _ _ _ _ _) rfl) ?_
    intro Z hZ
    have HZ := Lib.hid hZ
    clear hZ x0 x1 x2 x3 x4 x5 x6 x7 x8 x9 x10 x11 xf r0 r1 r2 r3 r4 r5 r6 r7 r8 r9 r10 r11 rf cz
    obtain ⟨x0, x1, x2, x3, x4, x5, x6, x7, x8, x9, x10, x11, xf⟩ := cells12 HZ.out.2.1
    obtain ⟨r0, r1, r2, r3, r4, r5, r6, r7, r8, r9, r10, r11, rf⟩ := cells12 HZ.out.1
    go_wp2
    have KK := keepS12 Z w.heap.size (.int .i64 5) (.int .i64 zeroCm.do_) (.bool zeroCm.loc) (.int .i64 zeroCm.idx) (.int .i64 zeroCm.gen) (.int .i64 zeroCm.comp) (.slice none 0 0) (.int .i64 0) (.int .i64 0) (.int .i64 z) (.slice none 0 0) (.slice none 0 0)
    have HS := stored12 (show Row12 Z w.heap.size [.int .i64 0, .int .i64 0, .bool false, .int .i64 0, .int .i64 0, .int .i64 0, .slice none 0 0, .int .i64 0, .int .i64 0, .int .i64 0, .slice none 0 0, .slice none 0 0] from HZ.out.1) (.int .i64 5) (.int .i64 zeroCm.do_) (.bool zeroCm.loc) (.int .i64 zeroCm.idx) (.int .i64 zeroCm.gen) (.int .i64 zeroCm.comp) (.slice none 0 0) (.int .i64 0) (.int .i64 0) (.int .i64 z) (.slice none 0 0) (.slice none 0 0)
    generalize ((((((((((((Z.setCell ⟨w.heap.size, 0, none⟩ (.int .i64 5)).setCell ⟨w.heap.size, 1, none⟩ (.int .i64 zeroCm.do_)).setCell ⟨w.heap.size, 2, none⟩ (.bool zeroCm.loc)).setCell ⟨w.heap.size, 3, none⟩ (.int .i64 zeroCm.idx)).setCell ⟨w.heap.size, 4, none⟩ (.int .i64 zeroCm.gen)).setCell ⟨w.heap.size, 5, none⟩ (.int .i64 zeroCm.comp)).setCell ⟨w.heap.size, 6, none⟩ (.slice none 0 0)).setCell ⟨w.heap.size, 7, none⟩ (.int .i64 0)).setCell ⟨w.heap.size, 8, none⟩ (.int .i64 0)).setCell ⟨w.heap.size, 9, none⟩ (.int .i64 z)).setCell ⟨w.heap.size, 10, none⟩ (.slice none 0 0)).setCell ⟨w.heap.size, 11, none⟩ (.slice none 0 0)) = W7 at KK HS ⊢
    refine bodyPost_ret (results_act3 rfl _ _ w.heap.size _ _ _ _ _ _ _ _ _ _ _ _ rfl (by exact HS) _ _ rfl rfl) rfl ?_
    try simp only [Array.getD_eq_getD_getElem?, List.getElem?_toArray, List.getElem?_cons_succ, List.getElem?_cons_zero, Option.getD_some]
    rw [RE.out]
    show OPost _ _ (⟨5, zeroCm, 0, 0, z, [], []⟩, nx, 0) _ _
    with_reducible exact HZ.out.ret0 KK _ _ _ _ _ _
set_option maxHeartbeats 8000000 in
theorem rget_4 (b : List UInt8) (v : Value) (F : Nat → Prop) (a : Nat) (w : World) (hv : By w F v b) (hn : b.length ≤ 1000000000) (ha : a < b.length) (h0 : byteA b a = 4) :
    Calls Try.prog 112 #[v, .int .i64 (a : Nat)] w (OPost (fun x => F x ∨ w.heap.size ≤ x) w (oneQ b a)) := by
  have HV := Lib.hid hv
  have bx := bv_at (l := b) (k := a) ha
  obtain ⟨A, c, rfl, hbc, hcm, hnil, hrd⟩ := id hv
  obtain ⟨gb, go, rfl, -, q1⟩ := hrd.at_ (show a < b.length * 1 by omega)
  have c1 := q1 a _ bx.1
  have hd0 : (0 : Int) ≤ byteA b a := by unfold byteA; omega
  have hd1 : byteA b a ≤ 255 := by unfold byteA; have := (b.getD a 0).toNat_lt; omega
  have BA := Lib.hid (show ((b.getD a 0).toNat : Int) = byteA b a from rfl)
  rw [BA.out] at c1
  have c1o : ∀ o : Obj, (w.alloc o).cell? ⟨gb, go + a, none⟩ = some (.int .u8 (byteA b a)) := fun o => ((Keep.refl (fun _ => False) w).alloc o).cell (fun h => h) c1
  have HN := Lib.hid hn
  have HL := Lib.hid ha
  clear hv q1 bx hrd hnil hn
  have h00 : (0 : Int) ≤ (a : Int) := by omega
  have h01 : (a : Int) < (b.length : Int) := by omega
  obtain ⟨s, es⟩ : ∃ s : Nat, s = a + 1 := ⟨_, rfl⟩
  have es1 : (a : Int) + 1 = (s : Int) := by omega
  have hws : IntKind.i64.wrap (s : Int) = (s : Int) := IntWalk.i64_in _ (by have := HN.out; omega)
  have hsn : (s : Int) ≤ (b.length : Int) := by omega
  have hs0 : (0 : Int) ≤ (s : Int) := by omega
  have hn9 : b.length ≤ 1000000000 := HN.out
  have E := Lib.hid (show oneQ b a = (if (numsQ b (s : Nat) 2).2.2 = true then (⟨4, zeroCm, (numsQ b (s : Nat) 2).1.getD 0 0, (numsQ b (s : Nat) 2).1.getD 1 0, 0, [], []⟩, (numsQ b (s : Nat) 2).2.1, 0) else (zeroA, 0, 12)) by unfold oneQ; rw [if_neg (by omega), if_neg (by omega), if_neg (by omega), if_pos h0, es])
  rw [E.out]
  clear E
  have NU := Lib.hid (fun W (hk : Keep (fun _ => False) w W) => nums_any b _ F (s : Int) 2 W (HV.out.keep hk (fun _ _ _ h => h)) HN.out (by omega) (by have := HN.out; omega) (by omega))
  rw [show ((2 : Nat) : Int) = 2 from rfl] at NU
  have LN := Lib.hid (numsQ_len b (s : Int) 2)
  obtain ⟨res, hres⟩ : ∃ res : Ac × Int × Int, res = (if (numsQ b (s : Nat) 2).2.2 = true then (⟨4, zeroCm, (numsQ b (s : Nat) 2).1.getD 0 0, (numsQ b (s : Nat) 2).1.getD 1 0, 0, [], []⟩, (numsQ b (s : Nat) 2).2.1, 0) else (zeroA, 0, 12)) := ⟨_, rfl⟩
  rw [← hres]
  have RES := Lib.hid hres
  clear hres
  generalize numsQ b (s : Int) 2 = r at *
  obtain ⟨ls, nx, ok⟩ := r
  generalize byteA b a = d at *
  subst h0
  generalize b.length = n at *
  try simp only at NU LN RES
  have ES := Lib.hid es
  clear es
  have hw : IntKind.i64.wrap 4 = 4 := IntWalk.i64_in _ (by omega)
  go_enter Try.func112, Try.ntmps112
  go_upto_region 2 with fail
  refine wp_world (S := fun X => QSt w X F ⟨4, zeroCm, 0, 0, 0, [], []⟩ (.slice none 0 0) (.slice none 0 0) (.slice none 0 0)) ⟨?c0, ?c1, AM.zero _ _ _ _ _ _, ?c2⟩ ?_
  case c0 => unfold Row12; ((try simp only [heap_drew']); (try simp only [World.heap_drewN]); repeat (first | (refine heap_alloc_at _ _ _ ?_; first | rfl | (simp; done)) | (refine (Below.heap_alloc _ _ _ ?_).trans ?_; (focus first | (simp; done) | (simp; omega)))))
  case c1 => unfold Ax; ((try simp only [heap_drew']); (try simp only [World.heap_drewN]); repeat (first | (refine heap_alloc_at _ _ _ ?_; first | rfl | (simp; done)) | (refine (Below.heap_alloc _ _ _ ?_).trans ?_; (focus first | (simp; done) | (simp; omega)))))
  case c2 => exact (by repeat first | exact Below.refl _ _ | refine Below.setCell ?_ (by first | omega | (simp; done) | (simp; omega)) _ | refine Below.alloc ?_ (by first | omega | (simp; done) | (simp; omega)) _ | refine Below.drew ?_ | refine below_drewN ?_ _ | assumption)
  intro X hX
  have HX := Lib.hid hX
  clear hX c1 c1o
  obtain ⟨x0, x1, x2, x3, x4, x5, x6, x7, x8, x9, x10, x11, xf⟩ := cells12 HX.out.2.1
  obtain ⟨r0, r1, r2, r3, r4, r5, r6, r7, r8, r9, r10, r11, rf⟩ := cells12 HX.out.1
  have XS := Lib.hid (HX.out.2.2.2.size)
  have KX := Lib.hid (show Keep (fun _ => False) w X from Keep.of_below' HX.out.2.2.2)
  have N1 := NU.out X KX.out
  try simp only at N1
  go_wp2_with fail
  with_reducible refine N1.mono ?_
  rintro e w1 ⟨A1, c1, rfl, hm, hb⟩
  have H1 := Lib.hid (HX.out.same (Keep.of_below' hb))
  have hz1 := HX.out.lt
  have HM := Lib.hid (hm.mono (G := fun x => w.heap.size + 1 < x) (fun b _ h => by omega))
  clear hb hm N1 NU x0 x1 x2 x3 x4 x5 x6 x7 x8 x9 x10 x11 xf r0 r1 r2 r3 r4 r5 r6 r7 r8 r9 r10 r11 rf
  obtain ⟨x0, x1, x2, x3, x4, x5, x6, x7, x8, x9, x10, x11, xf⟩ := cells12 H1.out.2.1
  obtain ⟨r0, r1, r2, r3, r4, r5, r6, r7, r8, r9, r10, r11, rf⟩ := cells12 H1.out.1
  cases ok
  · have RE := Lib.hid (show res = (zeroA, 0, 12) from RES.out)
    go_wp2
    have KK := keepS12 w1 w.heap.size (.int .i64 0) (.int .i64 0) (.bool false) (.int .i64 0) (.int .i64 0) (.int .i64 0) (.slice none 0 0) (.int .i64 0) (.int .i64 0) (.int .i64 0) (.slice none 0 0) (.slice none 0 0)
    have HS := stored12 (show Row12 w1 w.heap.size [.int .i64 0, .int .i64 0, .bool false, .int .i64 0, .int .i64 0, .int .i64 0, .slice none 0 0, .int .i64 0, .int .i64 0, .int .i64 0, .slice none 0 0, .slice none 0 0] from H1.out.1) (.int .i64 0) (.int .i64 0) (.bool false) (.int .i64 0) (.int .i64 0) (.int .i64 0) (.slice none 0 0) (.int .i64 0) (.int .i64 0) (.int .i64 0) (.slice none 0 0) (.slice none 0 0)
    generalize ((((((((((((w1.setCell ⟨w.heap.size, 0, none⟩ (.int .i64 0)).setCell ⟨w.heap.size, 1, none⟩ (.int .i64 0)).setCell ⟨w.heap.size, 2, none⟩ (.bool false)).setCell ⟨w.heap.size, 3, none⟩ (.int .i64 0)).setCell ⟨w.heap.size, 4, none⟩ (.int .i64 0)).setCell ⟨w.heap.size, 5, none⟩ (.int .i64 0)).setCell ⟨w.heap.size, 6, none⟩ (.slice none 0 0)).setCell ⟨w.heap.size, 7, none⟩ (.int .i64 0)).setCell ⟨w.heap.size, 8, none⟩ (.int .i64 0)).setCell ⟨w.heap.size, 9, none⟩ (.int .i64 0)).setCell ⟨w.heap.size, 10, none⟩ (.slice none 0 0)).setCell ⟨w.heap.size, 11, none⟩ (.slice none 0 0)) = W7 at KK HS ⊢
    refine bodyPost_ret (results_act3 rfl _ _ w.heap.size _ _ _ _ _ _ _ _ _ _ _ _ rfl (by exact HS) _ _ rfl rfl) rfl ?_
    try simp only [Array.getD_eq_getD_getElem?, List.getElem?_toArray, List.getElem?_cons_succ, List.getElem?_cons_zero, Option.getD_some]
    rw [RE.out]
    with_reducible exact H1.out.zero KK 12
  · have RE := Lib.hid (show res = (⟨4, zeroCm, ls.getD 0 0, ls.getD 1 0, 0, [], []⟩, nx, 0) from RES.out)
    have hl := LN.out rfl
    obtain ⟨z0, z1, rfl⟩ : ∃ z0 z1, ls = [z0, z1] := by match ls, hl with | [p, q], _ => exact ⟨p, q, rfl⟩
    obtain ⟨bb, oo, y, rfl, hF, hx, hcs⟩ := ML.at_ icells_len (by decide) HM.out (k := 0) (by simp)
    obtain rfl : z0 = y := by simpa using hx
    have cz0 : w1.cell? ⟨bb, oo, none⟩ = some (.int .i64 z0) := by simpa using hcs 0 _ rfl
    obtain ⟨bb2, oo2, y, e2, -, hx, hcs⟩ := ML.at_ icells_len (by decide) HM.out (k := 1) (by simp)
    obtain rfl : z1 = y := by simpa using hx
    have cz1 : w1.cell? ⟨bb, oo + 1, none⟩ = some (.int .i64 z1) := by
      injection e2 with e2
      injection e2 with e2 e3
      subst e2 e3
      simpa using hcs 0 _ rfl
    have HF := Lib.hid hF
    clear hcs hx hF hl e2
    go_upto_region 31 with fail
    have Q := Lib.hid (((H1.out).set (x' := ⟨4, zeroCm, z0, 0, 0, [], []⟩) 7 (.int .i64 z0) (AM.zero _ _ _ _ _ _) rfl).set (x' := ⟨4, zeroCm, z0, z1, 0, [], []⟩) 8 (.int .i64 z1) (AM.zero _ _ _ _ _ _) rfl)
    go_region
    go_upto_region 32 with fail
    refine wp_world (S := fun Z => QSt w Z F ⟨4, zeroCm, z0, z1, 0, [], []⟩ (.slice none 0 0) (.slice none 0 0) (.slice none 0 0)) (by first | (with_reducible exact Q.out) | (with_reducible exact Q.out.same ((Keep.refl _ _).drew)) | fail) ?_
    intro Z hZ
    have HZ := Lib.hid hZ
    clear hZ x0 x1 x2 x3 x4 x5 x6 x7 x8 x9 x10 x11 xf r0 r1 r2 r3 r4 r5 r6 r7 r8 r9 r10 r11 rf cz0 cz1
    obtain ⟨x0, x1, x2, x3, x4, x5, x6, x7, x8, x9, x10, x11, xf⟩ := cells12 HZ.out.2.1
    obtain ⟨r0, r1, r2, r3, r4, r5, r6, r7, r8, r9, r10, r11, rf⟩ := cells12 HZ.out.1
    go_wp2
    have KK := keepS12 Z w.heap.size (.int .i64 4) (.int .i64 zeroCm.do_) (.bool zeroCm.loc) (.int .i64 zeroCm.idx) (.int .i64 zeroCm.gen) (.int .i64 zeroCm.comp) (.slice none 0 0) (.int .i64 z0) (.int .i64 z1) (.int .i64 0) (.slice none 0 0) (.slice none 0 0)
    have HS := stored12 (show Row12 Z w.heap.size [.int .i64 0, .int .i64 0, .bool false, .int .i64 0, .int .i64 0, .int .i64 0, .slice none 0 0, .int .i64 0, .int .i64 0, .int .i64 0, .slice none 0 0, .slice none 0 0] from HZ.out.1) (.int .i64 4) (.int .i64 zeroCm.do_) (.bool zeroCm.loc) (.int .i64 zeroCm.idx) (.int .i64 zeroCm.gen) (.int .i64 zeroCm.comp) (.slice none 0 0) (.int .i64 z0) (.int .i64 z1) (.int .i64 0) (.slice none 0 0) (.slice none 0 0)
    generalize ((((((((((((Z.setCell ⟨w.heap.size, 0, none⟩ (.int .i64 4)).setCell ⟨w.heap.size, 1, none⟩ (.int .i64 zeroCm.do_)).setCell ⟨w.heap.size, 2, none⟩ (.bool zeroCm.loc)).setCell ⟨w.heap.size, 3, none⟩ (.int .i64 zeroCm.idx)).setCell ⟨w.heap.size, 4, none⟩ (.int .i64 zeroCm.gen)).setCell ⟨w.heap.size, 5, none⟩ (.int .i64 zeroCm.comp)).setCell ⟨w.heap.size, 6, none⟩ (.slice none 0 0)).setCell ⟨w.heap.size, 7, none⟩ (.int .i64 z0)).setCell ⟨w.heap.size, 8, none⟩ (.int .i64 z1)).setCell ⟨w.heap.size, 9, none⟩ (.int .i64 0)).setCell ⟨w.heap.size, 10, none⟩ (.slice none 0 0)).setCell ⟨w.heap.size, 11, none⟩ (.slice none 0 0)) = W7 at KK HS ⊢
    refine bodyPost_ret (results_act3 rfl _ _ w.heap.size _ _ _ _ _ _ _ _ _ _ _ _ rfl (by exact HS) _ _ rfl rfl) rfl ?_
    try simp only [Array.getD_eq_getD_getElem?, List.getElem?_toArray, List.getElem?_cons_succ, List.getElem?_cons_zero, Option.getD_some]
    rw [RE.out]
    show OPost _ _ (⟨4, zeroCm, z0, z1, 0, [], []⟩, nx, 0) _ _
    with_reducible exact HZ.out.ret0 KK _ _ _ _ _ _
end Go.Proofs.Ythkgchlndfcmpaa
namespace Go.Proofs.Ythkgchlndfcmpaa
open Go.RowKit
set_option maxRecDepth 100000
set_option linter.unusedVariables false
set_option linter.unusedSimpArgs false

theorem getZ2 (l : List UInt8) (a : Int) : ∃ n : Nat, getZ l a 2 = n ∧ n ≤ 65535 := by
  unfold getZ
  split
  · have : getN (pieceOf l a.toNat 2) < 65536 := Nat.lt_of_lt_of_le (getN_lt _) (Nat.le_trans (Nat.pow_le_pow_right (by decide) (List.length_take_le _ _)) (by decide))
    rw [show wideN 2 = 2 from rfl]
    exact ⟨getN (pieceOf l a.toNat 2), by unfold wrap64; omega, by omega⟩
  · exact ⟨0, rfl, by omega⟩
theorem numsQ_next (b : List UInt8) (a : Int) (n : Nat) (ha0 : 0 ≤ a) (ha1 : a ≤ 1000000100) (hb : b.length ≤ 1000000000) : 0 ≤ (numsQ b a n).2.1 ∧ (numsQ b a n).2.1 ≤ 1000000100 := by
  unfold numsQ
  split
  · exact ⟨Int.le_refl _, by decide⟩
  · rename_i h
    show 0 ≤ a + 8 * (n : Int) ∧ a + 8 * (n : Int) ≤ 1000000100
    rcases Nat.eq_zero_or_pos n with h0 | h0
    · subst h0; omega
    · by_cases h1 : a ≤ b.length
      · rw [Int.tdiv_eq_ediv_of_nonneg (by omega)] at h
        omega
      · have : Int.tdiv ((b.length : Int) - a) 8 ≤ 0 := by
          rw [show (b.length : Int) - a = -(a - b.length) by omega, Int.neg_tdiv, Int.tdiv_eq_ediv_of_nonneg (by omega)]
          omega
        omega
theorem getD_at {l : List Int} {k : Nat} {x : Int} (h : l[k]? = some x) : l.getD k 0 = x := by rw [List.getD_eq_getElem?_getD, h]; rfl
theorem step_appF {ops : Array Oper} {o : Oper} {a : Act} {w : World} {K : Act → World → Prop} {Q : Exit → Act → World → Prop} {E : Prop} (hgd : Region.wanted o (yielded ops a.tmps) = true) (s x : Operand)
    (ho : o.op = .call { callee := .builtin .append, args := #[s, x], argTypes := #[42, 42] }) (B n : Nat) (v : Value) (l : List Value) (hv : a.eval s = v) (hob : Own w B 100 2 v n l)
    (g c : Nat) (y : Fa) (hy : a.eval x = .slice (some ⟨g, 0, none⟩) 1 c) (h0 : w.cell? ⟨g, 0, none⟩ = some (.int .i64 y.kept)) (h1 : w.cell? ⟨g, 1, none⟩ = some (.int .i64 y.torn)) (h40 : n ≤ 100000) (hB : B ≤ w.heap.size)
    (h : ∀ A c w', Own w' B 100 2 (.slice A (n + 1) c) (n + 1) (l ++ fcells y) → Keep (fun k => ownB v = some k) w w' → K (a.put o.dst (.slice A (n + 1) c)) w') :
    if Region.wanted o (yielded ops a.tmps) = true then Oper.wp Try.prog o a w K Q else E := by
  obtain ⟨ib, hib, hb0, hb1, hb2⟩ := info_parts info_fate
  have hsrc : Src Try.prog 2 42 (.slice (some ⟨g, 0, none⟩) 1 c) 1 (fcells y) w := Src.ofSlice _ Try.underlying42 _ 1 c (fcells y) rfl (fun j u hu => by
    match j, hu with
    | 0, hu => cases hu; simpa [Addr.add] using h0
    | 1, hu => cases hu; simpa [Addr.add] using h1) (fun u hu => by
    unfold fcells at hu
    simp at hu
    rcases hu with rfl | rfl <;> rfl)
  refine step_append_gen w hgd s x _ _ ho B 100 ib _ 2 16 Try.underlying42 hib hb0 hb1 hb2 rfl v _ l hv hob _ 1 (fcells y) hy hsrc (by unfold maxLen; omega) (by omega) hB ?_
  intro v' w' ho' hk _
  obtain ⟨A, c', rfl, _⟩ := ho'.form
  exact h A c' w' ho' hk
/-- Where the loop of fates stands. -/
def LSt (w W4 W : World) (ls : List Int) (k : Nat) (B : Option Addr) (d : Nat) : Prop :=
  Row12 W w.heap.size [.int .i64 0, .int .i64 0, .bool false, .int .i64 0, .int .i64 0, .int .i64 0, .slice none 0 0, .int .i64 0, .int .i64 0, .int .i64 0, .slice none 0 0, .slice none 0 0] ∧ Ax W (w.heap.size + 1) ⟨6, zeroCm, 0, 0, 0, fatesOf ls k, []⟩ (.slice none 0 0) (.slice B k d) (.slice none 0 0) ∧ Own W W4.heap.size 100 2 (.slice B k d) k ((fatesOf ls k).flatMap fcells) ∧ Keep (fun b => b = w.heap.size + 1) W4 W
section
variable {w W4 W W' W'' : World} {ls : List Int} {k d c : Nat} {B A : Option Addr}
/-- Behind a round. -/
theorem LSt.next (h : LSt w W4 W ls k B d) (hz : w.heap.size + 1 < W4.heap.size) (hk : Keep (fun g => ownB (.slice B k d) = some g) W W') (ho : Own W' W4.heap.size 100 2 (.slice A (k + 1) c) (k + 1) ((fatesOf ls k).flatMap fcells ++ fcells ⟨ls.getD (2 * k) 0, ls.getD (2 * k + 1) 0⟩)) :
    LSt w W4 (W'.setCell ⟨w.heap.size + 1, 10, none⟩ (.slice A (k + 1) c)) ls (k + 1) A c := by
  have hs : Keep (fun b => b = w.heap.size + 1) W' (W'.setCell ⟨w.heap.size + 1, 10, none⟩ (.slice A (k + 1) c)) := Keep.setCell (S := fun b => b = w.heap.size + 1) (p := ⟨w.heap.size + 1, 10, none⟩) (Keep.refl _ W') (.inr rfl) _
  have nb : ∀ g, ownB (.slice B k d) = some g → W4.heap.size ≤ g := fun g e => (h.2.2.1.ownB g e).1
  have hA : Ax W' (w.heap.size + 1) ⟨6, zeroCm, 0, 0, 0, fatesOf ls k, []⟩ (.slice none 0 0) (.slice B k d) (.slice none 0 0) := h.2.1.keep hk (fun e => by have := nb _ e; omega)
  refine ⟨(hs.block _ (Nat.lt_of_lt_of_le (Array.getElem?_eq_some_iff.1 h.1).1 hk.size) (by omega)).trans ((hk.block _ (Array.getElem?_eq_some_iff.1 h.1).1 (fun e => by have := nb _ e; omega)).trans h.1), ?_, ?_, ?_⟩
  · show (W'.setCell ⟨w.heap.size + 1, 10, none⟩ (.slice A (k + 1) c)).heap[w.heap.size + 1]? = _
    rw [heap_setCell_same W' (w.heap.size + 1) 10 _ _ _ hA]
    rfl
  · rw [fatesOf_next, List.flatMap_append, List.flatMap_cons, List.flatMap_nil, List.append_nil]
    exact ho.keep hs (fun g e h2 => by have := (ho.ownB g e).1; omega)
  · exact (h.2.2.2.trans hk (fun b hb e => by have := nb _ e; omega)).trans hs (fun _ _ h => h)
end
set_option maxHeartbeats 8000000 in
theorem rget_6 (b : List UInt8) (v : Value) (F : Nat → Prop) (a : Nat) (w : World) (hv : By w F v b) (hn : b.length ≤ 1000000000) (ha : a < b.length) (h0 : byteA b a = 6) :
    Calls Try.prog 112 #[v, .int .i64 (a : Nat)] w (OPost (fun x => F x ∨ w.heap.size ≤ x) w (oneQ b a)) := by
  have HV := Lib.hid hv
  have bx := bv_at (l := b) (k := a) ha
  obtain ⟨A, c, rfl, hbc, hcm, hnil, hrd⟩ := id hv
  obtain ⟨gb, go, rfl, -, q1⟩ := hrd.at_ (show a < b.length * 1 by omega)
  have c1 := q1 a _ bx.1
  have hd0 : (0 : Int) ≤ byteA b a := by unfold byteA; omega
  have hd1 : byteA b a ≤ 255 := by unfold byteA; have := (b.getD a 0).toNat_lt; omega
  have BA := Lib.hid (show ((b.getD a 0).toNat : Int) = byteA b a from rfl)
  rw [BA.out] at c1
  have c1o : ∀ o : Obj, (w.alloc o).cell? ⟨gb, go + a, none⟩ = some (.int .u8 (byteA b a)) := fun o => ((Keep.refl (fun _ => False) w).alloc o).cell (fun h => h) c1
  have HN := Lib.hid hn
  have HL := Lib.hid ha
  clear hv q1 bx hrd hnil hn
  have h00 : (0 : Int) ≤ (a : Int) := by omega
  have h01 : (a : Int) < (b.length : Int) := by omega
  obtain ⟨s, es⟩ : ∃ s : Nat, s = a + 1 := ⟨_, rfl⟩
  have es1 : (a : Int) + 1 = (s : Int) := by omega
  have hws : IntKind.i64.wrap (s : Int) = (s : Int) := IntWalk.i64_in _ (by have := HN.out; omega)
  have hsn : (s : Int) ≤ (b.length : Int) := by omega
  have hs0 : (0 : Int) ≤ (s : Int) := by omega
  have hn9 : b.length ≤ 1000000000 := HN.out
  have E := Lib.hid (show oneQ b a = sixQ b (s : Nat) by unfold oneQ; rw [if_neg (by omega), if_neg (by omega), if_pos h0, es])
  rw [E.out]
  clear E
  obtain ⟨nn, hn1, hn2⟩ := getZ2 b (s : Int)
  obtain ⟨⟨ls, nx1, k1⟩, hr1⟩ : ∃ r, numsQ b ((s : Int) + 2) (2 * nn) = r := ⟨_, rfl⟩
  have B1 := numsQ_next b ((s : Int) + 2) (2 * nn) (by omega) (by omega) hn9
  have L1 := numsQ_len b ((s : Int) + 2) (2 * nn)
  have U1 := fun W (hk : Keep (fun _ => False) w W) => nums_any b _ F ((s : Int) + 2) (2 * nn) W (HV.out.keep hk (fun _ _ _ h => h)) hn9 (by omega) (by omega) (by omega)
  rw [hr1] at B1 L1
  simp only [hr1] at U1
  simp only at B1 L1
  obtain ⟨mm, hm1, hm2⟩ := getZ2 b nx1
  obtain ⟨⟨fu, nx2, k3⟩, hr2⟩ : ∃ r, numsQ b (nx1 + 2) mm = r := ⟨_, rfl⟩
  have U2 := fun W (hk : Keep (fun _ => False) w W) => nums_any b _ F (nx1 + 2) mm W (HV.out.keep hk (fun _ _ _ h => h)) hn9 (by omega) (by omega) (by omega)
  simp only [hr2] at U2
  have G1 := fun W (hk : Keep (fun _ => False) w W) => refGet_any b _ F (s : Int) 2 W (HV.out.keep hk (fun _ _ _ h => h)) (by omega) (by omega)
  have G2 := fun W (hk : Keep (fun _ => False) w W) => refGet_any b _ F nx1 2 W (HV.out.keep hk (fun _ _ _ h => h)) (by omega) (by omega)
  obtain ⟨k0, hk0⟩ : ∃ k, getOk b (s : Int) 2 = k := ⟨_, rfl⟩
  obtain ⟨k2, hk2⟩ : ∃ k, getOk b nx1 2 = k := ⟨_, rfl⟩
  simp only [hn1, hk0] at G1
  simp only [hm1, hk2] at G2
  have SE : sixQ b (s : Int) = if k0 = true ∧ k1 = true ∧ k2 = true ∧ k3 = true then (⟨6, zeroCm, 0, 0, 0, fatesOf ls nn, fu⟩, nx2, 0) else (zeroA, 0, 12) := by
    unfold sixQ
    simp only [hn1, Int.toNat_natCast, hr1, hm1, hr2, hk0, hk2]
  obtain ⟨res, hres⟩ : ∃ res : Ac × Int × Int, res = sixQ b (s : Int) := ⟨_, rfl⟩
  rw [← hres]
  rw [SE] at hres
  have RES := Lib.hid hres
  obtain ⟨t, ht⟩ : ∃ t : Nat, t = 2 * nn := ⟨_, rfl⟩
  obtain ⟨tl, htl⟩ : ∃ tl : Nat, ls.length = tl := ⟨_, rfl⟩
  rw [htl, ← ht] at U1
  have L2 := Lib.hid (show k1 = true → tl = t from fun h => by rw [← htl, ht]; exact L1 h)
  have HTL := Lib.hid htl
  have HT := Lib.hid ht
  have et : (2 : Int) * (nn : Int) = (t : Int) := by omega
  have ht0 : (t : Int) ≤ 131070 := by omega
  have HU1 := Lib.hid U1
  have HU2 := Lib.hid U2
  have HG1 := Lib.hid G1
  have HG2 := Lib.hid G2
  obtain ⟨hb1, hb2⟩ := B1
  clear hn1 hr1 hr2 hm1 hk0 hk2 SE hres htl ht U1 U2 G1 G2 L1
  generalize byteA b a = d at *
  subst h0
  generalize b.length = n at *
  have ES := Lib.hid es
  clear es
  have hw : IntKind.i64.wrap 6 = 6 := IntWalk.i64_in _ (by omega)
  go_enter Try.func112, Try.ntmps112
  go_upto_region 2 with fail
  refine wp_world (S := fun X => QSt w X F ⟨6, zeroCm, 0, 0, 0, [], []⟩ (.slice none 0 0) (.slice none 0 0) (.slice none 0 0)) ⟨?c0, ?c1, AM.zero _ _ _ _ _ _, ?c2⟩ ?_
  case c0 => unfold Row12; ((try simp only [heap_drew']); (try simp only [World.heap_drewN]); repeat (first | (refine heap_alloc_at _ _ _ ?_; first | rfl | (simp; done)) | (refine (Below.heap_alloc _ _ _ ?_).trans ?_; (focus first | (simp; done) | (simp; omega)))))
  case c1 => unfold Ax; ((try simp only [heap_drew']); (try simp only [World.heap_drewN]); repeat (first | (refine heap_alloc_at _ _ _ ?_; first | rfl | (simp; done)) | (refine (Below.heap_alloc _ _ _ ?_).trans ?_; (focus first | (simp; done) | (simp; omega)))))
  case c2 => exact (by repeat first | exact Below.refl _ _ | refine Below.setCell ?_ (by first | omega | (simp; done) | (simp; omega)) _ | refine Below.alloc ?_ (by first | omega | (simp; done) | (simp; omega)) _ | refine Below.drew ?_ | refine below_drewN ?_ _ | assumption)
  intro X hX
  have HX := Lib.hid hX
  clear hX c1 c1o
  obtain ⟨x0, x1, x2, x3, x4, x5, x6, x7, x8, x9, x10, x11, xf⟩ := cells12 HX.out.2.1
  obtain ⟨r0, r1, r2, r3, r4, r5, r6, r7, r8, r9, r10, r11, rf⟩ := cells12 HX.out.1
  have XS := Lib.hid (HX.out.2.2.2.size)
  have KX := Lib.hid (show Keep (fun _ => False) w X from Keep.of_below' HX.out.2.2.2)
  have hz1 := HX.out.lt
  have N1 := HG1.out X KX.out
  go_wp2_with fail
  with_reducible refine N1.mono ?_
  rintro e w1 ⟨rfl, rfl⟩
  have N1 := HU1.out X KX.out
  go_wp2_with fail
  with_reducible refine N1.mono ?_
  rintro e w1 ⟨A1, c1, rfl, hm, hb⟩
  have H1 := Lib.hid (HX.out.same (Keep.of_below' hb))
  have HM := Lib.hid (hm.mono (G := fun x => w.heap.size + 1 < x) (fun b _ h => by omega))
  have K1 := Lib.hid (KX.out.trans (Keep.of_below' hb) (fun _ _ h => h))
  clear hb hm N1 HU1 HG1 HX KX x0 x1 x2 x3 x4 x5 x6 x7 x8 x9 x10 x11 xf r0 r1 r2 r3 r4 r5 r6 r7 r8 r9 r10 r11 rf
  obtain ⟨x0, x1, x2, x3, x4, x5, x6, x7, x8, x9, x10, x11, xf⟩ := cells12 H1.out.2.1
  obtain ⟨r0, r1, r2, r3, r4, r5, r6, r7, r8, r9, r10, r11, rf⟩ := cells12 H1.out.1
  have N1 := HG2.out w1 K1.out
  go_wp2_with fail
  with_reducible refine N1.mono ?_
  rintro e w2 ⟨rfl, rfl⟩
  have N1 := HU2.out w1 K1.out
  have hz2 := H1.out.lt
  go_wp2_with fail
  with_reducible refine N1.mono ?_
  rintro e w4 ⟨A2, c2, rfl, hm, hb⟩
  have H4 := Lib.hid (H1.out.same (Keep.of_below' hb))
  have HM4 := Lib.hid (HM.out.same (Keep.of_below' hb))
  have HF4 := Lib.hid (hm.mono (G := fun x => w.heap.size + 1 < x) (fun b _ h => by omega))
  clear hb hm N1 HU2 HG2 H1 HM K1 x0 x1 x2 x3 x4 x5 x6 x7 x8 x9 x10 x11 xf r0 r1 r2 r3 r4 r5 r6 r7 r8 r9 r10 r11 rf
  obtain ⟨x0, x1, x2, x3, x4, x5, x6, x7, x8, x9, x10, x11, xf⟩ := cells12 H4.out.2.1
  obtain ⟨r0, r1, r2, r3, r4, r5, r6, r7, r8, r9, r10, r11, rf⟩ := cells12 H4.out.1
  have hz4 := H4.out.lt
  by_cases hall : k0 = true ∧ k1 = true ∧ k2 = true ∧ k3 = true
  · have RE := Lib.hid (show res = _ from by rw [RES.out, if_pos hall])
    obtain ⟨rfl, rfl, rfl, rfl⟩ := hall
    have hl := L2.out rfl
    subst hl
    have i0 : (0 : Int) ≤ (nn : Int) := by omega
    go_upto_region 16 with fail
    go_step
    go_wp2
    go_loopw [21] (fun i wr => ∃ (k : Nat) (B : Option Addr) (d : Nat), i = .int .i64 k ∧ k ≤ nn ∧ Hid (LSt w w4 wr ls k B d)) (fun i _ => nn - (intOf i).toNat)
    case atStart => exact ⟨0, none, 0, rfl, Nat.zero_le _, Lib.hid ⟨H4.out.1, H4.out.2.1, Own.none_ _ _ _ _ _, Keep.refl _ _⟩⟩
    case round =>
      obtain ⟨k, B, d, rfl, hk, ht⟩ := hrel
      clear x0 x1 x2 x3 x4 x5 x6 x7 x8 x9 x10 x11 xf r0 r1 r2 r3 r4 r5 r6 r7 r8 r9 r10 r11 rf
      obtain ⟨x0, x1, x2, x3, x4, x5, x6, x7, x8, x9, x10, x11, xf⟩ := cells12 ht.out.2.1
      obtain ⟨r0, r1, r2, r3, r4, r5, r6, r7, r8, r9, r10, r11, rf⟩ := cells12 ht.out.1
      by_cases hlt : k < nn
      · have hi : (k : Int) < (nn : Int) := by omega
        obtain ⟨q0, hq0⟩ : ∃ q : Nat, q = 2 * k := ⟨_, rfl⟩
        obtain ⟨q1, hq1⟩ : ∃ q : Nat, q = 2 * k + 1 := ⟨_, rfl⟩
        have e0 : (2 : Int) * (k : Int) = (q0 : Int) := by omega
        have e1 : (q0 : Int) + 1 = (q1 : Int) := by omega
        have l0 : (q0 : Int) < (tl : Int) := by omega
        have l1 : (q1 : Int) < (tl : Int) := by omega
        have HMr := HM4.out.keep ht.out.2.2.2 (fun b _ hb e => by omega)
        obtain ⟨bb, oo, y, e2, hF, hx, hcs⟩ := ML.at_ icells_len (by decide) HMr (k := q0) (by omega)
        have g0 := getD_at hx
        subst e2
        obtain ⟨z0, hz0⟩ : ∃ z, z = ls.getD (2 * k) 0 := ⟨_, rfl⟩
        obtain ⟨z1, hz1⟩ : ∃ z, z = ls.getD (2 * k + 1) 0 := ⟨_, rfl⟩
        have cz0 : wr.cell? ⟨bb, oo + q0, none⟩ = some (.int .i64 z0) := by have := hcs 0 _ rfl; rw [hz0, ← hq0, g0]; simpa using this
        obtain ⟨bb2, oo2, y2, e2, -, hx2, hcs2⟩ := ML.at_ icells_len (by decide) HMr (k := q1) (by omega)
        have g1 := getD_at hx2
        have cz1 : wr.cell? ⟨bb, oo + q1, none⟩ = some (.int .i64 z1) := by
          have := hcs2 0 _ rfl
          rw [hz1, ← hq1, g1]
          injection e2 with e2
          injection e2 with e2 e3
          subst e2 e3
          simpa using this
        have KN := Lib.hid (fun (W' : World) A c (hk : Keep (fun g => ownB (.slice B k d) = some g) wr W') ho => LSt.next (A := A) (c := c) ht.out hz4 hk ho)
        rw [← hz0, ← hz1] at KN
        have h40 : k ≤ 100000 := by omega
        have hsz := ht.out.2.2.2.size
        have h00 : (0 : Int) ≤ (k : Int) := by omega
        have h01 : (0 : Int) ≤ (q0 : Int) := by omega
        have h02 : (0 : Int) ≤ (q1 : Int) := by omega
        have hw0 : IntKind.i64.wrap (q0 : Int) = (q0 : Int) := IntWalk.i64_in _ (by omega)
        have hw1 : IntKind.i64.wrap (q1 : Int) = (q1 : Int) := IntWalk.i64_in _ (by omega)
        clear hx hx2 hcs hcs2 g0 g1 e2 hq0 hq1 hz0 hz1 HMr hF
        go_upto_region 19 with fail
        have zd : wr.drew.cell? ⟨w.heap.size + 1, 10, none⟩ = some (.slice B k d) := x10
        have za : ∀ o, (wr.alloc o).cell? ⟨w.heap.size + 1, 10, none⟩ = some (.slice B k d) := fun o => ((Keep.refl (fun _ => False) wr).alloc o).cell (fun h => h) x10
        go_region_law (first
          | ((refine step_appF (by rfl) _ _ rfl w4.heap.size k (.slice B k d) _ (by rfl) (by exact ht.out.2.2.1.keep (S := fun _ => False) (by repeat first | assumption | exact Keep.refl _ _ | refine Keep.alloc ?_ _ | refine Keep.drew ?_ | refine Keep.drewN ?_ _ | refine Keep.setCell ?_ (.inl (by first | omega | (simp; done) | (simp; omega))) _) (fun _ _ h => h)) wr.heap.size _ ⟨z0, z1⟩ (by rfl) (by exact (cells2 (heap_alloc_new wr _)).1) (by exact (cells2 (heap_alloc_new wr _)).2.1) h40 (by simp; omega) ?_); intro A6 c6 w6 ho6 hk6; have HW := Lib.hid (KN.out w6 A6 c6 (Keep.trans (S := fun g => ownB (.slice B k d) = some g) (by repeat first | assumption | exact Keep.refl _ _ | refine Keep.alloc ?_ _ | refine Keep.drew ?_ | refine Keep.drewN ?_ _ | refine Keep.setCell ?_ (.inl (by first | omega | (simp; done) | (simp; omega))) _) hk6 (fun _ _ h => h)) ho6); have hx6 := Lib.hid (ht.out.2.1.keep (Keep.trans (S := fun g => ownB (.slice B k d) = some g) (by repeat first | assumption | exact Keep.refl _ _ | refine Keep.alloc ?_ _ | refine Keep.drew ?_ | refine Keep.drewN ?_ _ | refine Keep.setCell ?_ (.inl (by first | omega | (simp; done) | (simp; omega))) _) hk6 (fun _ _ h => h)) (fun e => by have := (ht.out.2.2.1.ownB _ e).1; omega)); clear ho6 hk6 x0 x1 x2 x3 x4 x5 x6 x7 x8 x9 x10 x11 xf r0 r1 r2 r3 r4 r5 r6 r7 r8 r9 r10 r11 rf zd za cz0 cz1; obtain ⟨x0, x1, x2, x3, x4, x5, x6, x7, x8, x9, x10, x11, xf⟩ := cells12 hx6.out)
          | fail)
        all_goals
          go_wp2
          go_roundw
          case rel => exact ⟨k + 1, A6, c6, by go_num, by omega, HW⟩
          case measure => simp [intOf]; omega
      · have hi : ¬ (k : Int) < (nn : Int) := by omega
        obtain rfl : k = nn := by omega
        have H5 := Lib.hid (show QSt w wr F ⟨6, zeroCm, 0, 0, 0, fatesOf ls k, []⟩ (.slice none 0 0) (.slice B k d) (.slice none 0 0) from ⟨ht.out.1, ht.out.2.1, ⟨By.nil _ _, by
            have h1 := ht.out.2.2.1
            have e1 : (fatesOf ls k).length = k := fatesOf_len ls k
            have h2 : Own wr w4.heap.size 100 2 (.slice B k d) (fatesOf ls k).length ((fatesOf ls k).flatMap fcells) := by rw [e1]; exact h1
            exact (Own.ml (n := 0) (by decide) fcells_len h2).mono (fun b _ hb => .inr (by omega)), ML.nil _ _ _ _⟩, ((Keep.of_below H4.out.2.2.2).trans ht.out.2.2.2 (fun b _ e => by omega)).to_below (Nat.le_refl _)⟩)
        have HFr := Lib.hid (HF4.out.keep ht.out.2.2.2 (fun b _ hb e => by omega))
        go_upto_region 21 with fail
        refine wp_world (S := fun Z => QSt w Z F ⟨6, zeroCm, 0, 0, 0, fatesOf ls k, fu⟩ (.slice none 0 0) (.slice B k d) (.slice A2 fu.length c2)) (H5.out.set 11 (.slice A2 fu.length c2) ⟨By.nil _ _, H5.out.2.2.1.2.1, HFr.out.mono (fun b _ hb => .inr hb)⟩ rfl) ?_
        intro Z hZ
        have HZ := Lib.hid hZ
        clear hZ x0 x1 x2 x3 x4 x5 x6 x7 x8 x9 x10 x11 xf r0 r1 r2 r3 r4 r5 r6 r7 r8 r9 r10 r11 rf H5 ht HFr
        obtain ⟨x0, x1, x2, x3, x4, x5, x6, x7, x8, x9, x10, x11, xf⟩ := cells12 HZ.out.2.1
        obtain ⟨r0, r1, r2, r3, r4, r5, r6, r7, r8, r9, r10, r11, rf⟩ := cells12 HZ.out.1
        go_wp2
        have KK := keepS12 Z w.heap.size (.int .i64 6) (.int .i64 zeroCm.do_) (.bool zeroCm.loc) (.int .i64 zeroCm.idx) (.int .i64 zeroCm.gen) (.int .i64 zeroCm.comp) (.slice none 0 0) (.int .i64 0) (.int .i64 0) (.int .i64 0) (.slice B k d) (.slice A2 fu.length c2)
        have HS := stored12 (show Row12 Z w.heap.size [.int .i64 0, .int .i64 0, .bool false, .int .i64 0, .int .i64 0, .int .i64 0, .slice none 0 0, .int .i64 0, .int .i64 0, .int .i64 0, .slice none 0 0, .slice none 0 0] from HZ.out.1) (.int .i64 6) (.int .i64 zeroCm.do_) (.bool zeroCm.loc) (.int .i64 zeroCm.idx) (.int .i64 zeroCm.gen) (.int .i64 zeroCm.comp) (.slice none 0 0) (.int .i64 0) (.int .i64 0) (.int .i64 0) (.slice B k d) (.slice A2 fu.length c2)
        generalize ((((((((((((Z.setCell ⟨w.heap.size, 0, none⟩ (.int .i64 6)).setCell ⟨w.heap.size, 1, none⟩ (.int .i64 zeroCm.do_)).setCell ⟨w.heap.size, 2, none⟩ (.bool zeroCm.loc)).setCell ⟨w.heap.size, 3, none⟩ (.int .i64 zeroCm.idx)).setCell ⟨w.heap.size, 4, none⟩ (.int .i64 zeroCm.gen)).setCell ⟨w.heap.size, 5, none⟩ (.int .i64 zeroCm.comp)).setCell ⟨w.heap.size, 6, none⟩ (.slice none 0 0)).setCell ⟨w.heap.size, 7, none⟩ (.int .i64 0)).setCell ⟨w.heap.size, 8, none⟩ (.int .i64 0)).setCell ⟨w.heap.size, 9, none⟩ (.int .i64 0)).setCell ⟨w.heap.size, 10, none⟩ (.slice B k d)).setCell ⟨w.heap.size, 11, none⟩ (.slice A2 fu.length c2)) = W7 at KK HS ⊢
        refine bodyPost_ret (results_act3 rfl _ _ w.heap.size _ _ _ _ _ _ _ _ _ _ _ _ rfl (by exact HS) _ _ rfl rfl) rfl ?_
        try simp only [Array.getD_eq_getD_getElem?, List.getElem?_toArray, List.getElem?_cons_succ, List.getElem?_cons_zero, Option.getD_some]
        rw [RE.out]
        have R := HZ.out.fin KK
        have e1 : (fatesOf ls k).length = k := fatesOf_len ls k
        refine ⟨none, 0, B, d, A2, c2, ?_, ?_, R.2⟩
        · simp only [e1]; rfl
        · simp only [e1]; exact R.1
  · have RE := Lib.hid (show res = (zeroA, 0, 12) from by rw [RES.out, if_neg hall])
    have h4 : k0 = false ∨ (k0 = true ∧ k1 = false) ∨ (k0 = true ∧ k1 = true ∧ k2 = false) ∨ (k0 = true ∧ k1 = true ∧ k2 = true ∧ k3 = false) := by
      cases k0 <;> cases k1 <;> cases k2 <;> cases k3 <;> simp at hall ⊢
    clear hall
    rcases h4 with rfl | ⟨rfl, rfl⟩ | ⟨rfl, rfl, rfl⟩ | ⟨rfl, rfl, rfl, rfl⟩
    all_goals
    go_wp2
    have KK := keepS12 w4 w.heap.size (.int .i64 0) (.int .i64 0) (.bool false) (.int .i64 0) (.int .i64 0) (.int .i64 0) (.slice none 0 0) (.int .i64 0) (.int .i64 0) (.int .i64 0) (.slice none 0 0) (.slice none 0 0)
    have HS := stored12 (show Row12 w4 w.heap.size [.int .i64 0, .int .i64 0, .bool false, .int .i64 0, .int .i64 0, .int .i64 0, .slice none 0 0, .int .i64 0, .int .i64 0, .int .i64 0, .slice none 0 0, .slice none 0 0] from H4.out.1) (.int .i64 0) (.int .i64 0) (.bool false) (.int .i64 0) (.int .i64 0) (.int .i64 0) (.slice none 0 0) (.int .i64 0) (.int .i64 0) (.int .i64 0) (.slice none 0 0) (.slice none 0 0)
    generalize ((((((((((((w4.setCell ⟨w.heap.size, 0, none⟩ (.int .i64 0)).setCell ⟨w.heap.size, 1, none⟩ (.int .i64 0)).setCell ⟨w.heap.size, 2, none⟩ (.bool false)).setCell ⟨w.heap.size, 3, none⟩ (.int .i64 0)).setCell ⟨w.heap.size, 4, none⟩ (.int .i64 0)).setCell ⟨w.heap.size, 5, none⟩ (.int .i64 0)).setCell ⟨w.heap.size, 6, none⟩ (.slice none 0 0)).setCell ⟨w.heap.size, 7, none⟩ (.int .i64 0)).setCell ⟨w.heap.size, 8, none⟩ (.int .i64 0)).setCell ⟨w.heap.size, 9, none⟩ (.int .i64 0)).setCell ⟨w.heap.size, 10, none⟩ (.slice none 0 0)).setCell ⟨w.heap.size, 11, none⟩ (.slice none 0 0)) = W7 at KK HS ⊢
    refine bodyPost_ret (results_act3 rfl _ _ w.heap.size _ _ _ _ _ _ _ _ _ _ _ _ rfl (by exact HS) _ _ rfl rfl) rfl ?_
    try simp only [Array.getD_eq_getD_getElem?, List.getElem?_toArray, List.getElem?_cons_succ, List.getElem?_cons_zero, Option.getD_some]
    rw [RE.out]
    with_reducible exact H4.out.zero KK 12
end Go.Proofs.Ythkgchlndfcmpaa

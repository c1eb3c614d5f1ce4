/- Contract of script.one. Printed by genscrd.py. -/
import Derived.Test.YthkgchlndfcmpaaScrC
import Derived.Test.YthkgchlndfcmpaaScr8
import Derived.Test.YthkgchlndfcmpaaScr4
import Derived.Test.YthkgchlndfcmpaaCmdV
import Derived.Test.YthkgchlndfcmpaaScrA
namespace Go.Proofs.Ythkgchlndfcmpaa
open Go.RowKit
set_option maxRecDepth 100000
set_option linter.unusedVariables false
set_option linter.unusedSimpArgs false

theorem addr_add (g o k : Nat) : (⟨g, o, none⟩ : Addr).add k = ⟨g, o + k, none⟩ := by unfold Addr.add; split <;> simp_all
def zeroA : Ac := ⟨0, zeroCm, 0, 0, 0, [], []⟩
/-- What is read of the bytes behind the first. -/
def restA (t : List UInt8) (d : Int) : Ac × Nat × Bool :=
  if d = 4 then (⟨4, zeroCm, (numR t 0 false 8).1, (numR t (numR t 0 false 8).2.1 (numR t 0 false 8).2.2 8).1, 0, [], []⟩, (numR t (numR t 0 false 8).2.1 (numR t 0 false 8).2.2 8).2)
  else if d = 5 then (⟨5, zeroCm, 0, 0, (numR t 0 false 8).1, [], []⟩, (numR t 0 false 8).2)
  else if d = 6 then (⟨6, zeroCm, 0, 0, 0, (crashR t 0 false).1, (crashR t 0 false).2.1⟩, (crashR t 0 false).2.2)
  else (⟨d, zeroCm, 0, 0, 0, [], []⟩, 0, false)
def byteA (b : List UInt8) (a : Nat) : Int := ((b.getD a 0).toNat : Nat)
/-- What script.one answers. -/
def oneP (b : List UInt8) (a : Nat) : Ac × Int × Int :=
  if 6 < byteA b a then (zeroA, 0, 11)
  else if byteA b a = 0 then (⟨0, (getP b (a + 1 : Nat)).1, 0, 0, 0, [], []⟩, (getP b (a + 1 : Nat)).2.1, (getP b (a + 1 : Nat)).2.2)
  else if (restA (b.drop (a + 1)) (byteA b a)).2.2 = true then (zeroA, 0, 12)
  else ((restA (b.drop (a + 1)) (byteA b a)).1, (b.length : Int) - (((b.drop (a + 1)).length : Int) - (restA (b.drop (a + 1)) (byteA b a)).2.1), 0)
/-- An act, a place and an error that a call hands back. -/
def OPost (G : Nat → Prop) (w : World) (r : Ac × Int × Int) (e : Ending) (w' : World) : Prop :=
  ∃ A1 c1 A2 c2 A3 c3, e = .returned (.tuple #[actV r.1 (.slice A1 r.1.c.l.length c1) (.slice A2 r.1.fa.length c2) (.slice A3 r.1.fu.length c3), .int .i64 r.2.1, .int .i64 r.2.2]) ∧
    AM w' G r.1 (.slice A1 r.1.c.l.length c1) (.slice A2 r.1.fa.length c2) (.slice A3 r.1.fu.length c3) ∧ Below w.heap.size w w'
theorem results_act3 {fn : Func} {p u v : Tmp} (h : fn.results = #[.cell p 45, .tmp u, .tmp v]) (tmps : Array Value) (w : World) (g : Nat) (c0 c1 c2 c3 c4 c5 c6 c7 c8 c9 c10 c11 : Value)
    (hp : tmps.getD p undef = .pointer (some ⟨g, 0, none⟩)) (hg : w.heap[g]? = some (.cells #[c0, c1, c2, c3, c4, c5, c6, c7, c8, c9, c10, c11] 45 (0, 0))) (a b : Value) (ha : tmps.getD u undef = a) (hb : tmps.getD v undef = b) :
    (results fn tmps).run Try.prog w = .ok (.tuple #[.agg #[c0, c1, c2, c3, c4, c5, c6, c7, c8, c9, c10, c11], a, b]) w := by
  have hr := run_loadVar_row (P := Try.prog) w g 45 45 _ (0, 0) _ hg under_act rfl size_act
  have hp' : tmps[p]?.getD undef = .pointer (some ⟨g, 0, none⟩) := by simpa using hp
  have ha' : tmps[u]?.getD undef = a := by simpa using ha
  have hb' : tmps[v]?.getD undef = b := by simpa using hb
  simp [results, h, hp', ha', hb', asAddr, hr]
/-- Where script.one stands: its box, the reader. -/
def OSt (w W : World) (rp : Nat) (x : Ac) (u1 u2 u3 : Value) (t : List UInt8) (k : Nat) (bad : Bool) : Prop :=
  Ax W w.heap.size x u1 u2 u3 ∧ AM W (fun b => w.heap.size < b ∧ b ≠ rp) x u1 u2 u3 ∧ Rdr W rp (fun b => w.heap.size < b ∧ b ≠ rp) t k bad ∧ w.heap.size < rp ∧ Below w.heap.size w W
section
variable {w W W' : World} {rp k k' : Nat} {x x' : Ac} {u1 u2 u3 v1 v2 v3 : Value} {t : List UInt8} {bad bad' : Bool}
theorem OSt.num (h : OSt w W rp x u1 u2 u3 t k bad) (hr : RTo W rp (fun b => w.heap.size < b ∧ b ≠ rp) t k' bad' W') : OSt w W' rp x u1 u2 u3 t k' bad' :=
  ⟨h.1.keep hr.2 (by have := h.2.2.2.1; omega), h.2.1.keep hr.2 (fun b _ hb e => hb.2 e), hr.1, h.2.2.2.1, ((Keep.of_below h.2.2.2.2).trans hr.2 (fun b _ e => by have := h.2.2.2.1; omega)).to_below (Nat.le_refl _)⟩
theorem OSt.set (h : OSt w W rp x u1 u2 u3 t k bad) (i : Nat) (z : Value) (ha : AM W (fun b => w.heap.size < b ∧ b ≠ rp) x' v1 v2 v3)
    (he : (#[.int .i64 (x).do_, .int .i64 (x).c.do_, .bool (x).c.loc, .int .i64 (x).c.idx, .int .i64 (x).c.gen, .int .i64 (x).c.comp, u1, .int .i64 (x).room, .int .i64 (x).frames, .int .i64 (x).n, u2, u3] : Array Value).setIfInBounds i z = #[.int .i64 (x').do_, .int .i64 (x').c.do_, .bool (x').c.loc, .int .i64 (x').c.idx, .int .i64 (x').c.gen, .int .i64 (x').c.comp, v1, .int .i64 (x').room, .int .i64 (x').frames, .int .i64 (x').n, v2, v3]) : OSt w (W.setCell ⟨w.heap.size, i, none⟩ z) rp x' v1 v2 v3 t k bad := by
  have hk : Keep (fun b => b = w.heap.size) W (W.setCell ⟨w.heap.size, i, none⟩ z) := Keep.setCell (S := fun b => b = w.heap.size) (p := ⟨w.heap.size, i, none⟩) (Keep.refl _ W) (.inr rfl) _
  refine ⟨?_, ha.keep hk (fun b _ hb e => by omega), rdr_keep h.2.2.1 hk (by have := h.2.2.2.1; omega) (fun b _ hb e => by omega), h.2.2.2.1, ((Keep.of_below h.2.2.2.2).trans hk (fun b _ e => by omega)).to_below (Nat.le_refl _)⟩
  show (W.setCell ⟨w.heap.size, i, none⟩ z).heap[w.heap.size]? = _
  rw [heap_setCell_same W w.heap.size i _ _ z h.1, he]
end
/-- A row of twelve cells. -/
def Row12 (W : World) (p : Nat) (Y : List Value) : Prop := W.heap[p]? = some (.cells Y.toArray 45 (0, 0))
theorem Row12.set {W : World} {p : Nat} {Y : List Value} (h : Row12 W p Y) (k : Nat) (z : Value) : Row12 (W.setCell ⟨p, k, none⟩ z) p (Y.set k z) := by
  show (W.setCell ⟨p, k, none⟩ z).heap[p]? = _
  rw [heap_setCell_same W p k _ _ _ h]
  simp
theorem set_cmd {W : World} {p : Nat} (h : Ax W p ⟨0, zeroCm, 0, 0, 0, [], []⟩ (.slice none 0 0) (.slice none 0 0) (.slice none 0 0)) (y : Cmd) (u : Value) :
    Ax ((((((W.setCell ⟨p, 1, none⟩ (.int .i64 y.do_)).setCell ⟨p, 2, none⟩ (.bool y.loc)).setCell ⟨p, 3, none⟩ (.int .i64 y.idx)).setCell ⟨p, 4, none⟩ (.int .i64 y.gen)).setCell ⟨p, 5, none⟩ (.int .i64 y.comp)).setCell ⟨p, 6, none⟩ (u)) p ⟨0, y, 0, 0, 0, [], []⟩ u (.slice none 0 0) (.slice none 0 0) ∧ Keep (fun x => x = p) W ((((((W.setCell ⟨p, 1, none⟩ (.int .i64 y.do_)).setCell ⟨p, 2, none⟩ (.bool y.loc)).setCell ⟨p, 3, none⟩ (.int .i64 y.idx)).setCell ⟨p, 4, none⟩ (.int .i64 y.gen)).setCell ⟨p, 5, none⟩ (.int .i64 y.comp)).setCell ⟨p, 6, none⟩ (u)) :=
  ⟨(((((((show Row12 W p [.int .i64 0, .int .i64 0, .bool false, .int .i64 0, .int .i64 0, .int .i64 0, .slice none 0 0, .int .i64 0, .int .i64 0, .int .i64 0, .slice none 0 0, .slice none 0 0] from h).set 1 (.int .i64 y.do_)).set 2 (.bool y.loc)).set 3 (.int .i64 y.idx)).set 4 (.int .i64 y.gen)).set 5 (.int .i64 y.comp)).set 6 (u)), (Keep.setCell (S := fun x => x = p) (p := ⟨p, 6, none⟩) (Keep.setCell (S := fun x => x = p) (p := ⟨p, 5, none⟩) (Keep.setCell (S := fun x => x = p) (p := ⟨p, 4, none⟩) (Keep.setCell (S := fun x => x = p) (p := ⟨p, 3, none⟩) (Keep.setCell (S := fun x => x = p) (p := ⟨p, 2, none⟩) (Keep.setCell (S := fun x => x = p) (p := ⟨p, 1, none⟩) (Keep.refl (fun x => x = p) W) (.inr rfl) (.int .i64 y.do_)) (.inr rfl) (.bool y.loc)) (.inr rfl) (.int .i64 y.idx)) (.inr rfl) (.int .i64 y.gen)) (.inr rfl) (.int .i64 y.comp)) (.inr rfl) (u))⟩
theorem By.tail {W : World} {F : Nat → Prop} {A : Option Addr} {n c a : Nat} {b : List UInt8} (hv : By W F (.slice A n c) b) (ha : a ≤ b.length) : By W F (.slice (if c = a then A else A.map (fun x => x.add a)) (b.length - a) (c - a)) (b.drop a) := by
  obtain ⟨A0, c0, e, hbc, hcm, hnil, -⟩ := id hv
  injection e with e1 e2 e3
  subst e1 e3
  by_cases hc : c = a
  · have hz : b.drop a = [] := List.drop_eq_nil_of_le (by omega)
    rw [if_pos hc, hz, show b.length - a = 0 by omega, show c - a = 0 by omega]
    exact By.zero W F A
  · have := hv.piece (A' := A.map (fun x => x.add a)) (lo := a) (m := b.length - a) (c' := c - a) (by omega) (fun _ x hx => by rw [hx]; rfl) (by omega) (by omega) (fun hh => by
      rcases A with _ | x
      · have := hnil rfl; omega
      · cases hh)
    rw [if_neg hc]
    rwa [List.take_of_length_le (by rw [List.length_drop]; omega)] at this
set_option maxHeartbeats 8000000 in
theorem sone_form (b : List UInt8) (v : Value) (F : Nat → Prop) (a : Nat) (w : World) (hv : By w F v b) (hn : b.length ≤ 1000000000) (ha : a < b.length) (h6 : 6 < byteA b a) :
    Calls Try.prog 110 #[v, .int .i64 (a : Nat)] w (OPost (fun x => w.heap.size ≤ x) w (oneP b a)) := by
  have HV := Lib.hid hv
  have bx := bv_at (l := b) (k := a) ha
  obtain ⟨A, c, rfl, hbc, hcm, hnil, hrd⟩ := id hv
  obtain ⟨gb, go, rfl, -, q1⟩ := hrd.at_ (show a < b.length * 1 by omega)
  have c1 := q1 a _ bx.1
  have OP := Lib.hid (show oneP b a = _ from rfl)
  have hd0 : (0 : Int) ≤ byteA b a := by unfold byteA; omega
  have hd1 : byteA b a ≤ 255 := by unfold byteA; have := (b.getD a 0).toNat_lt; omega
  have BA := Lib.hid (show ((b.getD a 0).toNat : Int) = byteA b a from rfl)
  rw [BA.out] at c1
  have c1o : ∀ o : Obj, (w.alloc o).cell? ⟨gb, go + a, none⟩ = some (.int .u8 (byteA b a)) := fun o => ((Keep.refl (fun _ => False) w).alloc o).cell (fun h => h) c1
  have HN := Lib.hid hn
  have HL := Lib.hid ha
  clear hv q1 bx hrd hnil hn
  have h00 : (0 : Int) ≤ (a : Int) := by omega
  have h01 : (a : Int) < (b.length : Int) := by omega
  have E := Lib.hid (show oneP b a = (zeroA, 0, 11) by unfold oneP; rw [if_pos h6])
  rw [E.out]
  clear OP E
  generalize byteA b a = d at *
  generalize b.length = n at *
  have hw : IntKind.i64.wrap d = d := IntWalk.i64_in _ (by omega)
  go_enter Try.func110, Try.ntmps110
  go_upto_region 2 with fail
  refine wp_world (S := fun X => Ax X w.heap.size ⟨d, zeroCm, 0, 0, 0, [], []⟩ (.slice none 0 0) (.slice none 0 0) (.slice none 0 0) ∧ Below w.heap.size w X) ⟨?c0, ?c1⟩ ?_
  case c0 => first | exact heap_alloc_at _ _ _ rfl | (rw [heap_setCell_same _ _ 0 _ _ _ (heap_alloc_new w _)]; rfl)
  case c1 => exact (by repeat first | exact Below.refl _ _ | refine Below.setCell ?_ (by first | omega | (simp; done) | (simp; omega)) _ | refine Below.alloc ?_ (by first | omega | (simp; done) | (simp; omega)) _ | refine Below.drew ?_ | refine below_drewN ?_ _ | assumption)
  intro X hX
  have HX := Lib.hid hX
  clear hX
  obtain ⟨x0, x1, x2, x3, x4, x5, x6, x7, x8, x9, x10, x11, xf⟩ := cells12 HX.out.1
  go_wp2
  have KK := keepS12 X w.heap.size (.int .i64 0) (.int .i64 0) (.bool false) (.int .i64 0) (.int .i64 0) (.int .i64 0) (.slice none 0 0) (.int .i64 0) (.int .i64 0) (.int .i64 0) (.slice none 0 0) (.slice none 0 0)
  have HS := stored12 HX.out.1 (.int .i64 0) (.int .i64 0) (.bool false) (.int .i64 0) (.int .i64 0) (.int .i64 0) (.slice none 0 0) (.int .i64 0) (.int .i64 0) (.int .i64 0) (.slice none 0 0) (.slice none 0 0)
  generalize ((((((((((((X.setCell ⟨w.heap.size, 0, none⟩ (.int .i64 0)).setCell ⟨w.heap.size, 1, none⟩ (.int .i64 0)).setCell ⟨w.heap.size, 2, none⟩ (.bool false)).setCell ⟨w.heap.size, 3, none⟩ (.int .i64 0)).setCell ⟨w.heap.size, 4, none⟩ (.int .i64 0)).setCell ⟨w.heap.size, 5, none⟩ (.int .i64 0)).setCell ⟨w.heap.size, 6, none⟩ (.slice none 0 0)).setCell ⟨w.heap.size, 7, none⟩ (.int .i64 0)).setCell ⟨w.heap.size, 8, none⟩ (.int .i64 0)).setCell ⟨w.heap.size, 9, none⟩ (.int .i64 0)).setCell ⟨w.heap.size, 10, none⟩ (.slice none 0 0)).setCell ⟨w.heap.size, 11, none⟩ (.slice none 0 0)) = W7 at KK HS ⊢
  refine bodyPost_ret (results_act3 rfl _ _ w.heap.size _ _ _ _ _ _ _ _ _ _ _ _ rfl (by exact HS) _ _ rfl rfl) rfl ?_
  exact ⟨none, 0, none, 0, none, 0, rfl, ⟨By.nil _ _, ML.nil _ _ _ _, ML.nil _ _ _ _⟩, ((Keep.of_below HX.out.2).trans KK (fun x _ e => by omega)).to_below (Nat.le_refl _)⟩
set_option maxHeartbeats 8000000 in
theorem sone_rest (b : List UInt8) (v : Value) (F : Nat → Prop) (a : Nat) (w : World) (hv : By w F v b) (hn : b.length ≤ 1000000000) (ha : a < b.length) (h1 : 1 ≤ byteA b a) (h6 : byteA b a ≤ 6) :
    Calls Try.prog 110 #[v, .int .i64 (a : Nat)] w (OPost (fun x => w.heap.size ≤ x) w (oneP b a)) := by
  have HV := Lib.hid hv
  have bx := bv_at (l := b) (k := a) ha
  obtain ⟨A, c, rfl, hbc, hcm, hnil, hrd⟩ := id hv
  obtain ⟨gb, go, rfl, -, q1⟩ := hrd.at_ (show a < b.length * 1 by omega)
  have c1 := q1 a _ bx.1
  have OP := Lib.hid (show oneP b a = _ from rfl)
  have hd0 : (0 : Int) ≤ byteA b a := by unfold byteA; omega
  have hd1 : byteA b a ≤ 255 := by unfold byteA; have := (b.getD a 0).toNat_lt; omega
  have BA := Lib.hid (show ((b.getD a 0).toNat : Int) = byteA b a from rfl)
  rw [BA.out] at c1
  have c1o : ∀ o : Obj, (w.alloc o).cell? ⟨gb, go + a, none⟩ = some (.int .u8 (byteA b a)) := fun o => ((Keep.refl (fun _ => False) w).alloc o).cell (fun h => h) c1
  have HN := Lib.hid hn
  have HL := Lib.hid ha
  clear hv q1 bx hrd hnil hn
  have h00 : (0 : Int) ≤ (a : Int) := by omega
  have h01 : (a : Int) < (b.length : Int) := by omega
  have E := Lib.hid (show oneP b a = if (restA (b.drop (a + 1)) (byteA b a)).2.2 = true then (zeroA, 0, 12) else ((restA (b.drop (a + 1)) (byteA b a)).1, (b.length : Int) - (((b.drop (a + 1)).length : Int) - (restA (b.drop (a + 1)) (byteA b a)).2.1), 0) by unfold oneP; rw [if_neg (by omega), if_neg (by omega)])
  rw [E.out]
  clear OP E
  obtain ⟨t, htl⟩ : ∃ t, t = b.drop (a + 1) := ⟨_, rfl⟩
  have TL := Lib.hid (show t.length = b.length - (a + 1) by rw [htl, List.length_drop])
  have RD := Lib.hid (fun W (hk : Keep (fun _ => False) w W) => read_any (b.drop (a + 1)) _ F W (By.tail (HV.out.keep hk (fun _ _ _ h => h)) (by omega)) (by rw [List.length_drop]; have := HN.out; omega))
  rw [← htl] at RD ⊢
  clear htl
  obtain ⟨s, es⟩ : ∃ s : Nat, s = a + 1 := ⟨_, rfl⟩
  rw [← es] at RD TL
  have es1 : (a : Int) + 1 = (s : Int) := by omega
  have hsn : (s : Int) ≤ (b.length : Int) := by omega
  have hs0 : (0 : Int) ≤ (s : Int) := by omega
  have hws : IntKind.i64.wrap (s : Int) = (s : Int) := IntWalk.i64_in _ (by have := HN.out; omega)
  have hsc : (s : Int) ≤ (c : Int) := by omega
  have hsc2 : s ≤ c := by omega
  have hsn2 : s ≤ b.length := by omega
  generalize byteA b a = d at *
  obtain ⟨res, hres⟩ : ∃ res : Ac × Int × Int, res = (if (restA t d).2.2 = true then (zeroA, 0, 12) else ((restA t d).1, (b.length : Int) - ((t.length : Int) - (restA t d).2.1), 0)) := ⟨_, rfl⟩
  rw [← hres]
  have RES := Lib.hid hres
  clear hres
  generalize hbn : b.length = n at *
  have HB := Lib.hid hbn
  clear hbn
  have hw : IntKind.i64.wrap d = d := IntWalk.i64_in _ (by omega)
  go_enter Try.func110, Try.ntmps110
  go_upto_region 2 with fail
  refine wp_world (S := fun X => Ax X w.heap.size ⟨d, zeroCm, 0, 0, 0, [], []⟩ (.slice none 0 0) (.slice none 0 0) (.slice none 0 0) ∧ Below w.heap.size w X) ⟨?c0, ?c1⟩ ?_
  case c0 => first | exact heap_alloc_at _ _ _ rfl | (rw [heap_setCell_same _ _ 0 _ _ _ (heap_alloc_new w _)]; rfl)
  case c1 => exact (by repeat first | exact Below.refl _ _ | refine Below.setCell ?_ (by first | omega | (simp; done) | (simp; omega)) _ | refine Below.alloc ?_ (by first | omega | (simp; done) | (simp; omega)) _ | refine Below.drew ?_ | refine below_drewN ?_ _ | assumption)
  intro X hX
  have HX := Lib.hid hX
  clear hX c1 c1o
  obtain ⟨x0, x1, x2, x3, x4, x5, x6, x7, x8, x9, x10, x11, xf⟩ := cells12 HX.out.1
  have n6 : ¬ 6 < d := by omega
  have n0 : (d == 0) = false := by simp; omega
  have XS := Lib.hid (HX.out.2.size)
  have ES := Lib.hid es
  clear es
  go_upto_region 7 with fail
  go_cut [7] (fun r wx => ∃ rp, r = .pointer (some ⟨rp, 0, none⟩) ∧ Hid (OSt w wx rp ⟨d, zeroCm, 0, 0, 0, [], []⟩ (.slice none 0 0) (.slice none 0 0) (.slice none 0 0) t 0 false))
  case first =>
    have FT := Lib.hid (fun (W1 : World) rp (hr : Rdr W1 rp (fun x => X.heap.size ≤ x ∧ x ≠ rp) t 0 false) (hrp : X.heap.size ≤ rp) (hb : Below X.heap.size X W1) => show OSt w W1 rp ⟨d, zeroCm, 0, 0, 0, [], []⟩ (.slice none 0 0) (.slice none 0 0) (.slice none 0 0) t 0 false from
      have hlt := HX.out.1.lt
      ⟨HX.out.1.keep (Keep.of_below' hb) (fun h => h), ⟨By.nil _ _, ML.nil _ _ _ _, ML.nil _ _ _ _⟩, rdr_monoC hr (fun x _ h => ⟨by omega, h.2⟩) (fun h => h.2 rfl), by omega, ((Keep.of_below HX.out.2).trans (Keep.of_below' hb) (fun _ _ h => h.elim)).to_below (Nat.le_refl _)⟩)
    have KX := Lib.hid (show Keep (fun _ => False) w X from Keep.of_below' HX.out.2)
    have hadd := addr_add gb go s
    by_cases hc : c = s
    case' pos => rw [if_pos hc, show c - s = 0 by omega] at RD; subst hc; rw [show n - c = 0 by omega] at RD
    case' neg => rw [if_neg hc] at RD
    all_goals
      have RD1 := RD.out X KX.out
      try simp only [Option.map_some, hadd] at RD1
      go_wp2_with fail
      with_reducible refine RD1.mono ?_
      rintro e w1 ⟨rp, rfl, hr, hrp, hb⟩
      have Q := Lib.hid (FT.out _ _ hr hrp hb)
      clear hr hrp hb RD1 x0 x1 x2 x3 x4 x5 x6 x7 x8 x9 x10 x11 xf
      go_wp2_with fail
      go_meet
      exact ⟨rp, rfl, Q⟩
  case rest =>
    obtain ⟨rp, rfl, hst⟩ := hcut
    have H0 := Lib.hid hst.out
    clear hst x0 x1 x2 x3 x4 x5 x6 x7 x8 x9 x10 x11 xf HX RD XS
    obtain ⟨x0, x1, x2, x3, x4, x5, x6, x7, x8, x9, x10, x11, xf⟩ := cells12 H0.out.1
    go_step
    go_step
    go_cut [] (fun wx => ∃ A2 c2 A3 c3, Hid (OSt w wx rp (restA t d).1 (.slice none 0 0) (.slice A2 (restA t d).1.fa.length c2) (.slice A3 (restA t d).1.fu.length c3) t (restA t d).2.1 (restA t d).2.2 ∧ (restA t d).1.c.l.length = 0))
    case first =>
      have Z3 := fun (W : World) (F : Nat → Prop) d r f q => AM.zero W F d r f q
      by_cases h4 : d = 4
      · subst h4
        have E4 := Lib.hid (show restA t 4 = (⟨4, zeroCm, (numR t 0 false 8).1, (numR t (numR t 0 false 8).2.1 (numR t 0 false 8).2.2 8).1, 0, [], []⟩, (numR t (numR t 0 false 8).2.1 (numR t 0 false 8).2.2 8).2) from rfl)
        have R1 := rnum_any H0.out.2.2.1 8
        have R2 := Lib.hid (fun W G (h : Rdr W rp G t (numR t 0 false 8).2.1 (numR t 0 false 8).2.2) => rnum_any h 8)
        generalize (numR t 0 false 8).1 = za at *
        generalize (numR t 0 false 8).2.1 = ka at *
        generalize (numR t 0 false 8).2.2 = ba at *
        generalize numR t ka ba 8 = qb at *
        obtain ⟨zb, kb, bb⟩ := qb
        go_wp2_with fail
        with_reducible refine R1.mono ?_
        rintro e w3 ⟨rfl, hr⟩
        have Q1 := Lib.hid (H0.out.num hr)
        clear hr R1 x0 x1 x2 x3 x4 x5 x6 x7 x8 x9 x10 x11 xf
        obtain ⟨x0, x1, x2, x3, x4, x5, x6, x7, x8, x9, x10, x11, xf⟩ := cells12 Q1.out.1
        go_upto_region 11 with fail
        refine wp_world (S := fun X2 => OSt w X2 rp ⟨4, zeroCm, za, 0, 0, [], []⟩ (.slice none 0 0) (.slice none 0 0) (.slice none 0 0) t ka ba) (Q1.out.set 7 (.int .i64 za) (Z3 _ _ _ _ _ _) rfl) ?_
        intro X2 hX2
        have H2 := Lib.hid hX2
        clear hX2 x0 x1 x2 x3 x4 x5 x6 x7 x8 x9 x10 x11 xf Q1
        obtain ⟨x0, x1, x2, x3, x4, x5, x6, x7, x8, x9, x10, x11, xf⟩ := cells12 H2.out.1
        have R3 := R2.out _ _ H2.out.2.2.1
        go_wp2_with fail
        with_reducible refine R3.mono ?_
        rintro e w4 ⟨rfl, hr⟩
        have Q2 := Lib.hid (H2.out.num hr)
        clear hr R2 R3 x0 x1 x2 x3 x4 x5 x6 x7 x8 x9 x10 x11 xf
        obtain ⟨x0, x1, x2, x3, x4, x5, x6, x7, x8, x9, x10, x11, xf⟩ := cells12 Q2.out.1
        go_wp2_with fail
        go_meet
        refine ⟨none, 0, none, 0, ?_⟩
        rw [E4.out]
        exact Lib.hid ⟨Q2.out.set 8 (.int .i64 zb) (Z3 _ _ _ _ _ _) rfl, rfl⟩
      have e4 : (d == 4) = false := by simp [h4]
      by_cases h5 : d = 5
      · subst h5
        have E5 := Lib.hid (show restA t 5 = (⟨5, zeroCm, 0, 0, (numR t 0 false 8).1, [], []⟩, (numR t 0 false 8).2) from rfl)
        have R1 := rnum_any H0.out.2.2.1 8
        generalize numR t 0 false 8 = qb at *
        obtain ⟨za, ka, ba⟩ := qb
        go_wp2_with fail
        with_reducible refine R1.mono ?_
        rintro e w3 ⟨rfl, hr⟩
        have Q1 := Lib.hid (H0.out.num hr)
        clear hr R1 x0 x1 x2 x3 x4 x5 x6 x7 x8 x9 x10 x11 xf
        obtain ⟨x0, x1, x2, x3, x4, x5, x6, x7, x8, x9, x10, x11, xf⟩ := cells12 Q1.out.1
        go_wp2_with fail
        go_meet
        refine ⟨none, 0, none, 0, ?_⟩
        rw [E5.out]
        exact Lib.hid ⟨Q1.out.set 9 (.int .i64 za) (Z3 _ _ _ _ _ _) rfl, rfl⟩
      have e5 : (d == 5) = false := by simp [h5]
      by_cases h6' : d = 6
      · subst h6'
        have E6 := Lib.hid (show restA t 6 = (⟨6, zeroCm, 0, 0, 0, (crashR t 0 false).1, (crashR t 0 false).2.1⟩, (crashR t 0 false).2.2) from rfl)
        have R1 := crash_any H0.out.2.2.1
        generalize crashR t 0 false = qb at *
        obtain ⟨fa, fu, ka, ba⟩ := qb
        go_wp2_with fail
        with_reducible refine R1.mono ?_
        rintro e w3 ⟨A2, c2, A3, c3, rfl, hf, hu, hr⟩
        have Q1 := Lib.hid (H0.out.num hr)
        have hz : w.heap.size < wc.heap.size ∧ rp < wc.heap.size := by
          have := H0.out.1.lt
          obtain ⟨vs, hh, _⟩ := H0.out.2.2.1
          exact ⟨this, (Array.getElem?_eq_some_iff.1 hh).1⟩
        have HF := Lib.hid (hf.mono (G := fun b => w.heap.size < b ∧ b ≠ rp) (fun b _ h => by omega))
        have HU := Lib.hid (hu.mono (G := fun b => w.heap.size < b ∧ b ≠ rp) (fun b _ h => by omega))
        clear hr R1 x0 x1 x2 x3 x4 x5 x6 x7 x8 x9 x10 x11 xf hf hu
        obtain ⟨x0, x1, x2, x3, x4, x5, x6, x7, x8, x9, x10, x11, xf⟩ := cells12 Q1.out.1
        go_wp2_with fail
        go_meet
        refine ⟨A2, c2, A3, c3, ?_⟩
        rw [E6.out]
        have S1 := Q1.out.set (x' := ⟨6, zeroCm, 0, 0, 0, fa, []⟩) (v1 := .slice none 0 0) (v2 := .slice A2 fa.length c2) (v3 := .slice none 0 0) 10 (.slice A2 fa.length c2) ⟨By.nil _ _, HF.out, ML.nil _ _ _ _⟩ rfl
        have hk : Keep (fun b => b = w.heap.size) w3 (w3.setCell ⟨w.heap.size, 10, none⟩ (.slice A2 fa.length c2)) := Keep.setCell (S := fun b => b = w.heap.size) (p := ⟨w.heap.size, 10, none⟩) (Keep.refl _ w3) (.inr rfl) _
        exact Lib.hid ⟨S1.set (x' := ⟨6, zeroCm, 0, 0, 0, fa, fu⟩) (v1 := .slice none 0 0) (v2 := .slice A2 fa.length c2) (v3 := .slice A3 fu.length c3) 11 (.slice A3 fu.length c3) ⟨By.nil _ _, HF.out.keep hk (fun b _ h e => by omega), HU.out.keep hk (fun b _ h e => by omega)⟩ rfl, rfl⟩
      have e6 : (d == 6) = false := by simp [h6']
      have E7 := Lib.hid (show restA t d = (⟨d, zeroCm, 0, 0, 0, [], []⟩, 0, false) by unfold restA; rw [if_neg h4, if_neg h5, if_neg h6'])
      go_wp2_with fail
      go_meet
      refine ⟨none, 0, none, 0, ?_⟩
      rw [E7.out]
      exact Lib.hid ⟨H0.out, rfl⟩
    case rest =>
      obtain ⟨A2, c2, A3, c3, hst⟩ := hcut
      have H1 := Lib.hid hst.out.1
      have CZ := Lib.hid hst.out.2
      clear hst x0 x1 x2 x3 x4 x5 x6 x7 x8 x9 x10 x11 xf H0
      generalize restA t d = r at *
      obtain ⟨y, k, bad⟩ := r
      simp only at H1 CZ RES
      obtain ⟨x0, x1, x2, x3, x4, x5, x6, x7, x8, x9, x10, x11, xf⟩ := cells12 H1.out.1
      have OK := rok_any H1.out.2.2.1
      cases bad
      · have LF := Lib.hid (fun W' (hk : Keep (fun x => x = w.heap.size) wc W') => rleft_any (rdr_keep H1.out.2.2.1 hk (by have := H1.out.2.2.2.1; omega) (fun x _ h e => by omega)))
        have hkl : k ≤ t.length := by obtain ⟨_, _, _, _, h, _⟩ := H1.out.2.2.1; exact h
        have htl : t.length ≤ n := by have := TL.out; omega
        generalize t.length = tl at *
        have hn9 : n ≤ 1000000000 := by exact HN.out
        have ew : IntKind.i64.wrap ((n : Int) - ((tl : Int) - k)) = (n : Int) - ((tl : Int) - k) := IntWalk.i64_in _ (by omega)
        have HR := Lib.hid (show wc.heap[w.heap.size]? = some (.cells #[.int .i64 y.do_, .int .i64 y.c.do_, .bool y.c.loc, .int .i64 y.c.idx, .int .i64 y.c.gen, .int .i64 y.c.comp, .slice none 0 0, .int .i64 y.room, .int .i64 y.frames, .int .i64 y.n, .slice A2 y.fa.length c2, .slice A3 y.fu.length c3] 45 (0, 0)) from H1.out.1)
        have hr7 := Lib.hid (show ∀ W', Keep (fun x => x = w.heap.size) wc W' → W'.heap[w.heap.size]? = some (.cells #[.int .i64 y.do_, .int .i64 y.c.do_, .bool y.c.loc, .int .i64 y.c.idx, .int .i64 y.c.gen, .int .i64 y.c.comp, .slice none 0 0, .int .i64 y.room, .int .i64 y.frames, .int .i64 y.n, .slice A2 y.fa.length c2, .slice A3 y.fu.length c3] 45 (0, 0)) → (W'.cell? ⟨w.heap.size, 0, none⟩ = some (.int .i64 y.do_) ∧ W'.cell? ⟨w.heap.size, 1, none⟩ = some (.int .i64 y.c.do_) ∧ W'.cell? ⟨w.heap.size, 2, none⟩ = some (.bool y.c.loc) ∧ W'.cell? ⟨w.heap.size, 3, none⟩ = some (.int .i64 y.c.idx) ∧ W'.cell? ⟨w.heap.size, 4, none⟩ = some (.int .i64 y.c.gen) ∧ W'.cell? ⟨w.heap.size, 5, none⟩ = some (.int .i64 y.c.comp) ∧ W'.cell? ⟨w.heap.size, 6, none⟩ = some (.slice none 0 0) ∧ W'.cell? ⟨w.heap.size, 7, none⟩ = some (.int .i64 y.room) ∧ W'.cell? ⟨w.heap.size, 8, none⟩ = some (.int .i64 y.frames) ∧ W'.cell? ⟨w.heap.size, 9, none⟩ = some (.int .i64 y.n) ∧ W'.cell? ⟨w.heap.size, 10, none⟩ = some (.slice A2 y.fa.length c2) ∧ W'.cell? ⟨w.heap.size, 11, none⟩ = some (.slice A3 y.fu.length c3) ∧ Keep (fun x => x = w.heap.size) wc W') from fun W' hk hh => by
          obtain ⟨z0, z1, z2, z3, z4, z5, z6, z7, z8, z9, z10, z11, zf⟩ := cells12 hh
          exact ⟨z0, z1, z2, z3, z4, z5, z6, z7, z8, z9, z10, z11, hk⟩)
        go_wp2_with fail
        with_reducible refine OK.mono ?_
        rintro e w3 ⟨rfl, rfl⟩
        go_upto_region 18 with fail
        go_region_held3 (fun W' => W'.cell? ⟨w.heap.size, 0, none⟩ = some (.int .i64 y.do_) ∧ W'.cell? ⟨w.heap.size, 1, none⟩ = some (.int .i64 y.c.do_) ∧ W'.cell? ⟨w.heap.size, 2, none⟩ = some (.bool y.c.loc) ∧ W'.cell? ⟨w.heap.size, 3, none⟩ = some (.int .i64 y.c.idx) ∧ W'.cell? ⟨w.heap.size, 4, none⟩ = some (.int .i64 y.c.gen) ∧ W'.cell? ⟨w.heap.size, 5, none⟩ = some (.int .i64 y.c.comp) ∧ W'.cell? ⟨w.heap.size, 6, none⟩ = some (.slice none 0 0) ∧ W'.cell? ⟨w.heap.size, 7, none⟩ = some (.int .i64 y.room) ∧ W'.cell? ⟨w.heap.size, 8, none⟩ = some (.int .i64 y.frames) ∧ W'.cell? ⟨w.heap.size, 9, none⟩ = some (.int .i64 y.n) ∧ W'.cell? ⟨w.heap.size, 10, none⟩ = some (.slice A2 y.fa.length c2) ∧ W'.cell? ⟨w.heap.size, 11, none⟩ = some (.slice A3 y.fu.length c3) ∧ Keep (fun x => x = w.heap.size) wc W') ((refine hr7.out _ ?_ ?_; (focus (repeat (with_reducible refine Keep.drew ?_)); first | (with_reducible exact Keep.refl _ _) | (with_reducible exact keepS12 _ _ _ _ _ _ _ _ _ _ _ _ _ _)); (focus (try simp only [heap_drew']); first | (with_reducible exact HR.out) | (with_reducible exact stored12 HR.out _ _ _ _ _ _ _ _ _ _ _ _))))
          (first
            | (go_at_call 90; (with_reducible refine (LF.out _ (by repeat first | exact Keep.refl _ _ | refine Keep.drew ?_)).mono ?_); rintro e w7 ⟨rfl, rfl⟩)
            | fail)
        go_wp2
        have KK := keepS12 wc w.heap.size (.int .i64 y.do_) (.int .i64 y.c.do_) (.bool y.c.loc) (.int .i64 y.c.idx) (.int .i64 y.c.gen) (.int .i64 y.c.comp) (.slice none 0 0) (.int .i64 y.room) (.int .i64 y.frames) (.int .i64 y.n) (.slice A2 y.fa.length c2) (.slice A3 y.fu.length c3)
        have HS := stored12 HR.out (.int .i64 y.do_) (.int .i64 y.c.do_) (.bool y.c.loc) (.int .i64 y.c.idx) (.int .i64 y.c.gen) (.int .i64 y.c.comp) (.slice none 0 0) (.int .i64 y.room) (.int .i64 y.frames) (.int .i64 y.n) (.slice A2 y.fa.length c2) (.slice A3 y.fu.length c3)
        generalize ((((((((((((wc.setCell ⟨w.heap.size, 0, none⟩ (.int .i64 y.do_)).setCell ⟨w.heap.size, 1, none⟩ (.int .i64 y.c.do_)).setCell ⟨w.heap.size, 2, none⟩ (.bool y.c.loc)).setCell ⟨w.heap.size, 3, none⟩ (.int .i64 y.c.idx)).setCell ⟨w.heap.size, 4, none⟩ (.int .i64 y.c.gen)).setCell ⟨w.heap.size, 5, none⟩ (.int .i64 y.c.comp)).setCell ⟨w.heap.size, 6, none⟩ (.slice none 0 0)).setCell ⟨w.heap.size, 7, none⟩ (.int .i64 y.room)).setCell ⟨w.heap.size, 8, none⟩ (.int .i64 y.frames)).setCell ⟨w.heap.size, 9, none⟩ (.int .i64 y.n)).setCell ⟨w.heap.size, 10, none⟩ (.slice A2 y.fa.length c2)).setCell ⟨w.heap.size, 11, none⟩ (.slice A3 y.fu.length c3)) = W7 at KK HS ⊢
        refine bodyPost_ret (results_act3 rfl _ _ w.heap.size _ _ _ _ _ _ _ _ _ _ _ _ rfl (by exact HS) _ _ rfl rfl) rfl ?_
        have RE := RES.out
        rw [if_neg (by simp)] at RE
        rw [RE]
        have KD : Keep (fun b => b = w.heap.size) wc _ := KK
        refine ⟨none, 0, A2, c2, A3, c3, ?_, ?_, ?_⟩
        · simp only [CZ.out]; rfl
        · simp only [CZ.out]
          exact (H1.out.2.1.keep KD.drew (fun b _ h e => by omega)).mono (fun b _ h => by omega)
        · exact ((Keep.of_below H1.out.2.2.2.2).trans KD.drew.drew (fun b _ e => by omega)).to_below (Nat.le_refl _)
      · go_wp2_with fail
        with_reducible refine OK.mono ?_
        rintro e w3 ⟨rfl, rfl⟩
        go_wp2
        have KK := keepS12 wc w.heap.size (.int .i64 0) (.int .i64 0) (.bool false) (.int .i64 0) (.int .i64 0) (.int .i64 0) (.slice none 0 0) (.int .i64 0) (.int .i64 0) (.int .i64 0) (.slice none 0 0) (.slice none 0 0)
        have HS := stored12 H1.out.1 (.int .i64 0) (.int .i64 0) (.bool false) (.int .i64 0) (.int .i64 0) (.int .i64 0) (.slice none 0 0) (.int .i64 0) (.int .i64 0) (.int .i64 0) (.slice none 0 0) (.slice none 0 0)
        generalize ((((((((((((wc.setCell ⟨w.heap.size, 0, none⟩ (.int .i64 0)).setCell ⟨w.heap.size, 1, none⟩ (.int .i64 0)).setCell ⟨w.heap.size, 2, none⟩ (.bool false)).setCell ⟨w.heap.size, 3, none⟩ (.int .i64 0)).setCell ⟨w.heap.size, 4, none⟩ (.int .i64 0)).setCell ⟨w.heap.size, 5, none⟩ (.int .i64 0)).setCell ⟨w.heap.size, 6, none⟩ (.slice none 0 0)).setCell ⟨w.heap.size, 7, none⟩ (.int .i64 0)).setCell ⟨w.heap.size, 8, none⟩ (.int .i64 0)).setCell ⟨w.heap.size, 9, none⟩ (.int .i64 0)).setCell ⟨w.heap.size, 10, none⟩ (.slice none 0 0)).setCell ⟨w.heap.size, 11, none⟩ (.slice none 0 0)) = W7 at KK HS ⊢
        refine bodyPost_ret (results_act3 rfl _ _ w.heap.size _ _ _ _ _ _ _ _ _ _ _ _ rfl (by exact HS) _ _ rfl rfl) rfl ?_
        have RE := RES.out
        rw [if_pos (by simp)] at RE
        rw [RE]
        exact ⟨none, 0, none, 0, none, 0, rfl, AM.zero _ _ _ _ _ _, ((Keep.of_below H1.out.2.2.2.2).trans KK (fun b _ e => by omega)).to_below (Nat.le_refl _)⟩
set_option maxHeartbeats 8000000 in
theorem sone_0 (b : List UInt8) (v : Value) (F : Nat → Prop) (a : Nat) (w : World) (hv : By w F v b) (hn : b.length ≤ 1000000000) (ha : a < b.length) (h0 : byteA b a = 0) :
    Calls Try.prog 110 #[v, .int .i64 (a : Nat)] w (OPost (fun x => w.heap.size ≤ x) w (oneP b a)) := by
  have HV := Lib.hid hv
  have bx := bv_at (l := b) (k := a) ha
  obtain ⟨A, c, rfl, hbc, hcm, hnil, hrd⟩ := id hv
  obtain ⟨gb, go, rfl, -, q1⟩ := hrd.at_ (show a < b.length * 1 by omega)
  have c1 := q1 a _ bx.1
  have OP := Lib.hid (show oneP b a = _ from rfl)
  have hd0 : (0 : Int) ≤ byteA b a := by unfold byteA; omega
  have hd1 : byteA b a ≤ 255 := by unfold byteA; have := (b.getD a 0).toNat_lt; omega
  have BA := Lib.hid (show ((b.getD a 0).toNat : Int) = byteA b a from rfl)
  rw [BA.out] at c1
  have c1o : ∀ o : Obj, (w.alloc o).cell? ⟨gb, go + a, none⟩ = some (.int .u8 (byteA b a)) := fun o => ((Keep.refl (fun _ => False) w).alloc o).cell (fun h => h) c1
  have HN := Lib.hid hn
  have HL := Lib.hid ha
  clear hv q1 bx hrd hnil hn
  have h00 : (0 : Int) ≤ (a : Int) := by omega
  have h01 : (a : Int) < (b.length : Int) := by omega
  obtain ⟨s, es⟩ : ∃ s : Nat, s = a + 1 := ⟨_, rfl⟩
  have E := Lib.hid (show oneP b a = (⟨0, (getP b (s : Nat)).1, 0, 0, 0, [], []⟩, (getP b (s : Nat)).2.1, (getP b (s : Nat)).2.2) by unfold oneP; rw [if_neg (by omega), if_pos h0, es])
  rw [E.out]
  clear OP E
  have GP := Lib.hid (fun W (hk : Keep (fun _ => False) w W) => cget_any b _ F (s : Int) W (HV.out.keep hk (fun _ _ _ h => h)) (by have := HN.out; omega) (by omega) (by have := HN.out; omega))
  generalize getP b (s : Int) = r at *
  obtain ⟨y, nx, er⟩ := r
  have es1 : (a : Int) + 1 = (s : Int) := by omega
  have hws : IntKind.i64.wrap (s : Int) = (s : Int) := IntWalk.i64_in _ (by have := HN.out; omega)
  have hsn : (s : Int) ≤ (b.length : Int) := by omega
  have hs0 : (0 : Int) ≤ (s : Int) := by omega
  have ES := Lib.hid es
  clear es
  generalize byteA b a = d at *
  subst h0
  generalize hbn : b.length = n at *
  have HB := Lib.hid hbn
  clear hbn
  have hw : IntKind.i64.wrap 0 = 0 := IntWalk.i64_in _ (by omega)
  go_enter Try.func110, Try.ntmps110
  go_upto_region 2 with fail
  refine wp_world (S := fun X => Ax X w.heap.size ⟨0, zeroCm, 0, 0, 0, [], []⟩ (.slice none 0 0) (.slice none 0 0) (.slice none 0 0) ∧ Below w.heap.size w X) ⟨?c0, ?c1⟩ ?_
  case c0 => first | exact heap_alloc_at _ _ _ rfl | (rw [heap_setCell_same _ _ 0 _ _ _ (heap_alloc_new w _)]; rfl)
  case c1 => exact (by repeat first | exact Below.refl _ _ | refine Below.setCell ?_ (by first | omega | (simp; done) | (simp; omega)) _ | refine Below.alloc ?_ (by first | omega | (simp; done) | (simp; omega)) _ | refine Below.drew ?_ | refine below_drewN ?_ _ | assumption)
  intro X hX
  have HX := Lib.hid hX
  clear hX c1 c1o
  obtain ⟨x0, x1, x2, x3, x4, x5, x6, x7, x8, x9, x10, x11, xf⟩ := cells12 HX.out.1
  have hsX := HX.out.2.size
  have KX := Lib.hid (show Keep (fun _ => False) w X from Keep.of_below' HX.out.2)
  have GP1 := GP.out X KX.out
  unfold GetPost cmdV at GP1
  go_wp2_with fail
  with_reducible refine GP1.mono ?_
  rintro e w1 ⟨A2, n2, c2, rfl, hy, hb⟩
  have e2 : n2 = y.l.length := by
    obtain ⟨_, _, e2, _⟩ := id hy
    injection e2 with _ e2 _
  subst e2
  have hlt := HX.out.1.lt
  have H1 := Lib.hid (show Ax w1 w.heap.size ⟨0, zeroCm, 0, 0, 0, [], []⟩ (.slice none 0 0) (.slice none 0 0) (.slice none 0 0) ∧ By w1 (fun x => w.heap.size < x) (.slice A2 y.l.length c2) y.l ∧ Below w.heap.size w w1 from
    ⟨HX.out.1.keep (Keep.of_below' hb) (fun h => h), hy.mono (fun x _ h => by omega), ((Keep.of_below HX.out.2).trans (Keep.of_below' hb) (fun _ _ h => h.elim)).to_below (Nat.le_refl _)⟩)
  clear hb hy GP1 GP x0 x1 x2 x3 x4 x5 x6 x7 x8 x9 x10 x11 xf
  obtain ⟨x0, x1, x2, x3, x4, x5, x6, x7, x8, x9, x10, x11, xf⟩ := cells12 H1.out.1
  go_upto_region 6 with fail
  refine wp_world (S := fun Z => Ax Z w.heap.size ⟨0, y, 0, 0, 0, [], []⟩ (.slice A2 y.l.length c2) (.slice none 0 0) (.slice none 0 0) ∧ Keep (fun x => x = w.heap.size) w1 Z) (set_cmd H1.out.1 y (.slice A2 y.l.length c2)) ?_
  intro Z hZ
  have HZ := Lib.hid hZ
  clear hZ x0 x1 x2 x3 x4 x5 x6 x7 x8 x9 x10 x11 xf
  obtain ⟨x0, x1, x2, x3, x4, x5, x6, x7, x8, x9, x10, x11, xf⟩ := cells12 HZ.out.1
  go_wp2
  have KK := keepS12 Z w.heap.size (.int .i64 0) (.int .i64 y.do_) (.bool y.loc) (.int .i64 y.idx) (.int .i64 y.gen) (.int .i64 y.comp) (.slice A2 y.l.length c2) (.int .i64 0) (.int .i64 0) (.int .i64 0) (.slice none 0 0) (.slice none 0 0)
  have HS := stored12 HZ.out.1 (.int .i64 0) (.int .i64 y.do_) (.bool y.loc) (.int .i64 y.idx) (.int .i64 y.gen) (.int .i64 y.comp) (.slice A2 y.l.length c2) (.int .i64 0) (.int .i64 0) (.int .i64 0) (.slice none 0 0) (.slice none 0 0)
  generalize ((((((((((((Z.setCell ⟨w.heap.size, 0, none⟩ (.int .i64 0)).setCell ⟨w.heap.size, 1, none⟩ (.int .i64 y.do_)).setCell ⟨w.heap.size, 2, none⟩ (.bool y.loc)).setCell ⟨w.heap.size, 3, none⟩ (.int .i64 y.idx)).setCell ⟨w.heap.size, 4, none⟩ (.int .i64 y.gen)).setCell ⟨w.heap.size, 5, none⟩ (.int .i64 y.comp)).setCell ⟨w.heap.size, 6, none⟩ (.slice A2 y.l.length c2)).setCell ⟨w.heap.size, 7, none⟩ (.int .i64 0)).setCell ⟨w.heap.size, 8, none⟩ (.int .i64 0)).setCell ⟨w.heap.size, 9, none⟩ (.int .i64 0)).setCell ⟨w.heap.size, 10, none⟩ (.slice none 0 0)).setCell ⟨w.heap.size, 11, none⟩ (.slice none 0 0)) = W7 at KK HS ⊢
  refine bodyPost_ret (results_act3 rfl _ _ w.heap.size _ _ _ _ _ _ _ _ _ _ _ _ rfl (by exact HS) _ _ rfl rfl) rfl ?_
  have KF := HZ.out.2.trans KK (fun _ _ h => h)
  exact ⟨A2, c2, none, 0, none, 0, rfl, ⟨(H1.out.2.1.keep KF (fun b _ h e => by omega)).mono (fun b _ h => by omega), ML.nil _ _ _ _, ML.nil _ _ _ _⟩, ((Keep.of_below H1.out.2.2).trans KF (fun b _ e => by omega)).to_below (Nat.le_refl _)⟩
theorem sone_any (b : List UInt8) (v : Value) (F : Nat → Prop) (a : Nat) (w : World) (hv : By w F v b) (hn : b.length ≤ 1000000000) (ha : a < b.length) :
    Calls Try.prog 110 #[v, .int .i64 (a : Nat)] w (OPost (fun x => w.heap.size ≤ x) w (oneP b a)) := by
  by_cases h6 : 6 < byteA b a
  · exact sone_form b v F a w hv hn ha h6
  by_cases h0 : byteA b a = 0
  · exact sone_0 b v F a w hv hn ha h0
  · exact sone_rest b v F a w hv hn ha (by have : 0 ≤ byteA b a := by unfold byteA; omega
                                           omega) (by omega)
end Go.Proofs.Ythkgchlndfcmpaa

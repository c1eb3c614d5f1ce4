/- Contract of comp.Get. Printed by gencompe.py. -/
import Derived.Test.YtakchlaoimnnhaaComp6
import Derived.Test.YtakchlaoimnnhaaComp9
import Derived.Deep.RegionLaw
import Derived.Deep.LoopGhost
import Derived.OwnWalk
namespace Go.Proofs.Ytakchlaoimnnhaa
open Go.RowKit
set_option maxRecDepth 100000
set_option linter.unusedVariables false
set_option linter.unusedSimpArgs false

/-- What comp.Get leaves. -/
def GFPost (w : World) (r : Cf × Int) (e : Ending) (w' : World) : Prop :=
  ∃ A n c, e = .returned (.tuple #[confV r.1 (.slice A n c), .int .i64 r.2]) ∧ CL w' (fun b => w.heap.size ≤ b) (.slice A n c) r.1.l ∧ Below w.heap.size w w'
theorem under_conf : Try.prog.underlying 66 = some (.struct (Try.prog.fieldsOf 66)) := by kernel_rfl
theorem size_conf : (Try.prog.info? 66).map (·.size) = some 5 := by kernel_rfl
theorem results_conf2 {fn : Func} {p u : Tmp} (h : fn.results = #[.cell p 66, .tmp u]) (tmps : Array Value) (w : World) (g : Nat) (c0 c1 c2 c3 c4 : Value)
    (hp : tmps.getD p undef = .pointer (some ⟨g, 0, none⟩)) (hg : w.heap[g]? = some (.cells #[c0, c1, c2, c3, c4] 66 (0, 0))) (a : Value) (ha : tmps.getD u undef = a) :
    (results fn tmps).run Try.prog w = .ok (.tuple #[.agg #[c0, c1, c2, c3, c4], a]) w := by
  have hr := run_loadVar_row (P := Try.prog) w g 66 66 _ (0, 0) _ hg under_conf rfl size_conf
  have hp' : tmps[p]?.getD undef = .pointer (some ⟨g, 0, none⟩) := by simpa using hp
  have ha' : tmps[u]?.getD undef = a := by simpa using ha
  simp [results, h, hp', ha', asAddr, hr]
theorem rdr_monoF {w : World} {p : Nat} {F G : Nat → Prop} {l : List UInt8} {k : Nat} {bad : Bool} (h : Rdr w p F l k bad) (hf : ∀ b, b < w.heap.size → F b → G b) (hp : ¬ G p) : Rdr w p G l k bad := by
  obtain ⟨vs, h1, h2, h3, h4⟩ := h
  exact ⟨vs, h1, h2.mono hf, hp, h4⟩
/-- The result's box, the layout's box, the reader. -/
def GW (w : World) (p C : Nat) (b : List UInt8) (v0 v1 v2 v3 : Int) (u : Value) (pl : Nat) (bad : Bool) (W : World) : Prop :=
  W.heap[w.heap.size]? = some (.cells #[.int .i64 0, .int .i64 0, .int .i64 0, .int .i64 0, .slice none 0 0] 66 (0, 0)) ∧
  W.heap[C]? = some (.cells #[.int .i64 v0, .int .i64 v1, .int .i64 v2, .int .i64 v3, u] 66 (0, 0)) ∧
  Rdr W p (fun x => w.heap.size < x ∧ x ≠ p ∧ x < C) b pl bad ∧ Below w.heap.size w W
section
variable {w W W' : World} {p C pl pl' : Nat} {b : List UInt8} {v0 v1 v2 v3 : Int} {u : Value} {bad bad' : Bool} {S : Nat → Prop}
theorem GW.rd (h : GW w p C b v0 v1 v2 v3 u pl bad W) (hn : w.heap.size < p ∧ p < C) (hr : RTo W p (fun x => w.heap.size < x ∧ x ≠ p ∧ x < C) b pl' bad' W') : GW w p C b v0 v1 v2 v3 u pl' bad' W' :=
  ⟨(hr.2.block _ (Array.getElem?_eq_some_iff.1 h.1).1 (by omega)).trans h.1, (hr.2.block _ (Array.getElem?_eq_some_iff.1 h.2.1).1 (by omega)).trans h.2.1, hr.1, ((Keep.of_below h.2.2.2).trans hr.2 (fun x _ e => by omega)).to_below (Nat.le_refl _)⟩
theorem GW.keep (h : GW w p C b v0 v1 v2 v3 u pl bad W) (hn : w.heap.size < p ∧ p < C) (hk : Keep S W W') (hs : ∀ x, S x → C < x) : GW w p C b v0 v1 v2 v3 u pl bad W' :=
  ⟨(hk.block _ (Array.getElem?_eq_some_iff.1 h.1).1 (fun hx => by have := hs _ hx; omega)).trans h.1, (hk.block _ (Array.getElem?_eq_some_iff.1 h.2.1).1 (fun hx => by have := hs _ hx; omega)).trans h.2.1, rdr_keep h.2.2.1 hk (fun hx => by have := hs _ hx; omega) (fun x _ hx hS => by have := hs _ hS; omega), ((Keep.of_below h.2.2.2).trans hk (fun x _ hS => by have := hs _ hS; omega)).to_below (Nat.le_refl _)⟩
theorem keepC (W : World) (C k : Nat) (z : Value) : Keep (fun x => x = C) W (W.setCell ⟨C, k, none⟩ z) := Keep.setCell (S := fun x => x = C) (p := ⟨C, k, none⟩) (Keep.refl _ _) (.inr rfl) _
theorem GW.set_ (h : GW w p C b v0 v1 v2 v3 u pl bad W) (hn : w.heap.size < p ∧ p < C) (k : Nat) (z : Value) {x0 x1 x2 x3 : Int} {y : Value} (hc : (W.setCell ⟨C, k, none⟩ z).heap[C]? = some (.cells #[.int .i64 x0, .int .i64 x1, .int .i64 x2, .int .i64 x3, y] 66 (0, 0))) : GW w p C b x0 x1 x2 x3 y pl bad (W.setCell ⟨C, k, none⟩ z) :=
  ⟨((keepC W C k z).block _ (Array.getElem?_eq_some_iff.1 h.1).1 (by omega)).trans h.1, hc, rdr_keep h.2.2.1 (keepC W C k z) (by omega) (fun x _ hx hS => by omega), ((Keep.of_below h.2.2.2).trans (keepC W C k z) (fun x _ hS => by omega)).to_below (Nat.le_refl _)⟩
theorem GW.set0 (h : GW w p C b v0 v1 v2 v3 u pl bad W) (hn : w.heap.size < p ∧ p < C) (z : Int) : GW w p C b z v1 v2 v3 u pl bad (W.setCell ⟨C, 0, none⟩ (.int .i64 z)) := h.set_ hn 0 _ (by rw [heap_setCell_same W C 0 _ _ _ h.2.1]; rfl)
theorem GW.set1 (h : GW w p C b v0 v1 v2 v3 u pl bad W) (hn : w.heap.size < p ∧ p < C) (z : Int) : GW w p C b v0 z v2 v3 u pl bad (W.setCell ⟨C, 1, none⟩ (.int .i64 z)) := h.set_ hn 1 _ (by rw [heap_setCell_same W C 1 _ _ _ h.2.1]; rfl)
theorem GW.set2 (h : GW w p C b v0 v1 v2 v3 u pl bad W) (hn : w.heap.size < p ∧ p < C) (z : Int) : GW w p C b v0 v1 z v3 u pl bad (W.setCell ⟨C, 2, none⟩ (.int .i64 z)) := h.set_ hn 2 _ (by rw [heap_setCell_same W C 2 _ _ _ h.2.1]; rfl)
theorem GW.set3 (h : GW w p C b v0 v1 v2 v3 u pl bad W) (hn : w.heap.size < p ∧ p < C) (z : Int) : GW w p C b v0 v1 v2 z u pl bad (W.setCell ⟨C, 3, none⟩ (.int .i64 z)) := h.set_ hn 3 _ (by rw [heap_setCell_same W C 3 _ _ _ h.2.1]; rfl)
theorem GW.set4 (h : GW w p C b v0 v1 v2 v3 u pl bad W) (hn : w.heap.size < p ∧ p < C) (z : Value) : GW w p C b v0 v1 v2 v3 z pl bad (W.setCell ⟨C, 4, none⟩ z) := h.set_ hn 4 _ (by rw [heap_setCell_same W C 4 _ _ _ h.2.1]; rfl)
end
/-- Behind k numbers. -/
def I1 (b : List UInt8) (k : Nat) (v0 v1 v2 v3 : Int) (pl : Nat) (bad : Bool) : Prop :=
  (bad = false → pl = 4 * k ∧ 4 * k ≤ b.length ∧ (0 < k → v0 = getZ b (0 : Nat) 4) ∧ (1 < k → v1 = getZ b (4 : Nat) 4) ∧ (2 < k → v2 = getZ b (8 : Nat) 4) ∧ (3 < k → v3 = getZ b (12 : Nat) 4)) ∧ (bad = true → b.length < 17)
theorem I1.next {b : List UInt8} {k pl : Nat} {v0 v1 v2 v3 : Int} {bad : Bool} (h : I1 b k v0 v1 v2 v3 pl bad) (hk : k < 4) :
    I1 b (k + 1) (if k = 0 then (numR b pl bad 4).1 else v0) (if k = 1 then (numR b pl bad 4).1 else v1) (if k = 2 then (numR b pl bad 4).1 else v2) (if k = 3 then (numR b pl bad 4).1 else v3) (numR b pl bad 4).2.1 (numR b pl bad 4).2.2 := by
  cases bad with
  | true =>
    rw [num_bad]
    exact ⟨fun h => by (cases h), fun _ => h.2 rfl⟩
  | false =>
    obtain ⟨e, h1, h2, h3, h4, h5⟩ := h.1 rfl
    subst e
    by_cases hl : 4 * k + 4 ≤ b.length
    · rw [num_ok (by rw [wT4]; exact hl)]
      refine ⟨fun _ => ⟨(by show 4 * k + 4 = 4 * (k + 1); omega), by omega, ?_, ?_, ?_, ?_⟩, fun h => by cases h⟩
      · intro _
        by_cases e : k = 0
        · subst e; rfl
        · rw [if_neg e]; exact h2 (by omega)
      · intro _
        by_cases e : k = 1
        · subst e; rfl
        · rw [if_neg e]; exact h3 (by omega)
      · intro _
        by_cases e : k = 2
        · subst e; rfl
        · rw [if_neg e]; exact h4 (by omega)
      · intro _
        by_cases e : k = 3
        · subst e; rfl
        · rw [if_neg e]; exact h5 (by omega)
    · rw [num_no (by rw [wT4]; omega)]
      exact ⟨fun h => by (cases h), fun _ => by omega⟩
/-- Behind k components. -/
def I2 (b : List UInt8) (k : Nat) (lc : List Cp) (pl : Nat) (bad : Bool) : Prop :=
  (∀ a l, compAt b k = some (a, l) → bad = false ∧ pl = a ∧ lc = l) ∧ (compAt b k = none → bad = true) ∧ lc.length = k
theorem I2.next {b : List UInt8} {k pl : Nat} {lc : List Cp} {bad : Bool} (h : I2 b k lc pl bad) :
    I2 b (k + 1) (lc ++ [⟨⟨(textR b pl bad).1.toArray⟩, (numR b (textR b pl bad).2.1 (textR b pl bad).2.2 1).1⟩]) (numR b (textR b pl bad).2.1 (textR b pl bad).2.2 1).2.1 (numR b (textR b pl bad).2.1 (textR b pl bad).2.2 1).2.2 := by
  obtain ⟨h1, h2, h3⟩ := h
  have hl : ∀ y : Cp, (lc ++ [y]).length = k + 1 := fun y => by rw [List.length_append, h3]; rfl
  cases hc : compAt b k with
  | none =>
    have hb := h2 hc
    subst hb
    have e : compAt b (k + 1) = none := by simp only [compAt, hc, nextC]
    refine ⟨fun a l he => ?_, fun _ => rfl, hl _⟩
    rw [e] at he
    cases he
  | some r =>
    obtain ⟨a, l⟩ := r
    obtain ⟨rfl, rfl, rfl⟩ := h1 a l hc
    by_cases ho : okC b pl
    · have ho2 := ho
      unfold okC at ho2
      have e : compAt b (k + 1) = some (pl + 3 + lenAt b pl, lc ++ [cpAt b pl]) := by simp only [compAt, hc, nextC]; rw [if_pos ho]
      rw [text_ok ho2.1 (by omega)]
      have e2 : numR b (pl + 2 + lenAt b pl) false 1 = (bytC b (pl + 2 + lenAt b pl), pl + 2 + lenAt b pl + 1, false) := by
        rw [num_ok (by rw [wT1]; omega), getZ_b1 (by omega), wT1]
      simp only [e2]
      refine ⟨fun a l he => ?_, fun he => ?_, hl _⟩
      · rw [e] at he
        injection he with he
        injection he with he1 he2
        refine ⟨rfl, by omega, ?_⟩
        rw [← he2]
        rfl
      · rw [e] at he
        cases he
    · have e : compAt b (k + 1) = none := by simp only [compAt, hc, nextC]; rw [if_neg ho]
      have eb : (numR b (textR b pl false).2.1 (textR b pl false).2.2 1).2.2 = true := by
        by_cases ht : pl + 2 ≤ b.length ∧ pl + 2 + lenAt b pl ≤ b.length
        · rw [text_ok ht.1 ht.2]
          have e2 : numR b (pl + 2 + lenAt b pl) false 1 = (0, pl + 2 + lenAt b pl, true) := num_no (by
            rw [wT1]
            unfold okC at ho
            omega)
          simp only [e2]
        · rw [text_no ht]
          rfl
      refine ⟨fun a l he => ?_, fun _ => eb, hl _⟩
      rw [e] at he
      cases he
set_option maxHeartbeats 8000000 in
theorem cgetF_any (b : List UInt8) (v : Value) (F : Nat → Prop) (w : World) (hv : By w F v b) (hn : b.length ≤ 1099511627776) :
    Calls Try.prog 43 #[v] w (GFPost w (getF b)) := by
  have RD := Lib.hid (fun W (hk : Keep (fun _ => False) w W) => read_any b v F W (hv.keep hk (fun _ _ _ h => h)) hn)
  obtain ⟨r, hr⟩ : ∃ r, r = getF b := ⟨_, rfl⟩
  rw [← hr]
  have HR := Lib.hid hr
  clear hr
  obtain ⟨A, c, rfl, -⟩ := hv
  generalize hbl : b.length = n at *
  have NB := Lib.hid hbl
  clear hbl hn
  go_enter Try.func43, Try.ntmps43
  go_wp2_with fail
  refine (RD.out _ (by exact (by repeat first | exact Keep.refl _ _ | refine Keep.alloc ?_ _ | refine Keep.drew ?_ | refine Keep.drewN ?_ _))).mono ?_
  rintro e w1 ⟨rp, rfl, hr, hrp, hb⟩
  have C1 := Lib.hid (show GW w rp w1.heap.size b 0 0 0 0 (.slice none 0 0) 0 false (w1.alloc (.cells #[.int .i64 0, .int .i64 0, .int .i64 0, .int .i64 0, .slice none 0 0] 66 (0, 0))) ∧ (w.heap.size < rp ∧ rp < w1.heap.size) from
    have hsz := hb.size
    have hz : w.heap.size < w1.heap.size := by simp at hsz; omega
    have hrp2 : rp < w1.heap.size := by obtain ⟨vs, hh, _⟩ := hr; exact (Array.getElem?_eq_some_iff.1 hh).1
    have hrp3 : w.heap.size < rp := by simp at hrp; omega
    have hrd : Rdr w1 rp (fun x => w.heap.size < x ∧ x ≠ rp ∧ x < w1.heap.size) b 0 false := rdr_monoF hr (fun x hx hh => ⟨by have := hh.1; simp at this; omega, hh.2, hx⟩) (by omega)
    ⟨⟨(heap_alloc_old w1 _ hz).trans ((hb.block w.heap.size (by simp)).trans (heap_alloc_new w _)), heap_alloc_new w1 _, rdr_keep hrd ((Keep.refl (fun _ => False) w1).alloc _) (fun h => h) (fun _ _ _ h => h), (((Below.refl _ w).alloc (Nat.le_refl _) _).trans (hb.mono (by simp))).alloc (by omega) _⟩, hrp3, hrp2⟩)
  have HN := Lib.hid C1.out.2
  clear hr hrp hb RD
  go_upto_region 3 with fail
  refine wp_world (S := fun X => GW w rp w1.heap.size b 0 0 0 0 (.slice none 0 0) 0 false X ∧ w1.heap.size < X.heap.size) ⟨C1.out.1, by simp⟩ ?_
  intro X hX
  have HX := Lib.hid hX
  clear hX C1
  generalize w1.heap.size = C at *
  go_upto_region 4 with fail
  refine wp_world (S := fun Y => GW w rp C b 0 0 0 0 (.slice none 0 0) 0 false Y ∧ Y.heap[X.heap.size]? = some (.cells #[.pointer (some ⟨C, 0, none⟩), .pointer (some ⟨C, 1, none⟩), .pointer (some ⟨C, 2, none⟩), .pointer (some ⟨C, 3, none⟩)] 109 (0, 0))) ⟨HX.out.1.keep (S := fun _ => False) HN.out ((Keep.refl _ X).alloc _) (fun _ h => h.elim), heap_alloc_new X _⟩ ?_
  intro Y hY
  have HY := Lib.hid hY
  have HQ := Lib.hid HX.out.2
  clear hY HX
  generalize X.heap.size = Q at *
  go_loopw [18] (fun i wr => ∃ k : Nat, k ≤ 4 ∧ i = .int .i64 k ∧ ∃ v0 v1 v2 v3 pl bad, Hid (GW w rp C b v0 v1 v2 v3 (.slice none 0 0) pl bad wr ∧ wr.heap[Q]? = some (.cells #[.pointer (some ⟨C, 0, none⟩), .pointer (some ⟨C, 1, none⟩), .pointer (some ⟨C, 2, none⟩), .pointer (some ⟨C, 3, none⟩)] 109 (0, 0))) ∧ Hid (I1 b k v0 v1 v2 v3 pl bad)) (fun i _ => 4 - (intOf i).toNat)
  case atStart => exact ⟨0, by omega, rfl, 0, 0, 0, 0, 0, false, HY, Lib.hid ⟨fun _ => ⟨rfl, by omega, fun h => by omega, fun h => by omega, fun h => by omega, fun h => by omega⟩, fun h => by cases h⟩⟩
  case round =>
    obtain ⟨k, hk, rfl, v0, v1, v2, v3, pl, bad, HG, HI⟩ := hrel
    obtain ⟨y0, y1, y2, y3, yf⟩ := cells4 HG.out.2
    have NU := Lib.hid (fun width => rnum_any HG.out.1.2.2.1 width)
    rcases (show k = 0 ∨ k = 1 ∨ k = 2 ∨ k = 3 ∨ k = 4 by omega) with rfl | rfl | rfl | rfl | rfl
    · have IN := Lib.hid (HI.out.next (by omega))
      have NU4 := Lib.hid (NU.out 4)
      obtain ⟨a1, a2, a3, ha⟩ : ∃ a1 a2 a3, numR b pl bad 4 = (a1, a2, a3) := ⟨_, _, _, rfl⟩
      rw [ha] at NU4 IN
      clear ha NU
      go_wp2_with fail
      with_reducible refine NU4.out.mono ?_
      rintro e w3 ⟨rfl, h3⟩
      have HG3 := Lib.hid (And.intro (HG.out.1.rd HN.out h3) ((h3.2.block _ (Array.getElem?_eq_some_iff.1 HG.out.2).1 (by have := HN.out; have := HQ.out; omega)).trans HG.out.2))
      clear h3 y0 y1 y2 y3 yf
      obtain ⟨z0, z1, z2, z3, z4, zf⟩ := cells5 HG3.out.1.2.1
      have HG4 := Lib.hid (And.intro (HG3.out.1.set0 HN.out a1) (((keepC w3 C 0 (.int .i64 a1)).block _ (Array.getElem?_eq_some_iff.1 HG3.out.2).1 (by have := HQ.out; omega)).trans HG3.out.2))
      go_wp2
      go_roundw
      case rel => exact ⟨1, by omega, by first | rfl | trivial | go_num, a1, v1, v2, v3, a2, a3, HG4, IN⟩
      case measure => simp [intOf]
    · have IN := Lib.hid (HI.out.next (by omega))
      have NU4 := Lib.hid (NU.out 4)
      obtain ⟨a1, a2, a3, ha⟩ : ∃ a1 a2 a3, numR b pl bad 4 = (a1, a2, a3) := ⟨_, _, _, rfl⟩
      rw [ha] at NU4 IN
      clear ha NU
      go_wp2_with fail
      with_reducible refine NU4.out.mono ?_
      rintro e w3 ⟨rfl, h3⟩
      have HG3 := Lib.hid (And.intro (HG.out.1.rd HN.out h3) ((h3.2.block _ (Array.getElem?_eq_some_iff.1 HG.out.2).1 (by have := HN.out; have := HQ.out; omega)).trans HG.out.2))
      clear h3 y0 y1 y2 y3 yf
      obtain ⟨z0, z1, z2, z3, z4, zf⟩ := cells5 HG3.out.1.2.1
      have HG4 := Lib.hid (And.intro (HG3.out.1.set1 HN.out a1) (((keepC w3 C 1 (.int .i64 a1)).block _ (Array.getElem?_eq_some_iff.1 HG3.out.2).1 (by have := HQ.out; omega)).trans HG3.out.2))
      go_wp2
      go_roundw
      case rel => exact ⟨2, by omega, by first | rfl | trivial | go_num, v0, a1, v2, v3, a2, a3, HG4, IN⟩
      case measure => simp [intOf]
    · have IN := Lib.hid (HI.out.next (by omega))
      have NU4 := Lib.hid (NU.out 4)
      obtain ⟨a1, a2, a3, ha⟩ : ∃ a1 a2 a3, numR b pl bad 4 = (a1, a2, a3) := ⟨_, _, _, rfl⟩
      rw [ha] at NU4 IN
      clear ha NU
      go_wp2_with fail
      with_reducible refine NU4.out.mono ?_
      rintro e w3 ⟨rfl, h3⟩
      have HG3 := Lib.hid (And.intro (HG.out.1.rd HN.out h3) ((h3.2.block _ (Array.getElem?_eq_some_iff.1 HG.out.2).1 (by have := HN.out; have := HQ.out; omega)).trans HG.out.2))
      clear h3 y0 y1 y2 y3 yf
      obtain ⟨z0, z1, z2, z3, z4, zf⟩ := cells5 HG3.out.1.2.1
      have HG4 := Lib.hid (And.intro (HG3.out.1.set2 HN.out a1) (((keepC w3 C 2 (.int .i64 a1)).block _ (Array.getElem?_eq_some_iff.1 HG3.out.2).1 (by have := HQ.out; omega)).trans HG3.out.2))
      go_wp2
      go_roundw
      case rel => exact ⟨3, by omega, by first | rfl | trivial | go_num, v0, v1, a1, v3, a2, a3, HG4, IN⟩
      case measure => simp [intOf]
    · have IN := Lib.hid (HI.out.next (by omega))
      have NU4 := Lib.hid (NU.out 4)
      obtain ⟨a1, a2, a3, ha⟩ : ∃ a1 a2 a3, numR b pl bad 4 = (a1, a2, a3) := ⟨_, _, _, rfl⟩
      rw [ha] at NU4 IN
      clear ha NU
      go_wp2_with fail
      with_reducible refine NU4.out.mono ?_
      rintro e w3 ⟨rfl, h3⟩
      have HG3 := Lib.hid (And.intro (HG.out.1.rd HN.out h3) ((h3.2.block _ (Array.getElem?_eq_some_iff.1 HG.out.2).1 (by have := HN.out; have := HQ.out; omega)).trans HG.out.2))
      clear h3 y0 y1 y2 y3 yf
      obtain ⟨z0, z1, z2, z3, z4, zf⟩ := cells5 HG3.out.1.2.1
      have HG4 := Lib.hid (And.intro (HG3.out.1.set3 HN.out a1) (((keepC w3 C 3 (.int .i64 a1)).block _ (Array.getElem?_eq_some_iff.1 HG3.out.2).1 (by have := HQ.out; omega)).trans HG3.out.2))
      go_wp2
      go_roundw
      case rel => exact ⟨4, by omega, by first | rfl | trivial | go_num, v0, v1, v2, a1, a2, a3, HG4, IN⟩
      case measure => simp [intOf]
    · have hi1 := HI.out
      clear y0 y1 y2 y3 yf HI HY
      by_cases h17 : 17 ≤ b.length
      · obtain ⟨rfl, rfl⟩ : bad = false ∧ pl = 16 := by
          cases bad with
          | true => have := hi1.2 rfl; omega
          | false => exact ⟨rfl, (hi1.1 rfl).1⟩
        obtain ⟨-, -, q0, q1, q2, q3⟩ := hi1.1 rfl
        have HV := Lib.hid (And.intro (q0 (by omega)) (And.intro (q1 (by omega)) (And.intro (q2 (by omega)) (q3 (by omega)))))
        have NU1 := Lib.hid (NU.out 1)
        have e1 : numR b 16 false 1 = (bytC b 16, 17, false) := by
          rw [num_ok (by rw [wT1]; omega), wT1]
          rw [show getZ b ((16 : Nat) : Int) 1 = bytC b 16 from getZ_b1 (by omega)]
        rw [e1] at NU1
        have H17 := Lib.hid h17
        obtain ⟨nb, hnb⟩ := Int.eq_ofNat_of_zero_le (bytC_bd b 16).1
        have hnb2 : nb ≤ 255 := by have := (bytC_bd b 16).2; omega
        have HNB := Lib.hid hnb
        rw [hnb] at NU1
        clear e1 NU q0 q1 q2 q3 hi1 h17 hnb
        go_wp2_with fail
        with_reducible refine NU1.out.mono ?_
        rintro e w3 ⟨rfl, h3⟩
        have HG3 := Lib.hid (And.intro (HG.out.1.rd HN.out h3) (Nat.lt_of_lt_of_le (Array.getElem?_eq_some_iff.1 HG.out.1.2.1).1 h3.2.size))
        clear h3 HG NU1
        go_wp2
        go_loopw [29] (fun i wr => ∃ k : Nat, k ≤ nb ∧ i = .int .i64 k ∧ ∃ vb lc pl bad, Hid (GW w rp C b v0 v1 v2 v3 vb pl bad wr ∧ Oc wr (C + 1) vb lc ∧ C < wr.heap.size) ∧ Hid (I2 b k lc pl bad)) (fun i _ => nb - (intOf i).toNat)
        case atStart => exact ⟨0, by omega, rfl, .slice none 0 0, [], 17, false, Lib.hid ⟨HG3.out.1, Oc.nil _ _, HG3.out.2⟩, Lib.hid ⟨(fun a l he => by cases he; exact ⟨rfl, rfl, rfl⟩), (fun he => by cases he), rfl⟩⟩
        case round =>
          obtain ⟨k, hk, rfl, vb, lc, pl, bad, HG, HI⟩ := hrel
          obtain ⟨z0, z1, z2, z3, z4, zf⟩ := cells5 HG.out.1.2.1
          by_cases hlt : k < nb
          · have hi : (k : Int) < (nb : Int) := by omega
            have IN := Lib.hid HI.out.next
            have TX := Lib.hid (rtext_any HG.out.1.2.2.1)
            obtain ⟨t1, t2, t3, ht⟩ : ∃ t1 t2 t3, textR b pl bad = (t1, t2, t3) := ⟨_, _, _, rfl⟩
            rw [ht] at TX IN
            obtain ⟨a1, a2, a3, ha⟩ : ∃ a1 a2 a3, numR b t2 t3 1 = (a1, a2, a3) := ⟨_, _, _, rfl⟩
            simp only [ha] at IN
            have HA := Lib.hid ha
            have hlen := HI.out.2.2
            have hl1 := Lib.hid (show lc.length ≤ 100000 by omega)
            clear ht ha hlen
            generalize (⟨t1.toArray⟩ : ByteArray) = sx at *
            go_wp2_with fail
            with_reducible refine TX.out.mono ?_
            rintro e w4 ⟨rfl, h4⟩
            have HG4 := Lib.hid (And.intro (HG.out.1.rd HN.out h4) (And.intro (HG.out.2.1.keep h4.2 (fun q e h1 h2 h3 => by have := HN.out; omega)) (Nat.lt_of_lt_of_le HG.out.2.2 h4.2.size)))
            clear h4 TX z0 z1 z2 z3 z4 zf
            have NU := Lib.hid (fun W (hk : Keep (fun _ => False) w4 W) => rnum_any (rdr_keep HG4.out.1.2.2.1 hk (fun h => h) (fun _ _ _ h => h)) 1)
            rw [HA.out] at NU
            obtain ⟨z0, z1, z2, z3, z4, zf⟩ := cells5 HG4.out.1.2.1
            go_upto_region 11 with fail
            have zd : w4.drew.cell? ⟨C, 4, none⟩ = some vb := z4
            go_region_law (first
              | (go_simp; go_at_call 66; (with_reducible refine (NU.out _ (by exact (by repeat first | assumption | exact Keep.refl _ _ | refine Keep.alloc ?_ _ | refine Keep.drew ?_ | refine Keep.drewN ?_ _ | refine Keep.setCell ?_ (.inl (by first | omega | (simp; done) | (simp; omega))) _))).mono ?_); rintro e w5 ⟨rfl, h5⟩; have HG5 := Lib.hid (And.intro (GW.rd (GW.keep (S := fun _ => False) HG4.out.1 HN.out (Keep.drew (Keep.refl _ w4)) (fun _ h => h.elim)) HN.out h5) (And.intro ((HG4.out.2.1.keep (Keep.drew (Keep.refl (fun _ => False) w4)) (fun _ _ _ _ h => h)).keep h5.2 (fun q e h1 h2 h3 => by have := HN.out; omega)) (Nat.lt_of_lt_of_le HG4.out.2.2 h5.2.size))); clear h5 z0 z1 z2 z3 z4 zf zd; obtain ⟨z0, z1, z2, z3, z4, zf⟩ := cells5 HG5.out.1.2.1; have za : ∀ o, (w5.alloc o).cell? ⟨C, 4, none⟩ = some vb := fun o => ((Keep.refl (fun _ => False) w5).alloc o).cell (fun h => h) z4)
              | ((refine step_appC (by rfl) _ _ rfl (C + 1) vb lc (by rfl) (by exact HG5.out.2.1.keep (S := fun _ => False) (by repeat first | assumption | exact Keep.refl _ _ | refine Keep.alloc ?_ _ | refine Keep.drew ?_ | refine Keep.drewN ?_ _ | refine Keep.setCell ?_ (.inl (by first | omega | (simp; done) | (simp; omega))) _) (fun _ _ _ _ h => h)) w5.heap.size _ ⟨sx, a1⟩ (by rfl) (by exact (cells2 (heap_alloc_new w5 _)).1) (by exact (cells2 (heap_alloc_new w5 _)).2.1) hl1.out (by have := HG5.out.2.2; simp; omega) ?_); intro A6 c6 w6 ho6 hk6; rw [show (lc ++ [(⟨sx, a1⟩ : Cp)]).length = lc.length + 1 from by simp] at ho6; have HG6 := Lib.hid (And.intro (GW.keep (S := fun k => ownB vb = some k) (GW.keep (S := fun _ => False) HG5.out.1 HN.out (Keep.alloc (Keep.refl _ w5) _) (fun _ h => h.elim)) HN.out hk6 (fun x e => by have := (Own.ownB HG5.out.2.1 x e).1; omega)) (And.intro ho6 (Nat.lt_of_lt_of_le HG5.out.2.2 (Nat.le_trans (by simp) hk6.size)))); clear ho6 hk6 z0 z1 z2 z3 z4 zf za; obtain ⟨z0, z1, z2, z3, z4, zf⟩ := cells5 HG6.out.1.2.1)
              | fail)
            all_goals
              have HG7 := Lib.hid (And.intro (HG6.out.1.set4 HN.out (.slice A6 (lc.length + 1) c6)) (And.intro (HG6.out.2.1.keep (keepC w6 C 4 (.slice A6 (lc.length + 1) c6)) (fun q e h1 h2 h3 => by omega)) (show C < (w6.setCell ⟨C, 4, none⟩ (.slice A6 (lc.length + 1) c6)).heap.size from Nat.lt_of_lt_of_le HG6.out.2.2 (keepC w6 C 4 _).size)))
              go_wp2
              go_roundw
              case rel => exact ⟨k + 1, by omega, by go_num, .slice A6 (lc.length + 1) c6, lc ++ [⟨sx, a1⟩], a2, a3, HG7, IN⟩
              case measure => simp [intOf]; omega
          · obtain rfl : k = nb := by omega
            have hi : ¬ (k : Int) < (k : Int) := by omega
            have OKR := Lib.hid (rok_any HG.out.1.2.2.1)
            clear z0 z1 z2 z3 z4 zf
            cases hca : compAt b k with
            | none =>
              obtain rfl := HI.out.2.1 hca
              have ER := Lib.hid (show r = (zeroF, 12) from by
                rw [HR.out]
                unfold getF
                have := H17.out
                rw [if_neg (by omega), HNB.out, Int.toNat_natCast, hca])
              clear hca HI
              obtain ⟨r0, r1, r2, r3, r4, rf⟩ := cells5 HG.out.1.1
              go_wp2_with fail
              with_reducible refine OKR.out.mono ?_
              rintro e w5 ⟨rfl, rfl⟩
              go_wp2
              have KK := keepS5 wr w.heap.size (.int .i64 0) (.int .i64 0) (.int .i64 0) (.int .i64 0) (.slice none 0 0)
              have HS := stored5 HG.out.1.1 (.int .i64 0) (.int .i64 0) (.int .i64 0) (.int .i64 0) (.slice none 0 0)
              generalize (((((wr.setCell ⟨w.heap.size, 0, none⟩ (.int .i64 0)).setCell ⟨w.heap.size, 1, none⟩ (.int .i64 0)).setCell ⟨w.heap.size, 2, none⟩ (.int .i64 0)).setCell ⟨w.heap.size, 3, none⟩ (.int .i64 0)).setCell ⟨w.heap.size, 4, none⟩ (.slice none 0 0)) = W7 at KK HS ⊢
              refine bodyPost_ret (results_conf2 rfl _ _ w.heap.size _ _ _ _ _ rfl (show W7.heap[w.heap.size]? = _ from HS) _ rfl) rfl ?_
              rw [ER.out]
              exact ⟨none, 0, 0, rfl, CL.nil _ _, ((Keep.of_below HG.out.1.2.2.2).trans KK (fun x _ e => by omega)).to_below (Nat.le_refl _)⟩
            | some q =>
              obtain ⟨a, l⟩ := q
              obtain ⟨rfl, rfl, rfl⟩ := HI.out.1 a l hca
              have GQ := Lib.hid (show getF b = if pl ≠ b.length then (zeroF, 11) else if rightB (hdrF b lc) = false then (zeroF, 1) else (hdrF b lc, 0) from by
                unfold getF
                have := H17.out
                rw [if_neg (by omega), HNB.out, Int.toNat_natCast, hca])
              have hle := (compAt_ok H17.out hca).2
              have LF := Lib.hid (rleft_any HG.out.1.2.2.1)
              clear hca HI
              by_cases hpl : pl = b.length
              · have HF := Lib.hid (show hdrF b lc = ⟨v0, v1, v2, v3, lc⟩ from by
                  have q := HV.out
                  unfold hdrF
                  rw [q.1, q.2.1, q.2.2.1, q.2.2.2])
                have h0 : (b.length : Int) - (pl : Int) = 0 := by omega
                rw [h0] at LF
                obtain ⟨Av, cv, hvb⟩ := HG.out.2.1.form
                subst hvb
                have CH := Lib.hid (fun (W : World) (hk : Keep (fun _ => False) wr W) => ccheckF_any ⟨v0, v1, v2, v3, lc⟩ _ _ W ((HG.out.2.1.keep hk (fun _ _ _ _ h => h)).cl))
                have GQ2 := Lib.hid (show r = if rightB ⟨v0, v1, v2, v3, lc⟩ = false then (zeroF, 1) else (⟨v0, v1, v2, v3, lc⟩, 0) from by rw [HR.out, GQ.out, if_neg (fun h => h hpl), HF.out])
                unfold confV at CH
                unfold checkF at CH
                generalize hrb : rightB ⟨v0, v1, v2, v3, lc⟩ = rb at *
                have HD := Lib.hid (GW.keep (S := fun _ => False) HG.out.1 HN.out (Keep.drew (Keep.refl _ wr)) (fun _ h => h.elim))
                obtain ⟨z0, z1, z2, z3, z4, zf⟩ := cells5 HD.out.2.1
                generalize hll : lc.length = ll at *
                have HLL := Lib.hid hll
                clear hpl hle GQ hrb h0 hll
                cases rb with
                | false =>
                  have ER := Lib.hid (show r = (zeroF, 1) from by rw [GQ2.out, if_pos rfl])
                  have CH1 : Hid (∀ (W : World), Keep (fun _ => False) wr W → Calls Try.prog 82 #[.agg #[.int .i64 v0, .int .i64 v1, .int .i64 v2, .int .i64 v3, .slice Av ll cv]] W fun e w' => e = .returned (.int .i64 1) ∧ Below W.heap.size W w') := CH
                  go_wp2_with fail
                  with_reducible refine OKR.out.mono ?_
                  rintro e w5 ⟨rfl, rfl⟩
                  go_wp2_with fail
                  with_reducible refine LF.out.mono ?_
                  rintro e w5 ⟨rfl, rfl⟩
                  go_wp2_with fail
                  with_reducible refine (CH1.out _ (by exact (by repeat first | assumption | exact Keep.refl _ _ | refine Keep.alloc ?_ _ | refine Keep.drew ?_ | refine Keep.drewN ?_ _ | refine Keep.setCell ?_ (.inl (by first | omega | (simp; done) | (simp; omega))) _))).mono ?_
                  rintro e w6 ⟨rfl, hb6⟩
                  have HE := Lib.hid (GW.keep (S := fun _ => False) HD.out HN.out (Keep.of_below' hb6) (fun _ h => h.elim))
                  clear z0 z1 z2 z3 z4 zf hb6
                  obtain ⟨r0, r1, r2, r3, r4, rf⟩ := cells5 HE.out.1
                  go_wp2
                  have KK := keepS5 w6 w.heap.size (.int .i64 0) (.int .i64 0) (.int .i64 0) (.int .i64 0) (.slice none 0 0)
                  have HS := stored5 HE.out.1 (.int .i64 0) (.int .i64 0) (.int .i64 0) (.int .i64 0) (.slice none 0 0)
                  generalize (((((w6.setCell ⟨w.heap.size, 0, none⟩ (.int .i64 0)).setCell ⟨w.heap.size, 1, none⟩ (.int .i64 0)).setCell ⟨w.heap.size, 2, none⟩ (.int .i64 0)).setCell ⟨w.heap.size, 3, none⟩ (.int .i64 0)).setCell ⟨w.heap.size, 4, none⟩ (.slice none 0 0)) = W7 at KK HS ⊢
                  refine bodyPost_ret (results_conf2 rfl _ _ w.heap.size _ _ _ _ _ rfl (show W7.heap[w.heap.size]? = _ from HS) _ rfl) rfl ?_
                  rw [ER.out]
                  exact ⟨none, 0, 0, rfl, CL.nil _ _, ((Keep.of_below HE.out.2.2.2).trans KK (fun x _ e => by omega)).to_below (Nat.le_refl _)⟩
                | true =>
                  have ER := Lib.hid (show r = (⟨v0, v1, v2, v3, lc⟩, 0) from by rw [GQ2.out, if_neg (by decide)])
                  have CH1 : Hid (∀ (W : World), Keep (fun _ => False) wr W → Calls Try.prog 82 #[.agg #[.int .i64 v0, .int .i64 v1, .int .i64 v2, .int .i64 v3, .slice Av ll cv]] W fun e w' => e = .returned (.int .i64 0) ∧ Below W.heap.size W w') := CH
                  go_wp2_with fail
                  with_reducible refine OKR.out.mono ?_
                  rintro e w5 ⟨rfl, rfl⟩
                  go_wp2_with fail
                  with_reducible refine LF.out.mono ?_
                  rintro e w5 ⟨rfl, rfl⟩
                  go_wp2_with fail
                  with_reducible refine (CH1.out _ (by exact (by repeat first | assumption | exact Keep.refl _ _ | refine Keep.alloc ?_ _ | refine Keep.drew ?_ | refine Keep.drewN ?_ _ | refine Keep.setCell ?_ (.inl (by first | omega | (simp; done) | (simp; omega))) _))).mono ?_
                  rintro e w6 ⟨rfl, hb6⟩
                  have HE := Lib.hid (And.intro (GW.keep (S := fun _ => False) HD.out HN.out (Keep.of_below' hb6) (fun _ h => h.elim)) (show Keep (fun _ => False) wr w6 from Keep.trans (T := fun _ => False) (by exact (by repeat first | assumption | exact Keep.refl _ _ | refine Keep.alloc ?_ _ | refine Keep.drew ?_ | refine Keep.drewN ?_ _ | refine Keep.setCell ?_ (.inl (by first | omega | (simp; done) | (simp; omega))) _)) (Keep.of_below' hb6) (fun _ _ h => h)))
                  clear z0 z1 z2 z3 z4 zf hb6
                  obtain ⟨r0, r1, r2, r3, r4, rf⟩ := cells5 HE.out.1.1
                  obtain ⟨z0, z1, z2, z3, z4, zf⟩ := cells5 HE.out.1.2.1
                  go_wp2
                  have KK := keepS5 w6 w.heap.size (.int .i64 v0) (.int .i64 v1) (.int .i64 v2) (.int .i64 v3) (.slice Av ll cv)
                  have HS := stored5 HE.out.1.1 (.int .i64 v0) (.int .i64 v1) (.int .i64 v2) (.int .i64 v3) (.slice Av ll cv)
                  generalize (((((w6.setCell ⟨w.heap.size, 0, none⟩ (.int .i64 v0)).setCell ⟨w.heap.size, 1, none⟩ (.int .i64 v1)).setCell ⟨w.heap.size, 2, none⟩ (.int .i64 v2)).setCell ⟨w.heap.size, 3, none⟩ (.int .i64 v3)).setCell ⟨w.heap.size, 4, none⟩ (.slice Av ll cv)) = W7 at KK HS ⊢
                  refine bodyPost_ret (results_conf2 rfl _ _ w.heap.size _ _ _ _ _ rfl (show W7.heap[w.heap.size]? = _ from HS) _ rfl) rfl ?_
                  rw [ER.out]
                  have hcl := ((HG.out.2.1.keep HE.out.2 (fun _ _ _ _ h => h)).keep KK (fun q e h1 h2 h3 => by have := HN.out; omega)).cl
                  obtain ⟨A9, c9, e9, g1, g2, g3, g4⟩ := hcl
                  exact ⟨Av, ll, cv, rfl, ⟨A9, c9, e9, g1, g2, g3.mono (fun x _ hx => by have := HN.out; have : C + 1 ≤ x := hx; omega), g4⟩, ((Keep.of_below HE.out.1.2.2.2).trans KK (fun x _ e => by omega)).to_below (Nat.le_refl _)⟩
              · have ER := Lib.hid (show r = (zeroF, 11) from by rw [HR.out, GQ.out, if_pos hpl])
                have hpos : (0 : Int) < (b.length : Int) - (pl : Int) := by omega
                have HD := Lib.hid (GW.keep (S := fun _ => False) HG.out.1 HN.out (Keep.drew (Keep.refl _ wr)) (fun _ h => h.elim))
                obtain ⟨r0, r1, r2, r3, r4, rf⟩ := cells5 HG.out.1.1
                generalize (b.length : Int) - (pl : Int) = zl at *
                clear hpl hle GQ
                go_wp2_with fail
                with_reducible refine OKR.out.mono ?_
                rintro e w5 ⟨rfl, rfl⟩
                go_wp2_with fail
                with_reducible refine LF.out.mono ?_
                rintro e w5 ⟨rfl, rfl⟩
                go_wp2
                have KK := keepS5 wr w.heap.size (.int .i64 0) (.int .i64 0) (.int .i64 0) (.int .i64 0) (.slice none 0 0)
                have HS := stored5 HG.out.1.1 (.int .i64 0) (.int .i64 0) (.int .i64 0) (.int .i64 0) (.slice none 0 0)
                generalize (((((wr.setCell ⟨w.heap.size, 0, none⟩ (.int .i64 0)).setCell ⟨w.heap.size, 1, none⟩ (.int .i64 0)).setCell ⟨w.heap.size, 2, none⟩ (.int .i64 0)).setCell ⟨w.heap.size, 3, none⟩ (.int .i64 0)).setCell ⟨w.heap.size, 4, none⟩ (.slice none 0 0)) = W7 at KK HS ⊢
                refine bodyPost_ret (results_conf2 rfl _ _ w.heap.size _ _ _ _ _ rfl (show W7.drew.heap[w.heap.size]? = _ from HS) _ rfl) rfl ?_
                rw [ER.out]
                exact ⟨none, 0, 0, rfl, CL.nil _ _, ((Keep.of_below HG.out.1.2.2.2).trans KK.drew (fun x _ e => by omega)).to_below (Nat.le_refl _)⟩
      · have e1 : numR b pl bad 1 = (0, pl, true) := by
          cases bad with
          | true => rfl
          | false =>
            have := (hi1.1 rfl).1
            exact num_no (by rw [wT1]; omega)
        have NU1 := Lib.hid (NU.out 1)
        rw [e1] at NU1
        have ER := Lib.hid (show r = (zeroF, 12) from by
          rw [HR.out]
          unfold getF
          rw [if_pos (by omega)])
        clear e1 NU hi1 h17
        go_wp2_with fail
        with_reducible refine NU1.out.mono ?_
        rintro e w3 ⟨rfl, h3⟩
        have HG3 := Lib.hid (HG.out.1.rd HN.out h3)
        clear h3 HG NU1
        go_wp2
        go_loopw [29] (fun i wr => i = .int .i64 0 ∧ Hid (GW w rp C b v0 v1 v2 v3 (.slice none 0 0) pl true wr)) (fun i _ => 0)
        case atStart => exact ⟨rfl, HG3⟩
        case round =>
          obtain ⟨rfl, HG⟩ := hrel
          have OKR := Lib.hid (rok_any HG.out.2.2.1)
          obtain ⟨r0, r1, r2, r3, r4, rf⟩ := cells5 HG.out.1
          go_wp2_with fail
          with_reducible refine OKR.out.mono ?_
          rintro e w5 ⟨rfl, rfl⟩
          go_wp2
          have KK := keepS5 wr w.heap.size (.int .i64 0) (.int .i64 0) (.int .i64 0) (.int .i64 0) (.slice none 0 0)
          have HS := stored5 HG.out.1 (.int .i64 0) (.int .i64 0) (.int .i64 0) (.int .i64 0) (.slice none 0 0)
          generalize (((((wr.setCell ⟨w.heap.size, 0, none⟩ (.int .i64 0)).setCell ⟨w.heap.size, 1, none⟩ (.int .i64 0)).setCell ⟨w.heap.size, 2, none⟩ (.int .i64 0)).setCell ⟨w.heap.size, 3, none⟩ (.int .i64 0)).setCell ⟨w.heap.size, 4, none⟩ (.slice none 0 0)) = W7 at KK HS ⊢
          refine bodyPost_ret (results_conf2 rfl _ _ w.heap.size _ _ _ _ _ rfl (show W7.heap[w.heap.size]? = _ from HS) _ rfl) rfl ?_
          rw [ER.out]
          exact ⟨none, 0, 0, rfl, CL.nil _ _, ((Keep.of_below HG.out.2.2.2).trans KK (fun x _ e => by omega)).to_below (Nat.le_refl _)⟩
end Go.Proofs.Ytakchlaoimnnhaa

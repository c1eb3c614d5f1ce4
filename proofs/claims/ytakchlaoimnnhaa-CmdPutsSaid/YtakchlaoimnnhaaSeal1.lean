/- Contracts of seal.near, sector.num, sector.sum; vivariumref03.near. -/
import Derived.Test.YtakchlaoimnnhaaSealPl
import Derived.Test.YtakchlaoimnnhaaArr
import Derived.Test.YtakchlaoimnnhaaPart2
import Derived.Test.YtakchlaoimnnhaaCrc1
import Derived.Deep.RegionHeld3
import Derived.Deep.RegionLaw
import Derived.IntWalk
namespace Go.Proofs.Ytakchlaoimnnhaa
open Go.RowKit
set_option maxRecDepth 100000
set_option linter.unusedVariables false

/-- Block g is an array that holds the bytes l. -/
def Arr (w : World) (g : Nat) (l : List UInt8) : Prop := w.heap[g]? = some (.cells (bv l).toArray 99 (0, 0)) ∧ l.length = 512
theorem Arr.keep {w w' : World} {g : Nat} {l : List UInt8} {S : Nat → Prop} (h : Arr w g l) (hk : Keep S w w') (hg : ¬ S g) : Arr w' g l := ⟨(hk.block g (Array.getElem?_eq_some_iff.1 h.1).1 hg).trans h.1, h.2⟩
theorem Arr.lt {w : World} {g : Nat} {l : List UInt8} (h : Arr w g l) : g < w.heap.size := (Array.getElem?_eq_some_iff.1 h.1).1
def over (l : List UInt8) (o : Nat) (x : List UInt8) : List UInt8 := l.take o ++ (x ++ l.drop (o + x.length))
theorem over_len {l x : List UInt8} {o : Nat} (h : o + x.length ≤ l.length) : (over l o x).length = l.length := by
  unfold over; rw [List.length_append, List.length_append, List.length_take, List.length_drop]; omega
theorem bv_take (l : List UInt8) (k : Nat) : (bv l).take k = bv (l.take k) := by rw [bv, bv, List.map_take]
theorem bv_drop (l : List UInt8) (k : Nat) : (bv l).drop k = bv (l.drop k) := by rw [bv, bv, List.map_drop]
theorem splice_bv (l : List UInt8) (o : Nat) (x : List UInt8) : splice (bv l) o (bv x) = bv (over l o x) := by
  unfold splice over; rw [bv_take, bv_len, bv_drop, bv_append, bv_append]
/-- A part of an array, as a slice. -/
theorem Arr.by_ {w : World} {g : Nat} {l : List UInt8} (h : Arr w g l) {lo m c : Nat} (hl : lo + m ≤ 512) (hc : m ≤ c) (hcm : c ≤ maxLen) : By w (fun b => b = g) (.slice (some ⟨g, lo, none⟩) m c) ((l.drop lo).take m) := by
  have hlen : ((l.drop lo).take m).length = m := by rw [List.length_take, List.length_drop, h.2]; omega
  refine ⟨_, c, by rw [hlen], by omega, hcm, (fun h => by cases h), by rw [Nat.mul_one, bv_len], fun _ => ⟨g, lo, rfl, rfl, fun i u hu => ?_⟩⟩
  rw [cell_of_row w g _ _ _ _ h.1]
  have e : bv ((l.drop lo).take m) = ((bv l).drop lo).take m := by rw [bv_drop, bv_take]
  rw [e, List.getElem?_take] at hu
  split at hu
  · rw [List.getElem?_drop] at hu
    simpa using hu
  · cases hu
section
variable {P : Program}
theorem step_copy_gen {ops : Array Oper} {o : Oper} {a : Act} {w : World} {K : Act → World → Prop} {Q : Exit → Act → World → Prop} {E : Prop} (hgd : Region.wanted o (yielded ops a.tmps) = true) (d s : Operand) (dT sT : TypeId)
    (ho : o.op = .call { callee := .builtin .copy, args := #[d, s], argTypes := #[dT, sT] }) (elem : TypeId) (hu : P.underlying dT = some (.slice elem)) (hsz : (P.info? elem).map (·.size) = some 1)
    (A : Option Addr) (dLen dCap g off : Nat) (cur : Array Value) (t : TypeId) (hd : a.eval d = .slice A dLen dCap) (hA : 0 < dLen → A = some ⟨g, off, none⟩ ∧ w.heap[g]? = some (.cells cur t (0, 0)) ∧ off + dLen ≤ cur.size)
    (F : Nat → Prop) (u : Value) (m : Nat) (ys : List Value) (hv : a.eval s = u) (hs : Sl w F 1 u m ys) (h1 : ∀ y ∈ ys, y.oneCell' = true)
    (h : ∀ w', Laid w w' g off cur (ys.take (min m dLen)) → K (a.put o.dst (goInt ((min m dLen : Nat) : Int))) w') :
    if Region.wanted o (yielded ops a.tmps) = true then Oper.wp P o a w K Q else E := by
  rw [if_pos hgd]
  exact wp_copy_gen d s dT sT ho elem hu hsz A dLen dCap g off cur t hd hA F u m ys hv hs h1 h
end

theorem laid_over {w w' : World} {g o : Nat} {l x : List UInt8} (h : Arr w g l) (hl : Laid w w' g o (bv l).toArray (bv x)) (ho : o + x.length ≤ 512) : Arr w' g (over l o x) ∧ Keep (fun b => b = g) w w' := by
  refine ⟨⟨?_, by rw [over_len (by rw [h.2]; exact ho)]; exact h.2⟩, hl.keep⟩
  have := hl.block h.1
  rw [← splice_bv]
  exact this
theorem near_any (z h : Int) (hh : 0 ≤ h) (w : World) :
    Calls Try.prog 95 #[.int .i64 z, .int .i64 h] w fun e w' => e = .returned (.int .i64 (nearN z h.toNat : Nat)) ∧ w = w' := by
  rcases (show z < 0 ∨ (0 ≤ z ∧ h < z) ∨ (0 ≤ z ∧ z ≤ h) by omega) with h1 | ⟨h1, h2⟩ | ⟨h1, h2⟩
  · have H := Lib.hid (show (nearN z h.toNat : Int) = 0 by unfold nearN; rw [if_pos h1]; rfl)
    go_enter Try.func95, Try.ntmps95
    go_wp2
    all_goals first | (go_ret; exact ⟨by rw [H.out]; rfl, rfl⟩) | (exfalso; omega) | (go_ret; exact ⟨by rw [H.out]; exact ret_int (by omega), rfl⟩)
  · have H := Lib.hid (show (nearN z h.toNat : Int) = h by unfold nearN; rw [if_neg (by omega), if_pos (by omega)]; omega)
    go_enter Try.func95, Try.ntmps95
    go_wp2
    all_goals first | (go_ret; exact ⟨by rw [H.out]; rfl, rfl⟩) | (exfalso; omega) | (go_ret; exact ⟨by rw [H.out]; exact ret_int (by omega), rfl⟩)
  · have H := Lib.hid (show (nearN z h.toNat : Int) = z by unfold nearN; rw [if_neg (by omega), if_neg (by omega)]; omega)
    go_enter Try.func95, Try.ntmps95
    go_wp2
    all_goals first | (go_ret; exact ⟨by rw [H.out]; rfl, rfl⟩) | (exfalso; omega) | (go_ret; exact ⟨by rw [H.out]; exact ret_int (by omega), rfl⟩)
theorem refNear_any (z h : Int) (hh : 0 ≤ h) (w : World) :
    Calls Try.prog 74 #[.int .i64 z, .int .i64 h] w fun e w' => e = .returned (.int .i64 (nearN z h.toNat : Nat)) ∧ w = w' := by
  rcases (show z < 0 ∨ (0 ≤ z ∧ h < z) ∨ (0 ≤ z ∧ z ≤ h) by omega) with h1 | ⟨h1, h2⟩ | ⟨h1, h2⟩
  · have H := Lib.hid (show (nearN z h.toNat : Int) = 0 by unfold nearN; rw [if_pos h1]; rfl)
    go_enter Try.func74, Try.ntmps74
    go_wp2
    all_goals first | (go_ret; exact ⟨by rw [H.out]; rfl, rfl⟩) | (exfalso; omega) | (go_ret; exact ⟨by rw [H.out]; exact ret_int (by omega), rfl⟩)
  · have H := Lib.hid (show (nearN z h.toNat : Int) = h by unfold nearN; rw [if_neg (by omega), if_pos (by omega)]; omega)
    go_enter Try.func74, Try.ntmps74
    go_wp2
    all_goals first | (go_ret; exact ⟨by rw [H.out]; rfl, rfl⟩) | (exfalso; omega) | (go_ret; exact ⟨by rw [H.out]; exact ret_int (by omega), rfl⟩)
  · have H := Lib.hid (show (nearN z h.toNat : Int) = z by unfold nearN; rw [if_neg (by omega), if_neg (by omega)]; omega)
    go_enter Try.func74, Try.ntmps74
    go_wp2
    all_goals first | (go_ret; exact ⟨by rw [H.out]; rfl, rfl⟩) | (exfalso; omega) | (go_ret; exact ⟨by rw [H.out]; exact ret_int (by omega), rfl⟩)
set_option maxHeartbeats 1000000 in
theorem snum_any {w : World} {g : Nat} {l : List UInt8} (at_ : Nat) (width n : Int) (h : Arr w g l) (hat : at_ + wideN width ≤ 512) (hw : at_ < 512) :
    Calls Try.prog 96 #[.pointer (some ⟨g, 0, none⟩), .int .i64 at_, .int .i64 width, .int .i64 n] w fun e w' => e = .returned (.tuple #[]) ∧ Arr w' g (over l at_ (leB (word n) (wideN width))) ∧ Keep (fun b => b = g) w w' := by
  have PU := Lib.hid (fun W => putO [] (.slice none 0 0) (fun _ => True) width n W (By.nil _ _) (by decide))
  have HA := Lib.hid h
  have hlt := h.lt
  have HS := Lib.hid (show at_ + (512 - at_) ≤ (bv l).toArray.size by rw [List.size_toArray, bv_len, h.2]; omega)
  clear h
  have f1 : (0 : Int) ≤ (at_ : Int) := by omega
  have f2 : (at_ : Int) ≤ 512 := by omega
  have f3 : (at_ : Int) < 512 := by omega
  go_enter Try.func96, Try.ntmps96
  go_region_held3 (fun _ => True) (trivial) (first
    | (go_at_call 60; refine (PU.out _).mono ?_; rintro e w1 ⟨A1, n1, c1, rfl, ho1, hb1⟩; have H1 := Lib.hid (And.intro ho1 (show Keep (fun _ => False) w w1 from Keep.trans (by exact (by repeat first | exact Keep.refl _ _ | refine Keep.alloc ?_ _ | refine Keep.drew ?_ | refine Keep.drewN ?_ _)) (Keep.of_below' hb1) (fun _ _ h => h))); clear ho1 hb1)
    | (refine step_copy_gen (by rfl) _ _ _ _ rfl 5 Try.underlying22 size_byte _ _ _ g at_ (bv l).toArray 99 (by rfl) (fun _ => ⟨rfl, ((HA.out.keep H1.out.2 (fun h => h)).1), HS.out⟩) _ _ _ _ (by rfl) (H1.out.1.sl) (bv_one _) ?_; intro w2 hl2)
    | fail)
  go_end0
  have hn1 : (leB (word n) (wideN width)).length = n1 := by have := H1.out.1.1; rw [bv_len, List.nil_append] at this; omega
  rw [List.nil_append, List.take_of_length_le (by rw [bv_len]; rw [leB_len] at hn1 ⊢; omega)] at hl2
  obtain ⟨h1, h2⟩ := laid_over (HA.out.keep H1.out.2 (fun h => h)) hl2 (by rw [leB_len]; exact hat)
  exact ⟨rfl, h1, Keep.trans (H1.out.2.mono (fun _ _ h => h.elim)) h2 (fun _ _ h => h)⟩
theorem bys_two {W : World} {F : Nat → Prop} {v1 v2 : Value} {a b : List UInt8} (t : TypeId) (h1 : By W F v1 a) (h2 : By W F v2 b) :
    Bys (W.alloc (.cells #[v1, v2] t)) (fun _ => True) (.slice (some ⟨W.heap.size, 0, none⟩) 2 2) [a, b] := by
  refine ⟨[v1, v2], (Sl.lit W t [v1, v2] (by unfold maxLen; simp)).any, fun i r hr => ?_⟩
  match i, hr with
  | 0, hr => exact ⟨v1, rfl, by simp at hr; subst hr; exact (Sl.alloc h1 _).any⟩
  | 1, hr => exact ⟨v2, rfl, by simp at hr; subst hr; exact (Sl.alloc h2 _).any⟩
set_option maxHeartbeats 1000000 in
theorem ssum_any {w : World} {g : Nat} {l : List UInt8} (h : Arr w g l) :
    Calls Try.prog 97 #[.pointer (some ⟨g, 0, none⟩)] w fun e w' => e = .returned (.int .i64 (crcOf (l.take 16 ++ l.drop 20) : Nat)) ∧ Below w.heap.size w w' := by
  have hcl := crcOf_lt (l.take 16 ++ l.drop 20)
  have CO := Lib.hid (fun W V (hk : Keep (fun _ => False) w W) (hv : Keep (fun _ => False) (W.alloc (.cells #[.slice (some ⟨g, 0, none⟩) 16 512, .slice (some ⟨g, 20, none⟩) 492 492] 22)) V) => cof [l.take 16, l.drop 20] _ _ V ((bys_two 22 (by
    have := (h.keep hk (fun h => h)).by_ (lo := 0) (m := 16) (c := 512) (by omega) (by omega) (by unfold maxLen; omega)
    rwa [List.drop_zero] at this) (by
    have := (h.keep hk (fun h => h)).by_ (lo := 20) (m := 492) (c := 492) (by omega) (by omega) (by unfold maxLen; omega)
    rwa [List.take_of_length_le (by rw [List.length_drop, h.2]; omega)] at this)).keep hv (fun _ _ _ h => h)))
  rw [show ([l.take 16, l.drop 20] : List (List UInt8)).flatten = l.take 16 ++ l.drop 20 by simp] at CO
  clear h
  generalize crcOf (l.take 16 ++ l.drop 20) = c at *
  have pw : IntKind.i64.wrap (c : Int) = c := IntWalk.i64_in _ (by omega)
  go_enter Try.func97, Try.ntmps97
  go_wp2_with fail
  go_region_held3 (fun _ => True) (trivial) (first
    | (go_at_call 102; refine (CO.out w _ (by exact (by repeat first | exact Keep.refl _ _ | refine Keep.alloc ?_ _ | refine Keep.drew ?_ | refine Keep.drewN ?_ _)) (by exact (by repeat first | exact Keep.refl _ _ | refine Keep.alloc ?_ _ | refine Keep.drew ?_ | refine Keep.drewN ?_ _))).mono ?_; rintro e w1 ⟨rfl, rfl⟩)
    | fail)
  go_wp2
  go_ret
  exact ⟨rfl, by exact (by repeat first | exact Below.refl _ _ | refine Below.setCell ?_ (by first | omega | (simp; done) | (simp; omega)) _ | refine Below.alloc ?_ (by first | omega | (simp; done) | (simp; omega)) _ | refine Below.drew ?_ | refine below_drewN ?_ _ | assumption)⟩
end Go.Proofs.Ytakchlaoimnnhaa

/- Contracts of seal.near, sector.num, sector.sum; vivariumref03.near. -/
import Derived.Test.YtfjgbnnjfapcmaaCrc1
import Derived.Test.YtfjgbnnjfapcmaaArgs
import Derived.Test.YtfjgbnnjfapcmaaPart1
import Derived.Deep.RegionHeld3
import Derived.Deep.RegionLaw
import Derived.IntWalk
import Derived.Deep.DeepCutAuto
namespace Go.Proofs.Ytfjgbnnjfapcmaa
open Go.RowKit
set_option maxRecDepth 100000
set_option linter.unusedVariables false

/-- Block g is an array that holds the bytes l. -/
def Arr (w : World) (g : Nat) (l : List UInt8) : Prop := w.heap[g]? = some (.cells (bv l).toArray 108 (0, 0)) ∧ l.length = 512
theorem Arr.keep {w w' : World} {g : Nat} {l : List UInt8} {S : Nat → Prop} (h : Arr w g l) (hk : Keep S w w') (hg : ¬ S g) : Arr w' g l := ⟨(hk.block g (Array.getElem?_eq_some_iff.1 h.1).1 hg).trans h.1, h.2⟩
theorem Arr.lt {w : World} {g : Nat} {l : List UInt8} (h : Arr w g l) : g < w.heap.size := (Array.getElem?_eq_some_iff.1 h.1).1
def over (l : List UInt8) (o : Nat) (x : List UInt8) : List UInt8 := l.take o ++ (x ++ l.drop (o + x.length))
theorem over_len {l x : List UInt8} {o : Nat} (h : o + x.length ≤ l.length) : (over l o x).length = l.length := by
  unfold over; rw [List.length_append, List.length_append, List.length_take, List.length_drop]; omega
theorem bv_take (l : List UInt8) (k : Nat) : (bv l).take k = bv (l.take k) := by rw [bv, bv, List.map_take]
theorem bv_drop (l : List UInt8) (k : Nat) : (bv l).drop k = bv (l.drop k) := by rw [bv, bv, List.map_drop]
theorem splice_bv (l : List UInt8) (o : Nat) (x : List UInt8) : splice (bv l) o (bv x) = bv (over l o x) := by
  unfold splice over; rw [bv_take, bv_len, bv_drop, bv_append, bv_append]
/-- A part of an array, as a slice. -/
theorem Arr.by_ {w : World} {g : Nat} {l : List UInt8} (h : Arr w g l) {lo m c : Nat} (hl : lo + m ≤ 512) (hc : m ≤ c) (hcm : c ≤ maxLen) : By w (fun b => b = g) (.slice (some ⟨g, lo, none⟩) m c) ((l.drop lo).take m) := by
  have hlen : ((l.drop lo).take m).length = m := by rw [List.length_take, List.length_drop, h.2]; omega
  refine ⟨_, c, by rw [hlen], by omega, hcm, (fun h => by cases h), by rw [Nat.mul_one, bv_len], fun _ => ⟨g, lo, rfl, rfl, fun i u hu => ?_⟩⟩
  rw [cell_of_row w g _ _ _ _ h.1]
  have e : bv ((l.drop lo).take m) = ((bv l).drop lo).take m := by rw [bv_drop, bv_take]
  rw [e, List.getElem?_take] at hu
  split at hu
  · rw [List.getElem?_drop] at hu
    simpa using hu
  · cases hu
section
variable {P : Program}
theorem step_copy_gen {ops : Array Oper} {o : Oper} {a : Act} {w : World} {K : Act → World → Prop} {Q : Exit → Act → World → Prop} {E : Prop} (hgd : Region.wanted o (yielded ops a.tmps) = true) (d s : Operand) (dT sT : TypeId)
    (ho : o.op = .call { callee := .builtin .copy, args := #[d, s], argTypes := #[dT, sT] }) (elem : TypeId) (hu : P.underlying dT = some (.slice elem)) (hsz : (P.info? elem).map (·.size) = some 1)
    (A : Option Addr) (dLen dCap g off : Nat) (cur : Array Value) (t : TypeId) (hd : a.eval d = .slice A dLen dCap) (hA : 0 < dLen → A = some ⟨g, off, none⟩ ∧ w.heap[g]? = some (.cells cur t (0, 0)) ∧ off + dLen ≤ cur.size)
    (F : Nat → Prop) (u : Value) (m : Nat) (ys : List Value) (hv : a.eval s = u) (hs : Sl w F 1 u m ys) (h1 : ∀ y ∈ ys, y.oneCell' = true)
    (h : ∀ w', Laid w w' g off cur (ys.take (min m dLen)) → K (a.put o.dst (goInt ((min m dLen : Nat) : Int))) w') :
    if Region.wanted o (yielded ops a.tmps) = true then Oper.wp P o a w K Q else E := by
  rw [if_pos hgd]
  exact wp_copy_gen d s dT sT ho elem hu hsz A dLen dCap g off cur t hd hA F u m ys hv hs h1 h
end

theorem laid_over {w w' : World} {g o : Nat} {l x : List UInt8} (h : Arr w g l) (hl : Laid w w' g o (bv l).toArray (bv x)) (ho : o + x.length ≤ 512) : Arr w' g (over l o x) ∧ Keep (fun b => b = g) w w' := by
  refine ⟨⟨?_, by rw [over_len (by rw [h.2]; exact ho)]; exact h.2⟩, hl.keep⟩
  have := hl.block h.1
  rw [← splice_bv]
  exact this
theorem near_any (z h : Int) (hh : 0 ≤ h) (w : World) :
    Calls Try.prog 86 #[.int .i64 z, .int .i64 h] w fun e w' => e = .returned (.int .i64 (nearN z h.toNat : Nat)) ∧ w = w' := by
  rcases (show z < 0 ∨ (0 ≤ z ∧ h < z) ∨ (0 ≤ z ∧ z ≤ h) by omega) with h1 | ⟨h1, h2⟩ | ⟨h1, h2⟩
  · have H := Lib.hid (show (nearN z h.toNat : Int) = 0 by unfold nearN; rw [if_pos h1]; rfl)
    go_enter Try.func86, Try.ntmps86
    go_wp2
    all_goals first | (go_ret; exact ⟨by rw [H.out]; rfl, rfl⟩) | (exfalso; omega) | (go_ret; exact ⟨by rw [H.out]; exact ret_int (by omega), rfl⟩)
  · have H := Lib.hid (show (nearN z h.toNat : Int) = h by unfold nearN; rw [if_neg (by omega), if_pos (by omega)]; omega)
    go_enter Try.func86, Try.ntmps86
    go_wp2
    all_goals first | (go_ret; exact ⟨by rw [H.out]; rfl, rfl⟩) | (exfalso; omega) | (go_ret; exact ⟨by rw [H.out]; exact ret_int (by omega), rfl⟩)
  · have H := Lib.hid (show (nearN z h.toNat : Int) = z by unfold nearN; rw [if_neg (by omega), if_neg (by omega)]; omega)
    go_enter Try.func86, Try.ntmps86
    go_wp2
    all_goals first | (go_ret; exact ⟨by rw [H.out]; rfl, rfl⟩) | (exfalso; omega) | (go_ret; exact ⟨by rw [H.out]; exact ret_int (by omega), rfl⟩)
theorem refNear_any (z h : Int) (hh : 0 ≤ h) (w : World) :
    Calls Try.prog 71 #[.int .i64 z, .int .i64 h] w fun e w' => e = .returned (.int .i64 (nearN z h.toNat : Nat)) ∧ w = w' := by
  rcases (show z < 0 ∨ (0 ≤ z ∧ h < z) ∨ (0 ≤ z ∧ z ≤ h) by omega) with h1 | ⟨h1, h2⟩ | ⟨h1, h2⟩
  · have H := Lib.hid (show (nearN z h.toNat : Int) = 0 by unfold nearN; rw [if_pos h1]; rfl)
    go_enter Try.func71, Try.ntmps71
    go_wp2
    all_goals first | (go_ret; exact ⟨by rw [H.out]; rfl, rfl⟩) | (exfalso; omega) | (go_ret; exact ⟨by rw [H.out]; exact ret_int (by omega), rfl⟩)
  · have H := Lib.hid (show (nearN z h.toNat : Int) = h by unfold nearN; rw [if_neg (by omega), if_pos (by omega)]; omega)
    go_enter Try.func71, Try.ntmps71
    go_wp2
    all_goals first | (go_ret; exact ⟨by rw [H.out]; rfl, rfl⟩) | (exfalso; omega) | (go_ret; exact ⟨by rw [H.out]; exact ret_int (by omega), rfl⟩)
  · have H := Lib.hid (show (nearN z h.toNat : Int) = z by unfold nearN; rw [if_neg (by omega), if_neg (by omega)]; omega)
    go_enter Try.func71, Try.ntmps71
    go_wp2
    all_goals first | (go_ret; exact ⟨by rw [H.out]; rfl, rfl⟩) | (exfalso; omega) | (go_ret; exact ⟨by rw [H.out]; exact ret_int (by omega), rfl⟩)
set_option maxHeartbeats 1000000 in
theorem snum_any {w : World} {g : Nat} {l : List UInt8} (at_ : Nat) (width n : Int) (h : Arr w g l) (hat : at_ + wideN width ≤ 512) (hw : at_ < 512) :
    Calls Try.prog 87 #[.pointer (some ⟨g, 0, none⟩), .int .i64 at_, .int .i64 width, .int .i64 n] w fun e w' => e = .returned (.tuple #[]) ∧ Arr w' g (over l at_ (leB (word n) (wideN width))) ∧ Keep (fun b => b = g) w w' := by
  have PU := Lib.hid (fun W => putO [] (.slice none 0 0) (fun _ => True) width n W (By.nil _ _) (by decide))
  have HA := Lib.hid h
  have hlt := h.lt
  have HS := Lib.hid (show at_ + (512 - at_) ≤ (bv l).toArray.size by rw [List.size_toArray, bv_len, h.2]; omega)
  clear h
  have f1 : (0 : Int) ≤ (at_ : Int) := by omega
  have f2 : (at_ : Int) ≤ 512 := by omega
  have f3 : (at_ : Int) < 512 := by omega
  go_enter Try.func87, Try.ntmps87
  go_region_held3 (fun _ => True) (trivial) (first
    | (go_at_call 78; refine (PU.out _).mono ?_; rintro e w1 ⟨A1, n1, c1, rfl, ho1, hb1⟩; have H1 := Lib.hid (And.intro ho1 (show Keep (fun _ => False) w w1 from Keep.trans (by exact (by repeat first | exact Keep.refl _ _ | refine Keep.alloc ?_ _ | refine Keep.drew ?_ | refine Keep.drewN ?_ _)) (Keep.of_below' hb1) (fun _ _ h => h))); clear ho1 hb1)
    | (refine step_copy_gen (by rfl) _ _ _ _ rfl 5 Try.underlying29 size_byte _ _ _ g at_ (bv l).toArray 108 (by rfl) (fun _ => ⟨rfl, ((HA.out.keep H1.out.2 (fun h => h)).1), HS.out⟩) _ _ _ _ (by rfl) (H1.out.1.sl) (bv_one _) ?_; intro w2 hl2)
    | fail)
  go_end0
  have hn1 : (leB (word n) (wideN width)).length = n1 := by have := H1.out.1.1; rw [bv_len, List.nil_append] at this; omega
  rw [List.nil_append, List.take_of_length_le (by rw [bv_len]; rw [leB_len] at hn1 ⊢; omega)] at hl2
  obtain ⟨h1, h2⟩ := laid_over (HA.out.keep H1.out.2 (fun h => h)) hl2 (by rw [leB_len]; exact hat)
  exact ⟨rfl, h1, Keep.trans (H1.out.2.mono (fun _ _ h => h.elim)) h2 (fun _ _ h => h)⟩
theorem bys_two {W : World} {F : Nat → Prop} {v1 v2 : Value} {a b : List UInt8} (t : TypeId) (h1 : By W F v1 a) (h2 : By W F v2 b) :
    Bys (W.alloc (.cells #[v1, v2] t)) (fun _ => True) (.slice (some ⟨W.heap.size, 0, none⟩) 2 2) [a, b] := by
  refine ⟨[v1, v2], (Sl.lit W t [v1, v2] (by unfold maxLen; simp)).any, fun i r hr => ?_⟩
  match i, hr with
  | 0, hr => exact ⟨v1, rfl, by simp at hr; subst hr; exact (Sl.alloc h1 _).any⟩
  | 1, hr => exact ⟨v2, rfl, by simp at hr; subst hr; exact (Sl.alloc h2 _).any⟩
set_option maxHeartbeats 1000000 in
theorem ssum_any {w : World} {g : Nat} {l : List UInt8} (h : Arr w g l) :
    Calls Try.prog 88 #[.pointer (some ⟨g, 0, none⟩)] w fun e w' => e = .returned (.int .i64 (crcOf (l.take 16 ++ l.drop 20) : Nat)) ∧ Below w.heap.size w w' := by
  have hcl := crcOf_lt (l.take 16 ++ l.drop 20)
  have CO := Lib.hid (fun W V (hk : Keep (fun _ => False) w W) (hv : Keep (fun _ => False) (W.alloc (.cells #[.slice (some ⟨g, 0, none⟩) 16 512, .slice (some ⟨g, 20, none⟩) 492 492] 29)) V) => cof [l.take 16, l.drop 20] _ _ V ((bys_two 29 (by
    have := (h.keep hk (fun h => h)).by_ (lo := 0) (m := 16) (c := 512) (by omega) (by omega) (by unfold maxLen; omega)
    rwa [List.drop_zero] at this) (by
    have := (h.keep hk (fun h => h)).by_ (lo := 20) (m := 492) (c := 492) (by omega) (by omega) (by unfold maxLen; omega)
    rwa [List.take_of_length_le (by rw [List.length_drop, h.2]; omega)] at this)).keep hv (fun _ _ _ h => h)))
  rw [show ([l.take 16, l.drop 20] : List (List UInt8)).flatten = l.take 16 ++ l.drop 20 by simp] at CO
  clear h
  generalize crcOf (l.take 16 ++ l.drop 20) = c at *
  have pw : IntKind.i64.wrap (c : Int) = c := IntWalk.i64_in _ (by omega)
  go_enter Try.func88, Try.ntmps88
  go_wp2_with fail
  go_region_held3 (fun _ => True) (trivial) (first
    | (go_at_call 59; refine (CO.out w _ (by exact (by repeat first | exact Keep.refl _ _ | refine Keep.alloc ?_ _ | refine Keep.drew ?_ | refine Keep.drewN ?_ _)) (by exact (by repeat first | exact Keep.refl _ _ | refine Keep.alloc ?_ _ | refine Keep.drew ?_ | refine Keep.drewN ?_ _))).mono ?_; rintro e w1 ⟨rfl, rfl⟩)
    | fail)
  go_wp2
  go_ret
  exact ⟨rfl, by exact (by repeat first | exact Below.refl _ _ | refine Below.setCell ?_ (by first | omega | (simp; done) | (simp; omega)) _ | refine Below.alloc ?_ (by first | omega | (simp; done) | (simp; omega)) _ | refine Below.drew ?_ | refine below_drewN ?_ _ | assumption)⟩
end Go.Proofs.Ytfjgbnnjfapcmaa
namespace Go.Proofs.Ytfjgbnnjfapcmaa
open Go.RowKit
set_option maxRecDepth 100000
set_option linter.unusedVariables false

theorem over_skip (a r : List UInt8) (x : List UInt8) {o k : Nat} (h : o = a.length + k) : over (a ++ r) o x = a ++ over r k x := by
  unfold over
  rw [h, List.take_append, List.take_of_length_le (by omega), List.drop_append, List.drop_eq_nil_of_le (by omega), List.nil_append, List.append_assoc, show a.length + k - a.length = k by omega, show a.length + k + x.length - a.length = k + x.length by omega]
theorem over_here (z c x : List UInt8) (h : x.length = z.length) : over (z ++ c) 0 x = x ++ c := by
  unfold over
  rw [List.take_zero, List.nil_append, Nat.zero_add, h, List.drop_left']
  rfl
theorem over_all (z x : List UInt8) (h : x.length = z.length) : over z 0 x = x := by
  unfold over
  rw [List.take_zero, List.nil_append, Nat.zero_add, h, List.drop_length, List.append_nil]
theorem over_cut (b c : List UInt8) (h : b.length ≤ 472) : over (List.replicate 472 0 ++ c) 0 b = cutB b 472 ++ c := by
  unfold over cutB
  rw [List.take_zero, List.nil_append, Nat.zero_add, List.take_of_length_le h, List.drop_append_of_le_length (by simp; omega), List.drop_replicate, List.append_assoc]
def zs (n : Nat) : List UInt8 := List.replicate n 0
theorem zs_len (n : Nat) : (zs n).length = n := by simp [zs]
theorem zs_add (a b : Nat) : zs (a + b) = zs a ++ zs b := by unfold zs; rw [List.replicate_append_replicate]
section
variable (e n k : Nat) (b : List UInt8)
def m1 : List UInt8 := over (zs 512) 0 (leB e 8)
def m2 : List UInt8 := over (m1 e) 8 (leB n 8)
def m3 : List UInt8 := over (m2 e n) 20 (leB k 1)
def m4 : List UInt8 := over (m3 e n k) 22 (leB b.length 2)
def m5 : List UInt8 := over (m4 e n k b) 24 b
def m6 : List UInt8 := over (m5 e n k b) 496 (leB n 8)
def m7 : List UInt8 := over (m6 e n k b) 504 (leB e 8)
def m8 : List UInt8 := over (m7 e n k b) 16 (leB (crcOf ((m7 e n k b).take 16 ++ (m7 e n k b).drop 20)) 4)
theorem zs_512 : zs 512 = zs 8 ++ (zs 8 ++ (zs 4 ++ (zs 1 ++ (zs 1 ++ (zs 2 ++ (zs 472 ++ (zs 8 ++ zs 8))))))) := by
  rw [← zs_add, ← zs_add, ← zs_add, ← zs_add, ← zs_add, ← zs_add, ← zs_add, ← zs_add]
theorem m1_is : m1 e = leB e 8 ++ (zs 8 ++ (zs 4 ++ (zs 1 ++ (zs 1 ++ (zs 2 ++ (zs 472 ++ (zs 8 ++ (zs 8)))))))) := by
  unfold m1
  rw [zs_512, over_here _ _ _ (by rw [leB_len, zs_len])]
theorem m2_is : m2 e n = leB e 8 ++ (leB n 8 ++ (zs 4 ++ (zs 1 ++ (zs 1 ++ (zs 2 ++ (zs 472 ++ (zs 8 ++ (zs 8)))))))) := by
  unfold m2
  rw [m1_is e, over_skip _ _ _ (k := 0) (by rw [leB_len]), over_here _ _ _ (by rw [leB_len, zs_len])]
theorem m3_is : m3 e n k = leB e 8 ++ (leB n 8 ++ (zs 4 ++ (leB k 1 ++ (zs 1 ++ (zs 2 ++ (zs 472 ++ (zs 8 ++ (zs 8)))))))) := by
  unfold m3
  rw [m2_is e n, over_skip _ _ _ (k := 12) (by rw [leB_len]), over_skip _ _ _ (k := 4) (by rw [leB_len]), over_skip _ _ _ (k := 0) (by rw [zs_len]), over_here _ _ _ (by rw [leB_len, zs_len])]
theorem m4_is : m4 e n k b = leB e 8 ++ (leB n 8 ++ (zs 4 ++ (leB k 1 ++ (zs 1 ++ (leB b.length 2 ++ (zs 472 ++ (zs 8 ++ (zs 8)))))))) := by
  unfold m4
  rw [m3_is e n k, over_skip _ _ _ (k := 14) (by rw [leB_len]), over_skip _ _ _ (k := 6) (by rw [leB_len]), over_skip _ _ _ (k := 2) (by rw [zs_len]), over_skip _ _ _ (k := 1) (by rw [leB_len]), over_skip _ _ _ (k := 0) (by rw [zs_len]), over_here _ _ _ (by rw [leB_len, zs_len])]
theorem m5_is (h : b.length ≤ 472) : m5 e n k b = leB e 8 ++ (leB n 8 ++ (zs 4 ++ (leB k 1 ++ (zs 1 ++ (leB b.length 2 ++ (cutB b 472 ++ (zs 8 ++ (zs 8)))))))) := by
  unfold m5
  rw [m4_is e n k b, over_skip _ _ _ (k := 16) (by rw [leB_len]), over_skip _ _ _ (k := 8) (by rw [leB_len]), over_skip _ _ _ (k := 4) (by rw [zs_len]), over_skip _ _ _ (k := 3) (by rw [leB_len]), over_skip _ _ _ (k := 2) (by rw [zs_len]), over_skip _ _ _ (k := 0) (by rw [leB_len]), show zs 472 = List.replicate 472 0 from rfl, over_cut _ _ h]
theorem m6_is (h : b.length ≤ 472) : m6 e n k b = leB e 8 ++ (leB n 8 ++ (zs 4 ++ (leB k 1 ++ (zs 1 ++ (leB b.length 2 ++ (cutB b 472 ++ (leB n 8 ++ (zs 8)))))))) := by
  unfold m6
  rw [m5_is e n k b h, over_skip _ _ _ (k := 488) (by rw [leB_len]), over_skip _ _ _ (k := 480) (by rw [leB_len]), over_skip _ _ _ (k := 476) (by rw [zs_len]), over_skip _ _ _ (k := 475) (by rw [leB_len]), over_skip _ _ _ (k := 474) (by rw [zs_len]), over_skip _ _ _ (k := 472) (by rw [leB_len]), over_skip _ _ _ (k := 0) (by rw [cutB_len]), over_here _ _ _ (by rw [leB_len, zs_len])]
theorem m7_is (h : b.length ≤ 472) : m7 e n k b = leB e 8 ++ (leB n 8 ++ (zs 4 ++ (leB k 1 ++ (zs 1 ++ (leB b.length 2 ++ (cutB b 472 ++ (leB n 8 ++ (leB e 8)))))))) := by
  unfold m7
  rw [m6_is e n k b h, over_skip _ _ _ (k := 496) (by rw [leB_len]), over_skip _ _ _ (k := 488) (by rw [leB_len]), over_skip _ _ _ (k := 484) (by rw [zs_len]), over_skip _ _ _ (k := 483) (by rw [leB_len]), over_skip _ _ _ (k := 482) (by rw [zs_len]), over_skip _ _ _ (k := 480) (by rw [leB_len]), over_skip _ _ _ (k := 8) (by rw [cutB_len]), over_skip _ _ _ (k := 0) (by rw [leB_len]), over_all _ _ (by rw [leB_len, zs_len])]
theorem m8_is (h : b.length ≤ 472) : m8 e n k b = seal0 e n k b := by
  have l := fun u j => leB_len u j
  have e1 : (m7 e n k b).take 16 ++ (m7 e n k b).drop 20 = frontB e n ++ restB e n k b := by
    rw [m7_is e n k b h, ← List.append_assoc (leB e 8) (leB n 8)]
    rw [List.take_left' (by simp [l]), List.drop_append, List.drop_eq_nil_of_le (by simp [l]), List.nil_append, List.length_append, l, l, List.drop_left' (by rw [zs_len])]
    rfl
  unfold m8
  rw [e1, m7_is e n k b h]
  rw [over_skip _ _ _ (k := 8) (by rw [l]), over_skip _ _ _ (k := 0) (by rw [l]), over_here _ _ _ (by rw [l, zs_len])]
  rfl
end

theorem near48 (z : Int) (w : World) : Calls Try.prog 86 #[.int .i64 z, .int .i64 281474976710656] w fun e w' => e = .returned (.int .i64 (nearN z 281474976710656 : Nat)) ∧ w = w' := near_any z 281474976710656 (by decide) w
theorem near255 (z : Int) (w : World) : Calls Try.prog 86 #[.int .i64 z, .int .i64 255] w fun e w' => e = .returned (.int .i64 (nearN z 255 : Nat)) ∧ w = w' := near_any z 255 (by decide) w
/-- A number laid into an array. -/
theorem snum_nat {w : World} {g : Nat} {l : List UInt8} (at_ width n : Nat) (h : Arr w g l) (hw : 1 ≤ width ∧ width ≤ 8) (hat : at_ + width ≤ 512) (hn : n < 18446744073709551616) :
    Calls Try.prog 87 #[.pointer (some ⟨g, 0, none⟩), .int .i64 at_, .int .i64 width, .int .i64 n] w fun e w' => e = .returned (.tuple #[]) ∧ Arr w' g (over l at_ (leB n width)) ∧ Keep (fun b => b = g) w w' := by
  have e : wideN (width : Int) = width := by unfold wideN; rw [if_neg (by omega), if_neg (by omega)]; omega
  have := snum_any at_ (width : Int) (n : Int) h (by rw [e]; exact hat) (by omega)
  rwa [e, wordN hn] at this
theorem snum_at {w : World} {g : Nat} {l : List UInt8} (z wd : Int) (at_ width n : Nat) (hz : z = at_) (hwd : wd = width) (hw : 1 ≤ width ∧ width ≤ 8) (hat : at_ + width ≤ 512) (hn : n < 18446744073709551616) (h : Arr w g l) :
    Calls Try.prog 87 #[.pointer (some ⟨g, 0, none⟩), .int .i64 z, .int .i64 wd, .int .i64 n] w fun e w' => e = .returned (.tuple #[]) ∧ Arr w' g (over l at_ (leB n width)) ∧ Keep (fun b => b = g) w w' := by
  subst hz hwd
  exact snum_nat at_ width n h hw hat hn
theorem under_sector : Try.prog.underlying 108 = some (.array 512 5) := by kernel_rfl
theorem zero_sector : (Try.prog.info? 108).map (fun i => (i.zero, i.size)) = some (some (.agg (bv (zs 512)).toArray), 512) := by kernel_rfl
theorem quiet_same {P : Program} {f : FuncId} {args : Array Value} {w : World} {n : Nat} {v : Value}
    (h : Calls P f args (w.drewN n) fun e w' => e = .returned v ∧ w.drewN n = w') : Calls P f args (w.drewN n) fun e w'' => e = .returned v ∧ ∃ m, w'' = w.drewN m :=
  h.mono fun _ _ ⟨he, hm⟩ => ⟨he, n, hm.symm⟩
/-- Where seal.made stands: the seal's box, the result, the array. -/
def MadeSt (w W : World) (x : SV) (u : Value) (l : List UInt8) : Prop :=
  W.heap[w.heap.size]? = some (.cells #[.int .i64 x.ep, .int .i64 x.no, .int .i64 x.kd, u] 33 (0, 0)) ∧ Arr W (w.heap.size + 1) (zs 512) ∧ Arr W (w.heap.size + 2) l ∧ Below w.heap.size w W
theorem MadeSt.to {w W W' : World} {x : SV} {u : Value} {l l' : List UInt8} (h : MadeSt w W x u l) (ha : Arr W' (w.heap.size + 2) l') (hk : Keep (fun b => b = w.heap.size + 2) W W') : MadeSt w W' x u l' :=
  ⟨(hk.block _ (Array.getElem?_eq_some_iff.1 h.1).1 (by omega)).trans h.1, h.2.1.keep hk (by omega), ha, ((Keep.of_below h.2.2.2).trans (T := fun b => b = w.heap.size + 2) hk (fun b hb e => by omega)).to_below (Nat.le_refl _)⟩
theorem MadeSt.drew {w W : World} {x : SV} {u : Value} {l : List UInt8} (h : MadeSt w W x u l) (n : Nat) : MadeSt w (W.drewN n) x u l := ⟨h.1, h.2.1, h.2.2.1, below_drewN h.2.2.2 n⟩
theorem MadeSt.below {w W W' : World} {x : SV} {u : Value} {l : List UInt8} (h : MadeSt w W x u l) (hb : Below W.heap.size W W') : MadeSt w W' x u l :=
  ⟨(hb.block _ (Array.getElem?_eq_some_iff.1 h.1).1).trans h.1, h.2.1.keep (Keep.of_below' hb) (fun h => h), h.2.2.1.keep (Keep.of_below' hb) (fun h => h), h.2.2.2.trans (hb.mono h.2.2.2.size)⟩
theorem MadeSt.first {w : World} {x : SV} {u : Value} {Z : Array Value} (hZ : Z = (bv (zs 512)).toArray) : MadeSt w (((w.alloc (.cells #[.int .i64 x.ep, .int .i64 x.no, .int .i64 x.kd, u] 33)).alloc (.cells Z 108)).alloc (.cells Z 108)) x u (zs 512) := by
  subst hZ
  refine ⟨?_, ⟨?_, by rw [zs_len]⟩, ⟨?_, by rw [zs_len]⟩, by exact (by repeat first | exact Below.refl _ _ | refine Below.setCell ?_ (by first | omega | (simp; done) | (simp; omega)) _ | refine Below.alloc ?_ (by first | omega | (simp; done) | (simp; omega)) _ | refine Below.drew ?_ | refine below_drewN ?_ _ | assumption)⟩
  · rw [heap_alloc_old _ _ (by simp; omega), heap_alloc_old _ _ (by simp)]; exact heap_alloc_new _ _
  · rw [heap_alloc_old _ _ (by simp)]
    have := heap_alloc_new (w.alloc (.cells #[.int .i64 x.ep, .int .i64 x.no, .int .i64 x.kd, u] 33)) (.cells (bv (zs 512)).toArray 108)
    simpa using this
  · have := heap_alloc_new ((w.alloc (.cells #[.int .i64 x.ep, .int .i64 x.no, .int .i64 x.kd, u] 33)).alloc (.cells (bv (zs 512)).toArray 108)) (.cells (bv (zs 512)).toArray 108)
    simpa using this
set_option maxHeartbeats 4000000 in
theorem made_any (x : SV) (u : Value) (F : Nat → Prop) (w : World) (hb : By w F u x.bd) :
    Calls Try.prog 66 #[.agg #[.int .i64 x.ep, .int .i64 x.no, .int .i64 x.kd, u]] w fun e w' => e = .returned (.agg (bv (sealB x)).toArray) ∧ Below w.heap.size w w' := by
  obtain ⟨ZV, hsz⟩ := zero_of_info zero_sector
  have M8 := Lib.hid (m8_is (nearN x.ep 281474976710656) (nearN x.no 281474976710656) (nearN x.kd 255) (bodyOf x.bd) (bodyOf_len _))
  have HB := Lib.hid hb
  have N1 := Lib.hid (near48 x.ep)
  have N2 := Lib.hid (near48 x.no)
  have N3 := Lib.hid (near255 x.kd)
  obtain ⟨Z, hZ⟩ : ∃ Z, Z = (bv (zs 512)).toArray := ⟨_, rfl⟩
  rw [← hZ] at ZV
  have HZ := Lib.hid hZ
  have HSZ := Lib.hid hsz
  have SB := Lib.hid (show sealB x = seal0 (nearN x.ep 281474976710656) (nearN x.no 281474976710656) (nearN x.kd 255) (bodyOf x.bd) from rfl)
  have he := nearN_le x.ep 281474976710656
  have hn := nearN_le x.no 281474976710656
  have hk := nearN_le x.kd 255
  have hl := bodyOf_len x.bd
  obtain ⟨A, c, rfl, hlc, hcm, hnil, -⟩ := id hb
  have B1 := Lib.hid (show x.bd.length ≤ 472 → By w F (.slice A x.bd.length c) (bodyOf x.bd) ∧ x.bd.length = (bodyOf x.bd).length from fun h => by
    have e : bodyOf x.bd = x.bd := List.take_of_length_le h
    rw [e]; exact ⟨hb, rfl⟩)
  have B2 := Lib.hid (show 472 < x.bd.length → By w F (.slice A 472 c) (bodyOf x.bd) ∧ 472 = (bodyOf x.bd).length from fun h => by
    refine ⟨?_, by unfold bodyOf; rw [List.length_take]; omega⟩
    have := hb.piece (A' := A) (lo := 0) (m := 472) (c' := c) (by omega) (fun _ a ha => by rw [ha]; simp [Addr.add]) (by omega) hcm hnil
    rwa [List.drop_zero] at this)
  clear hZ hsz hnil hb HB
  generalize nearN x.ep 281474976710656 = ee at *
  generalize nearN x.no 281474976710656 = nn at *
  generalize nearN x.kd 255 = kk at *
  generalize bodyOf x.bd = b at *
  generalize hL : x.bd.length = L at *
  clear hL
  go_enter Try.func66, Try.ntmps66
  go_wp2_with fail
  refine wp_world (S := fun W => MadeSt w W x (.slice A L c) (zs 512)) (MadeSt.first HZ.out) ?_
  intro W1 h1
  have H1 := Lib.hid h1
  obtain ⟨x0, x1, x2, x3, xf⟩ := cells4 h1.1
  clear h1 ZV
  generalize hp : w.heap.size = p at *
  go_quiet (first
    | (go_at_call 86; exact quiet_same (N1.out _))
    | (go_at_call 86; exact quiet_same (N2.out _)))
  go_upto_region 3 with fail
  go_cut [6] (fun s6 wx => ∃ A' n' c', s6 = .slice A' n' c' ∧ Hid (By w F (.slice A' n' c') b ∧ n' = b.length) ∧ Hid (MadeSt w wx x (.slice A L c) (zs 512)))
  case first =>
    by_cases hbig : L ≤ 472
    · have hc0 : L ≤ c := by omega
      go_wp2_with fail
      go_meet
      exact ⟨A, L, c, rfl, Lib.hid (B1.out hbig), Lib.hid (H1.out.drew nq)⟩
    · go_wp2_with fail
      go_meet
      exact ⟨A, 472, c, rfl, Lib.hid (B2.out (by omega)), Lib.hid (H1.out.drew nq)⟩
  case rest =>
    obtain ⟨A', n', c', rfl, hby, h1⟩ := hcut
    obtain ⟨hby, rfl⟩ := hby.out
    have BY := Lib.hid hby
    clear hby x0 x1 x2 x3 xf B1 B2 H1 N1 N2 hlc
    subst hp
    have H1 := Lib.hid h1.out
    clear h1
    go_wp2_with fail
    refine (snum_at 0 8 0 8 ee rfl rfl (by omega) (by omega) (by omega) H1.out.2.2.1).mono ?_
    rintro e w2 ⟨rfl, ha, hk2⟩
    have H2 := Lib.hid (H1.out.to ha hk2)
    clear ha hk2 H1
    go_wp2_with fail
    refine (snum_at 8 8 8 8 nn rfl rfl (by omega) (by omega) (by omega) H2.out.2.2.1).mono ?_
    rintro e w3 ⟨rfl, ha, hk2⟩
    have H3 := Lib.hid (H2.out.to ha hk2)
    clear ha hk2 H2
    obtain ⟨x0, x1, x2, x3, xf⟩ := cells4 H3.out.1
    go_wp2_with fail
    refine (N3.out _).mono ?_
    rintro e w4 ⟨rfl, rfl⟩
    go_wp2_with fail
    refine (snum_at 20 1 20 1 kk rfl rfl (by omega) (by omega) (by omega) H3.out.2.2.1).mono ?_
    rintro e w4 ⟨rfl, ha, hk2⟩
    have H4 := Lib.hid (H3.out.to ha hk2)
    clear ha hk2 H3 x0 x1 x2 x3 xf
    go_wp2_with fail
    refine (snum_at 22 2 22 2 b.length rfl rfl (by omega) (by omega) (by omega) H4.out.2.2.1).mono ?_
    rintro e w5 ⟨rfl, ha, hk2⟩
    have H5 := Lib.hid (H4.out.to ha hk2)
    clear ha hk2 H4
    have HS := Lib.hid (show 24 + 488 ≤ (bv (over (over (over (over (zs 512) 0 (leB ee 8)) 8 (leB nn 8)) 20 (leB kk 1)) 22 (leB b.length 2))).toArray.size by rw [List.size_toArray, bv_len, H5.out.2.2.1.2]; omega)
    have BY5 := Lib.hid (BY.out.keep (Keep.of_below' H5.out.2.2.2) (fun _ _ _ h => h))
    go_wp2_with (refine wpList_copy_gen rfl _ _ _ _ rfl 5 Try.underlying29 size_byte _ _ _ (w.heap.size + 1 + 1) 24 _ 108 rfl (fun _ => ⟨rfl, H5.out.2.2.1.1, HS.out⟩) F _ b.length (bv b) rfl BY5.out (bv_one b) ?_)
    intro w6 hl6
    rw [List.take_of_length_le (by rw [bv_len]; omega)] at hl6
    obtain ⟨ha, hk2⟩ := laid_over H5.out.2.2.1 hl6 (by omega)
    have H6 := Lib.hid (H5.out.to ha hk2)
    clear ha hk2 hl6 HS H5 BY5
    go_wp2_with fail
    refine (snum_at 496 8 496 8 nn rfl rfl (by omega) (by omega) (by omega) H6.out.2.2.1).mono ?_
    rintro e w7 ⟨rfl, ha, hk2⟩
    have H7 := Lib.hid (H6.out.to ha hk2)
    clear ha hk2 H6
    go_wp2_with fail
    refine (snum_at 504 8 504 8 ee rfl rfl (by omega) (by omega) (by omega) H7.out.2.2.1).mono ?_
    rintro e w8 ⟨rfl, ha, hk2⟩
    have H8 := Lib.hid (show MadeSt w w8 x (.slice A L c) (m7 ee nn kk b) from H7.out.to ha hk2)
    clear ha hk2 H7
    go_wp2_with fail
    refine (ssum_any H8.out.2.2.1).mono ?_
    rintro e w9 ⟨rfl, hb9⟩
    have H9 := Lib.hid (H8.out.below hb9)
    have hsl := crcOf_lt ((m7 ee nn kk b).take 16 ++ (m7 ee nn kk b).drop 20)
    clear hb9 H8
    go_wp2_with fail
    refine (snum_at 16 4 16 4 _ rfl rfl (by omega) (by omega) (by omega) H9.out.2.2.1).mono ?_
    rintro e w10 ⟨rfl, ha, hk2⟩
    have H10 := Lib.hid (show MadeSt w w10 x (.slice A L c) (m8 ee nn kk b) from H9.out.to ha hk2)
    clear ha hk2 H9
    have CS := Lib.hid (show (Try.prog.info? 108).map (·.size) = some (bv (m8 ee nn kk b)).toArray.size by rw [List.size_toArray, bv_len, H10.out.2.2.1.2]; exact HSZ.out)
    have CZ := Lib.hid (show (bv (zs 512)).toArray.size = (bv (m8 ee nn kk b)).toArray.size by rw [List.size_toArray, List.size_toArray, bv_len, bv_len, H10.out.2.2.1.2, zs_len])
    have C1 := Lib.hid (show (bv (m8 ee nn kk b)).toArray.all (·.oneCell') = true from all_oneCell_toArray (bv_one _))
    go_wp2_with (first
      | (refine wpList_load_row rfl _ _ rfl (w.heap.size + 1 + 1) rfl 108 _ (0, 0) _ H10.out.2.2.1.1 under_sector rfl CS.out ?_)
      | (refine wpList_store_row rfl _ _ _ rfl (w.heap.size + 1) _ rfl rfl 108 _ H10.out.2.1.1 CS.out CZ.out C1.out ?_))
    refine bodyPost_ret (v := .agg (bv (m8 ee nn kk b)).toArray) (results_cell_row Try.results66 _ _ (w.heap.size + 1) 108 _ (0, 0) _ rfl (setRow_heap w10 (w.heap.size + 1) _ _ 108 (0, 0) H10.out.2.1.1) under_sector rfl CS.out) rfl ⟨?_, ?_⟩
    · rw [SB.out, M8.out]
    · exact ((Keep.of_below H10.out.2.2.2).setRow (g := w.heap.size + 1) (.inl (by omega)) _).to_below (Nat.le_refl _)
end Go.Proofs.Ytfjgbnnjfapcmaa
namespace Go.Proofs.Ytfjgbnnjfapcmaa
open Go.RowKit
set_option maxRecDepth 100000
set_option linter.unusedVariables false

/-- A call that hands back bytes in new memory. -/
def ByPost (w : World) (l : List UInt8) (e : Ending) (w' : World) : Prop := ∃ A n c, e = .returned (.slice A n c) ∧ By w' (fun k => w.heap.size ≤ k) (.slice A n c) l ∧ Below w.heap.size w w'
/-- The word at a place, if it may be an epoch. -/
def wordE (s : List UInt8) (at_ : Nat) : Int := if wordZ s at_ < 0 ∨ 281474976710656 < wordZ s at_ then -1 else wordZ s at_
theorem getZ_word {s : List UInt8} {at_ : Nat} (h : at_ + 8 ≤ s.length) : getZ s at_ 8 = wordZ s at_ ∧ getOk s at_ 8 = true := by
  have hw : wideN 8 = 8 := rfl
  have ho : getOk s at_ 8 = true := getOk_yes (by rw [hw]; exact h)
  unfold getZ
  rw [ho, if_pos rfl, hw, Int.toNat_natCast]
  exact ⟨rfl, rfl⟩
theorem wrap64_bd (z : Int) : -9223372036854775808 ≤ wrap64 z ∧ wrap64 z ≤ 9223372036854775807 := by unfold wrap64; omega
set_option maxHeartbeats 2000000 in
theorem sword_any (s : List UInt8) (v : Value) (F : Nat → Prop) (at_ : Nat) (z : Int) (hz : z = at_) (w : World) (hv : By w F v s) (h : at_ + 8 ≤ s.length) (hl : s.length = 512) :
    Calls Try.prog 89 #[v, .int .i64 z] w fun e w' => e = .returned (.int .i64 (wordE s at_)) ∧ w = w' := by
  subst hz
  have G := Lib.hid (get_any s v F at_ 8 w hv (by omega) (by omega))
  rw [(getZ_word h).1, (getZ_word h).2] at G
  obtain ⟨A, c, rfl, -⟩ := hv
  have W1 := Lib.hid (show wordZ s at_ < 0 ∨ 281474976710656 < wordZ s at_ → wordE s at_ = -1 from fun h => by unfold wordE; rw [if_pos h])
  have W2 := Lib.hid (show ¬ (wordZ s at_ < 0 ∨ 281474976710656 < wordZ s at_) → wordE s at_ = wordZ s at_ from fun h => by unfold wordE; rw [if_neg h])
  generalize wordE s at_ = r at *
  generalize wordZ s at_ = y at *
  clear h
  generalize s.length = n at *
  subst hl
  rcases (show y < 0 ∨ (0 ≤ y ∧ 281474976710656 < y) ∨ (0 ≤ y ∧ y ≤ 281474976710656) by omega) with h1 | ⟨h1, h2⟩ | ⟨h1, h2⟩
  · rw [W1.out (by omega)]
    clear W1 W2
    have t1 : decide (y < 0) = true := by rw [decide_eq_true_iff]; omega
    clear h1
    go_enter Try.func89, Try.ntmps89
    go_wp2_with (go_at_call 58; refine G.out.mono ?_; rintro e w' ⟨rfl, rfl⟩)
    go_ret
    exact ⟨rfl, rfl⟩
  · rw [W1.out (by omega)]
    clear W1 W2
    have t1 : decide (y < 0) = false := by rw [decide_eq_false_iff_not]; omega
    have t2 : decide (281474976710656 < y) = true := by rw [decide_eq_true_iff]; omega
    clear h1 h2
    go_enter Try.func89, Try.ntmps89
    go_wp2_with (go_at_call 58; refine G.out.mono ?_; rintro e w' ⟨rfl, rfl⟩)
    go_ret
    exact ⟨rfl, rfl⟩
  · rw [W2.out (by omega)]
    clear W1 W2
    have t1 : decide (y < 0) = false := by rw [decide_eq_false_iff_not]; omega
    have t2 : decide (281474976710656 < y) = false := by rw [decide_eq_false_iff_not]; omega
    clear h1 h2
    go_enter Try.func89, Try.ntmps89
    go_wp2_with (go_at_call 58; refine G.out.mono ?_; rintro e w' ⟨rfl, rfl⟩)
    go_ret
    exact ⟨rfl, rfl⟩
theorem sepochs_any (s : List UInt8) (v : Value) (F : Nat → Prop) (w : World) (hv : By w F v s) :
    Calls Try.prog 73 #[v] w fun e w' => e = .returned (.tuple #[.int .i64 (epochZ s 0), .int .i64 (epochZ s 504)]) ∧ w = w' := by
  have hv0 := hv
  obtain ⟨A, c, rfl, -⟩ := hv
  by_cases hl : s.length = 512
  · have W1 := Lib.hid (sword_any s _ F 0 0 rfl w hv0 (by omega) hl)
    have W2 := Lib.hid (sword_any s _ F 504 504 rfl w hv0 (by omega) hl)
    have e1 := Lib.hid (show epochZ s 0 = wordE s 0 by unfold epochZ wordE; rw [if_pos hl])
    have e2 := Lib.hid (show epochZ s 504 = wordE s 504 by unfold epochZ wordE; rw [if_pos hl])
    rw [e1.out, e2.out]
    clear hv0
    rw [hl] at *
    generalize wordE s 0 = y at *
    generalize wordE s 504 = r at *
    clear hl
    go_enter Try.func73, Try.ntmps73
    go_wp2_with fail
    refine W1.out.mono ?_
    rintro e w' ⟨rfl, rfl⟩
    go_wp2_with fail
    refine W2.out.mono ?_
    rintro e w' ⟨rfl, rfl⟩
    go_wp2
    go_ret2
    exact ⟨rfl, rfl⟩
  · have e1 := Lib.hid (show epochZ s 0 = -1 by unfold epochZ; rw [if_neg hl])
    have e2 := Lib.hid (show epochZ s 504 = -1 by unfold epochZ; rw [if_neg hl])
    have hl' : ((s.length : Int) != 512) = true := by simp; omega
    rw [e1.out, e2.out]
    clear hv0 hl
    generalize s.length = n at *
    go_enter Try.func73, Try.ntmps73
    go_wp2
    go_ret2
    exact ⟨rfl, rfl⟩
set_option maxHeartbeats 2000000 in
theorem stop_any (s : List UInt8) (v : Value) (F : Nat → Prop) (w : World) (hv : By w F v s) :
    Calls Try.prog 52 #[v] w fun e w' => e = .returned (.int .i64 (topZ s)) ∧ w = w' := by
  have E := Lib.hid (sepochs_any s v F w hv)
  have T := Lib.hid (show topZ s = max 0 (max (epochZ s 0) (epochZ s 504)) from rfl)
  obtain ⟨A, c, rfl, -⟩ := hv
  generalize epochZ s 0 = x at *
  generalize epochZ s 504 = y at *
  generalize topZ s = t at *
  generalize s.length = n at *
  rcases Int.lt_or_le x 0 with h1 | h1 <;> rcases Int.lt_or_le y 0 with h2 | h2 <;> rcases Int.lt_or_le x y with h3 | h3
  all_goals try (exfalso; omega)
  all_goals
    go_enter Try.func52, Try.ntmps52
    go_wp2_with (go_at_call 73; refine E.out.mono ?_; rintro e w' ⟨rfl, rfl⟩)
    all_goals try (exfalso; omega)
    all_goals
      go_ret
      refine ⟨?_, rfl⟩
      rw [T.out]
      exact ret_int (by omega)
set_option maxHeartbeats 2000000 in
theorem refEpochs_any (s : List UInt8) (v : Value) (F : Nat → Prop) (w : World) (hv : By w F v s) :
    Calls Try.prog 67 #[v] w fun e w' => e = .returned (.tuple #[.int .i64 (epochZ s 0), .int .i64 (epochZ s 504)]) ∧ w = w' := by
  have hv0 := hv
  obtain ⟨A, c, rfl, -⟩ := hv
  by_cases hl : s.length = 512
  · have W1 := Lib.hid (refGet_any s _ F 0 8 w hv0 (by omega) (by omega))
    have W2 := Lib.hid (refGet_any s _ F 504 8 w hv0 (by omega) (by omega))
    have g1 := getZ_word (s := s) (at_ := 0) (by omega)
    have g2 := getZ_word (s := s) (at_ := 504) (by omega)
    rw [show ((0 : Nat) : Int) = 0 from rfl] at g1
    rw [show ((504 : Nat) : Int) = 504 from rfl] at g2
    rw [g1.1, g1.2] at W1
    rw [g2.1, g2.2] at W2
    have e1 := Lib.hid (show epochZ s 0 = if wordZ s 0 < 0 ∨ 281474976710656 < wordZ s 0 then -1 else wordZ s 0 by unfold epochZ; rw [if_pos hl])
    have e2 := Lib.hid (show epochZ s 504 = if wordZ s 504 < 0 ∨ 281474976710656 < wordZ s 504 then -1 else wordZ s 504 by unfold epochZ; rw [if_pos hl])
    clear hv0 g1 g2
    rw [hl] at *
    generalize epochZ s 0 = r at *
    generalize epochZ s 504 = q at *
    generalize wordZ s 0 = y at *
    generalize wordZ s 504 = z at *
    clear hl
    have N1 := Lib.hid (show ∀ W, Calls Try.prog 71 #[.int .i64 y, .int .i64 281474976710656] W fun e w' => e = .returned (.int .i64 (nearN y 281474976710656 : Nat)) ∧ W = w' from fun W => refNear_any y 281474976710656 (by decide) W)
    have N2 := Lib.hid (show ∀ W, Calls Try.prog 71 #[.int .i64 z, .int .i64 281474976710656] W fun e w' => e = .returned (.int .i64 (nearN z 281474976710656 : Nat)) ∧ W = w' from fun W => refNear_any z 281474976710656 (by decide) W)
    have n1 : (y != ((nearN y 281474976710656 : Nat) : Int)) = decide (y < 0 ∨ 281474976710656 < y) := by
      rw [Bool.eq_iff_iff]; simp only [bne_iff_ne, decide_eq_true_iff]; unfold nearN; split <;> (try split) <;> omega
    have n2 : (z != ((nearN z 281474976710656 : Nat) : Int)) = decide (z < 0 ∨ 281474976710656 < z) := by
      rw [Bool.eq_iff_iff]; simp only [bne_iff_ne, decide_eq_true_iff]; unfold nearN; split <;> (try split) <;> omega
    generalize nearN y 281474976710656 = y1 at *
    generalize nearN z 281474976710656 = z1 at *
    by_cases c1 : y < 0 ∨ 281474976710656 < y <;> by_cases c2 : z < 0 ∨ 281474976710656 < z
    all_goals
      first | rw [decide_eq_true c1] at n1 | rw [decide_eq_false c1] at n1
      first | rw [decide_eq_true c2] at n2 | rw [decide_eq_false c2] at n2
      first | rw [if_pos c1] at e1 | rw [if_neg c1] at e1
      first | rw [if_pos c2] at e2 | rw [if_neg c2] at e2
      clear c1 c2
      go_enter Try.func67, Try.ntmps67
      go_wp2_with fail
      refine W1.out.mono ?_
      rintro e w' ⟨rfl, rfl⟩
      go_wp2_with fail
      refine W2.out.mono ?_
      rintro e w' ⟨rfl, rfl⟩
      go_wp2_with fail
      refine (N1.out _).mono ?_
      rintro e w' ⟨rfl, rfl⟩
      go_wp2_with fail
      refine (N2.out _).mono ?_
      rintro e w' ⟨rfl, rfl⟩
      go_wp2
      go_ret2
      rw [e1.out, e2.out]
      exact ⟨rfl, rfl⟩
  · have e1 := Lib.hid (show epochZ s 0 = -1 by unfold epochZ; rw [if_neg hl])
    have e2 := Lib.hid (show epochZ s 504 = -1 by unfold epochZ; rw [if_neg hl])
    have hl' : ((s.length : Int) != 512) = true := by simp; omega
    rw [e1.out, e2.out]
    clear hv0 hl
    generalize s.length = n at *
    go_enter Try.func67, Try.ntmps67
    go_wp2
    go_ret2
    exact ⟨rfl, rfl⟩
set_option maxHeartbeats 2000000 in
theorem refTop_any (s : List UInt8) (v : Value) (F : Nat → Prop) (w : World) (hv : By w F v s) :
    Calls Try.prog 44 #[v] w fun e w' => e = .returned (.int .i64 (topZ s)) ∧ w = w' := by
  have E := Lib.hid (refEpochs_any s v F w hv)
  have T := Lib.hid (show topZ s = max 0 (max (epochZ s 0) (epochZ s 504)) from rfl)
  obtain ⟨A, c, rfl, -⟩ := hv
  generalize epochZ s 0 = x at *
  generalize epochZ s 504 = y at *
  generalize topZ s = t at *
  generalize s.length = n at *
  rcases Int.lt_or_le x 0 with h1 | h1 <;> rcases Int.lt_or_le y 0 with h2 | h2 <;> rcases Int.lt_or_le x y with h3 | h3
  all_goals try (exfalso; omega)
  all_goals
    go_enter Try.func44, Try.ntmps44
    go_wp2_with (go_at_call 67; refine E.out.mono ?_; rintro e w' ⟨rfl, rfl⟩)
    all_goals try (exfalso; omega)
    all_goals
      go_ret
      refine ⟨?_, rfl⟩
      rw [T.out]
      exact ret_int (by omega)
end Go.Proofs.Ytfjgbnnjfapcmaa

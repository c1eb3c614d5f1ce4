/- Contract of vivariumref13.Get. -/
import Derived.Test.YtakchlaoimnnhaaCmdH
import Derived.OwnWalk
namespace Go.Proofs.Ytakchlaoimnnhaa
open Go.RowKit
set_option maxRecDepth 100000
set_option linter.unusedVariables false

def byteZ (l : List UInt8) (i : Nat) : Int := ((l.getD i 0).toNat : Nat)
def e0R (loc : Bool) : Nat := if loc = true then 10 else 18
def genR (l : List UInt8) (loc : Bool) : Int := if loc = true then 0 else getZ l 10 8
/-- Past the two first bytes. -/
def refRest (l : List UInt8) (d : Int) (loc : Bool) : Cmd × Int × Int :=
  if d = 2 then
    if getOk l (e0R loc + 8 : Nat) 2 = true ∧ 64 < getZ l (e0R loc + 8 : Nat) 2 then (zeroC, 0, 13)
    else if (l.length : Int) < (e0R loc + 10 : Nat) + getZ l (e0R loc + 8 : Nat) 2 then (zeroC, 0, 12)
    else (⟨2, loc, getZ l 2 8, genR l loc, getZ l (e0R loc) 8, (l.drop (e0R loc + 10)).take (getZ l (e0R loc + 8 : Nat) 2).toNat⟩, (e0R loc + 10 : Nat) + getZ l (e0R loc + 8 : Nat) 2, 0)
  else if d = 1 then
    if (l.length : Int) < e0R loc then (zeroC, 0, 12) else (⟨1, loc, getZ l 2 8, genR l loc, 0, []⟩, e0R loc, 0)
  else
    if (l.length : Int) < (e0R loc + 8 : Nat) then (zeroC, 0, 12) else (⟨3, loc, getZ l 2 8, genR l loc, getZ l (e0R loc) 8, []⟩, (e0R loc + 8 : Nat), 0)
def refL (l : List UInt8) : Cmd × Int × Int :=
  if l.length = 0 then (zeroC, 0, 12)
  else if 3 < byteZ l 0 then (zeroC, 0, 11)
  else if byteZ l 0 = 0 then (zeroC, 1, 0)
  else if l.length = 1 then (zeroC, 0, 12)
  else if 1 < byteZ l 1 then (zeroC, 0, 11)
  else refRest l (byteZ l 0) (decide (byteZ l 1 = 1))
def refP (b : List UInt8) (at_ : Int) : Cmd × Int × Int :=
  if at_ < 0 ∨ (b.length : Int) < at_ then (zeroC, 0, 2)
  else if (refL (b.drop at_.toNat)).2.2 ≠ 0 then (zeroC, 0, (refL (b.drop at_.toNat)).2.2)
  else ((refL (b.drop at_.toNat)).1, at_ + (refL (b.drop at_.toNat)).2.1, 0)
set_option maxHeartbeats 4000000 in
theorem rg_bad (b : List UInt8) (v : Value) (F : Nat → Prop) (at_ : Int) (w : World) (hv : By w F v b) (hat : at_ < 0 ∨ (b.length : Int) < at_) (hlo : -9223372036854775808 ≤ at_) (hhi : at_ ≤ 9223372036854775807) :
    Calls Try.prog 26 #[v, .int .i64 at_] w (RGPost F w (zeroC, 0, 2)) := by
  obtain ⟨A, c, rfl, -⟩ := hv
  generalize b.length = n at *
  by_cases h0 : at_ < 0
  · clear hat
    go_enter Try.func26, Try.ntmps26
    go_wp2
    exact bodyPost_ret (results_cmd3 rfl _ _ w.heap.size _ _ _ _ _ _ rfl (heap_alloc_new w _) _ _ rfl rfl) rfl ⟨none, 0, 0, rfl, By.nil _ _, by exact (by repeat first | exact Below.refl _ _ | refine Below.setCell ?_ (by first | omega | (simp; done) | (simp; omega)) _ | refine Below.alloc ?_ (by first | omega | (simp; done) | (simp; omega)) _ | refine Below.drew ?_ | refine below_drewN ?_ _ | assumption)⟩
  · have h1 : (n : Int) < at_ := hat.resolve_left h0
    clear hat
    go_enter Try.func26, Try.ntmps26
    go_wp2
    exact bodyPost_ret (results_cmd3 rfl _ _ w.heap.size _ _ _ _ _ _ rfl (heap_alloc_new w _) _ _ rfl rfl) rfl ⟨none, 0, 0, rfl, By.nil _ _, by exact (by repeat first | exact Below.refl _ _ | refine Below.setCell ?_ (by first | omega | (simp; done) | (simp; omega)) _ | refine Below.alloc ?_ (by first | omega | (simp; done) | (simp; omega)) _ | refine Below.drew ?_ | refine below_drewN ?_ _ | assumption)⟩
set_option maxHeartbeats 4000000 in
theorem rg_none (F : Nat → Prop) (n c : Nat) (A : Option Addr) (w : World) (hn : n ≤ 1099511627776) (hbc : n ≤ c) (hcm : c ≤ maxLen) :
    Calls Try.prog 26 #[.slice A n c, .int .i64 (n : Nat)] w (RGPost F w (zeroC, 0, 12)) := by
  have f0 : (0 : Int) ≤ (n : Int) := by omega
  have f2 : (n : Int) ≤ (c : Int) := by omega
  by_cases hc : c = n
  all_goals
    go_enter Try.func26, Try.ntmps26
    go_upto_region 5 with fail
    refine wp_world (S := fun X => X.heap[w.heap.size]? = some (.cells #[.int .i64 0, .bool false, .int .i64 0, .int .i64 0, .int .i64 0, .slice none 0 0] 39 (0, 0)) ∧ X.heap[w.heap.size + 1]? = some (.cells #[.int .i64 0, .bool false, .int .i64 0, .int .i64 0, .int .i64 0, .slice none 0 0] 39 (0, 0)) ∧ Keep (fun _ => False) w X) ⟨(heap_alloc_old (w.alloc _) _ (by simp)).trans (heap_alloc_new w _), (by have := heap_alloc_new (w.alloc (.cells #[.int .i64 0, .bool false, .int .i64 0, .int .i64 0, .int .i64 0, .slice none 0 0] 39)) (.cells #[.int .i64 0, .bool false, .int .i64 0, .int .i64 0, .int .i64 0, .slice none 0 0] 39 (0, 0)); simpa using this), ((Keep.refl (fun _ => False) w).alloc _).alloc _⟩ ?_
    rintro X hX
    have HX := Lib.hid hX
    clear hX
    obtain ⟨r0, r1, r2, r3, r4, r5, rf⟩ := cells6 HX.out.1
    obtain ⟨q0, q1, q2, q3, q4, q5, qf⟩ := cells6 HX.out.2.1
    go_wp2_with fail
    have KK := keepS6 X w.heap.size (.int .i64 0) (.bool false) (.int .i64 0) (.int .i64 0) (.int .i64 0) (.slice none 0 0)
    have HS := stored6 (HX.out.1) (.int .i64 0) (.bool false) (.int .i64 0) (.int .i64 0) (.int .i64 0) (.slice none 0 0)
    generalize ((((((X.setCell ⟨w.heap.size, 0, none⟩ (.int .i64 0)).setCell ⟨w.heap.size, 1, none⟩ (.bool false)).setCell ⟨w.heap.size, 2, none⟩ (.int .i64 0)).setCell ⟨w.heap.size, 3, none⟩ (.int .i64 0)).setCell ⟨w.heap.size, 4, none⟩ (.int .i64 0)).setCell ⟨w.heap.size, 5, none⟩ (.slice none 0 0)) = W7 at KK HS ⊢
    exact bodyPost_ret (results_cmd3 rfl _ _ w.heap.size _ _ _ _ _ _ rfl (show W7.heap[w.heap.size]? = _ from HS) _ _ rfl rfl) rfl ⟨none, 0, 0, rfl, By.nil _ _, ((HX.out.2.2).trans' KK (Nat.le_refl _)).to_below'⟩
end Go.Proofs.Ytakchlaoimnnhaa

/- The walk of vivariumlaw05.BitsSets: it returns true, old memory unchanged. -/
import Derived.Test.YtmlbkenbgajkmaaDoorProg
import Derived.Test.YtmlbkenbgajkmaaDoorBits4
import Derived.Test.YtmlbkenbgajkmaaDoorBits6
namespace Go.Proofs.YtmlbkenbgajkmaaDoor
open Go.RowKit

theorem bitsSets_walk (l : List Int) (A : Option Addr) (n c : Nat) (F : Nat → Prop) (s : Nat) (d : Int) (hs : s < 18446744073709551616) (w : World) (hr : Rd w F A n (iv l)) (hn : n ≤ maxLen) (hT : Tab w) :
    Calls Tryd.prog 4 #[.slice A n c, .int .u64 s, .int .i64 d] w fun e w' => e = .returned (.bool true) ∧ Below w.heap.size w w' := by
  have hT' : ∀ wr, Below w.heap.size w wr → Tab wr := fun wr hb k hk => (hb.cell (World.block_lt_of_cell? w _ (hT k hk))).trans (hT k hk)
  have HT := Lib.hid hT'
  have HT0 := Lib.hid hT
  clear hT hT'
  unfold maxLen at hn
  by_cases hlt : 100 < n
  · go_enter Tryd.func4, Tryd.ntmps4
    go_wp2_with (go_at_call 10; refine (live05_any _ HT0.out).mono ?_; rintro e w2 ⟨rfl, hb2⟩)
    go_ret
    exact ⟨rfl, hb2⟩
  · have E := Lib.hid (of_eq l)
    have W1 := Lib.hid (bitsOf_any l A n c F)
    have W2 := Lib.hid (refOf_any l A n c F)
    rw [of_eq l] at W1
    have HR := Lib.hid hr
    clear hr
    generalize ofTo l 64 = x at *
    go_enter Tryd.func4, Tryd.ntmps4
    go_wp2_with fail
    refine (W1.out _ HR.out (by omega)).mono ?_
    rintro e w' ⟨rfl, rfl⟩
    go_wp2_with fail
    refine (W2.out _ HR.out (by omega)).mono ?_
    rintro e w' ⟨rfl, rfl⟩
    go_wp2_with fail
    refine (with_any s d hs _).mono ?_
    rintro e w' ⟨rfl, rfl⟩
    go_wp2_with fail
    refine (refWith_any s d hs _).mono ?_
    rintro e w1 ⟨rfl, hb1⟩
    go_wp2_with fail
    refine (without_any s d hs _).mono ?_
    rintro e w' ⟨rfl, rfl⟩
    go_wp2_with fail
    refine (refWithout_any s d hs _).mono ?_
    rintro e w2 ⟨rfl, hb2⟩
    go_wp2_with fail
    refine (bitsHas_any s d hs _).mono ?_
    rintro e w' ⟨rfl, rfl⟩
    go_wp2_with fail
    refine (has_any s d hs _).mono ?_
    rintro e w' ⟨rfl, rfl⟩
    have hb3 := hb1.trans (hb2.mono hb1.size)
    go_wp2_with fail
    refine (live05_any _ (HT.out _ hb3)).mono ?_
    rintro e w4 ⟨rfl, hb4⟩
    go_wp2
    go_ret
    exact ⟨rfl, hb3.trans (hb4.mono hb3.size)⟩
end Go.Proofs.YtmlbkenbgajkmaaDoor

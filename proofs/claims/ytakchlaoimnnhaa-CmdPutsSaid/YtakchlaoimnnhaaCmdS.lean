/- Contracts of cmd.reader's num and must; what they do to the reader's state. -/
import Derived.Test.YtakchlaoimnnhaaCmdR
import Derived.Test.YtakchlaoimnnhaaRdr
namespace Go.Proofs.Ytakchlaoimnnhaa
open Go.RowKit
set_option maxRecDepth 100000
set_option linter.unusedVariables false

/-- The reader's state: its place, whether something was not there, the first error. -/
structure RS where
  k : Nat
  bad : Bool
  e : Int
def numS (l : List UInt8) (s : RS) (width : Int) : Int × RS := ((numR l s.k s.bad width).1, ⟨(numR l s.k s.bad width).2.1, (numR l s.k s.bad width).2.2, if (numR l s.k s.bad width).2.2 = true ∧ s.e = 0 then 12 else s.e⟩)
def mustS (s : RS) (is : Bool) (e : Int) : RS := if is = false ∧ s.e = 0 then ⟨s.k, s.bad, e⟩ else s
/-- The command's reader in block P, le's in block rp. -/
def CRd (W : World) (P rp : Nat) (F : Nat → Prop) (l : List UInt8) (s : RS) : Prop :=
  W.heap[P]? = some (.cells #[.pointer (some ⟨rp, 0, none⟩), .int .i64 s.e] 95 (0, 0)) ∧ Rdr W rp F l s.k s.bad ∧ P ≠ rp ∧ ¬ F P
/-- What a call of it leaves. -/
def CTo (W : World) (P rp : Nat) (F : Nat → Prop) (l : List UInt8) (s : RS) (W' : World) : Prop := CRd W' P rp F l s ∧ Keep (fun b => b = P ∨ b = rp) W W'
section
variable {W W' : World} {P rp : Nat} {F : Nat → Prop} {l : List UInt8} {s : RS}
theorem CRd.step (h : CRd W P rp F l s) {k : Nat} {bad : Bool} (hr : RTo W rp F l k bad W') : CTo W P rp F l ⟨k, bad, s.e⟩ W' :=
  ⟨⟨(hr.2.block P (Array.getElem?_eq_some_iff.1 h.1).1 h.2.2.1).trans h.1, hr.1, h.2.2.1, h.2.2.2⟩, hr.2.mono (fun _ _ e => .inr e)⟩
theorem CRd.err (h : CRd W P rp F l s) (e : Int) : CTo W P rp F l ⟨s.k, s.bad, e⟩ (W.setCell ⟨P, 1, none⟩ (.int .i64 e)) := by
  have hk : Keep (fun b => b = P) W (W.setCell ⟨P, 1, none⟩ (.int .i64 e)) := Keep.setCell (S := fun b => b = P) (p := ⟨P, 1, none⟩) (Keep.refl _ W) (.inr rfl) _
  refine ⟨⟨by rw [heap_setCell_same W P 1 _ _ _ h.1]; rfl, rdr_keep h.2.1 hk (fun e => h.2.2.1 e.symm) (fun b _ hF e => h.2.2.2 (by rw [← e]; exact hF)), h.2.2.1, h.2.2.2⟩, hk.mono (fun _ _ e => .inl e)⟩
theorem CTo.refl (h : CRd W P rp F l s) : CTo W P rp F l s W := ⟨h, Keep.refl _ _⟩
theorem CTo.trans {W2 : World} {s2 : RS} (h : CTo W P rp F l s W') (k : CTo W' P rp F l s2 W2) : CTo W P rp F l s2 W2 := ⟨k.1, h.2.trans k.2 (fun _ _ h => h)⟩
end
/-- What num leaves. -/
def CNum (W : World) (P rp : Nat) (F : Nat → Prop) (l : List UInt8) (q : Int × RS) (e : Ending) (w' : World) : Prop := e = .returned (.int .i64 q.1) ∧ CTo W P rp F l q.2 w'
set_option maxHeartbeats 2000000 in
theorem cnum_any {W : World} {P rp : Nat} {F : Nat → Prop} {l : List UInt8} {s : RS} (h : CRd W P rp F l s) (width : Int) :
    Calls Try.prog 93 #[.pointer (some ⟨P, 0, none⟩), .int .i64 width] W (CNum W P rp F l (numS l s width)) := by
  have R := Lib.hid (rnum_any h.2.1 width)
  have H := Lib.hid h
  have NS := Lib.hid (show numS l s width = ((numR l s.k s.bad width).1, ⟨(numR l s.k s.bad width).2.1, (numR l s.k s.bad width).2.2, if (numR l s.k s.bad width).2.2 = true ∧ s.e = 0 then 12 else s.e⟩) from rfl)
  generalize numR l s.k s.bad width = a at *
  generalize numS l s width = q at *
  obtain ⟨z, k, bad⟩ := a
  obtain ⟨x0, x1, xf⟩ := cells2 h.1
  clear h
  go_enter Try.func93, Try.ntmps93
  go_wp2_with fail
  refine R.out.mono ?_
  rintro e w1 ⟨rfl, hr⟩
  have C := Lib.hid (H.out.step hr)
  have OK := Lib.hid (rok_any hr.1)
  clear hr x0 x1 xf
  obtain ⟨x0, x1, xf⟩ := cells2 C.out.1.1
  cases bad
  · go_wp2_with fail
    refine OK.out.mono ?_
    rintro e w2 ⟨rfl, rfl⟩
    go_wp2
    go_ret
    rw [NS.out]
    exact ⟨rfl, by rw [if_neg (by simp)]; exact C.out⟩
  · by_cases he : s.e = 0
    · have e1 : (s.e == 0) = true := by rw [beq_iff_eq]; exact he
      have ER := Lib.hid (C.out.trans (C.out.1.err 12))
      have IF := Lib.hid he
      clear he
      go_wp2_with fail
      refine OK.out.mono ?_
      rintro e w2 ⟨rfl, rfl⟩
      go_wp2
      go_ret
      rw [NS.out]
      exact ⟨rfl, by rw [if_pos ⟨by first | rfl | trivial, IF.out⟩]; exact ER.out⟩
    · have e1 : (s.e == 0) = false := by rw [beq_eq_false_iff_ne]; exact he
      have IF := Lib.hid he
      clear he
      go_wp2_with fail
      refine OK.out.mono ?_
      rintro e w2 ⟨rfl, rfl⟩
      go_wp2
      go_ret
      rw [NS.out]
      exact ⟨rfl, by rw [if_neg (fun h => IF.out h.2)]; exact C.out⟩
set_option maxHeartbeats 2000000 in
theorem cmust_any {W : World} {P rp : Nat} {F : Nat → Prop} {l : List UInt8} {s : RS} (h : CRd W P rp F l s) (is : Bool) (z : Int) :
    Calls Try.prog 94 #[.pointer (some ⟨P, 0, none⟩), .bool is, .int .i64 z] W fun e w' => e = .returned (.tuple #[]) ∧ CTo W P rp F l (mustS s is z) w' := by
  obtain ⟨x0, x1, xf⟩ := cells2 h.1
  have ER := Lib.hid (h.err z)
  have SA := Lib.hid (CTo.refl h)
  clear h
  cases is
  · by_cases he : s.e = 0
    · have e1 : (s.e == 0) = true := by rw [beq_iff_eq]; exact he
      have IF := Lib.hid (show mustS s false z = ⟨s.k, s.bad, z⟩ by unfold mustS; rw [if_pos ⟨rfl, he⟩])
      clear he
      rw [IF.out]
      go_enter Try.func94, Try.ntmps94
      go_wp2
      go_end0
      exact ⟨rfl, ER.out⟩
    · have e1 : (s.e == 0) = false := by rw [beq_eq_false_iff_ne]; exact he
      have IF := Lib.hid (show mustS s false z = s by unfold mustS; rw [if_neg (fun h => he h.2)])
      clear he
      rw [IF.out]
      go_enter Try.func94, Try.ntmps94
      go_wp2
      go_end0
      exact ⟨rfl, SA.out⟩
  · have IF := Lib.hid (show mustS s true z = s by unfold mustS; rw [if_neg (by simp)])
    rw [IF.out]
    go_enter Try.func94, Try.ntmps94
    go_wp2
    go_end0
    exact ⟨rfl, SA.out⟩
end Go.Proofs.Ytakchlaoimnnhaa

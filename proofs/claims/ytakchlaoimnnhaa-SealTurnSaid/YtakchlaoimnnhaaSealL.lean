/- vivariumlaw03.live; seals in boxes. -/
import Derived.Test.YtakchlaoimnnhaaSeal7
namespace Go.Proofs.Ytakchlaoimnnhaa
open Go.RowKit
set_option maxRecDepth 100000
set_option linter.unusedVariables false

/-- A seal in a box of its own. -/
def Bx (W : World) (F : Nat → Prop) (p : Nat) (x : SV) (u : Value) : Prop := W.heap[p]? = some (.cells #[.int .i64 x.ep, .int .i64 x.no, .int .i64 x.kd, u] 50 (0, 0)) ∧ By W F u x.bd
section
variable {W W' : World} {F : Nat → Prop} {p : Nat} {x : SV} {u : Value}
theorem Bx.same (h : Bx W F p x u) (hk : Keep (fun _ => False) W W') : Bx W' F p x u := ⟨(hk.block p (Array.getElem?_eq_some_iff.1 h.1).1 (fun h => h)).trans h.1, h.2.keep hk (fun _ _ _ h => h)⟩
theorem Bx.new (h : By W F u x.bd) : Bx (W.alloc (.cells #[.int .i64 x.ep, .int .i64 x.no, .int .i64 x.kd, u] 50)) F W.heap.size x u := ⟨heap_alloc_new W _, h.keep ((Keep.refl (fun _ => False) W).alloc _) (fun _ _ _ h => h)⟩
theorem Bx.cells (h : Bx W F p x u) : W.cell? ⟨p, 0, none⟩ = some (.int .i64 x.ep) ∧ W.cell? ⟨p, 1, none⟩ = some (.int .i64 x.no) ∧ W.cell? ⟨p, 2, none⟩ = some (.int .i64 x.kd) ∧ W.cell? ⟨p, 3, none⟩ = some u := by
  obtain ⟨h0, h1, h2, h3, _⟩ := cells4 h.1
  exact ⟨h0, h1, h2, h3⟩
end
theorem By.same {W W' : World} {F : Nat → Prop} {v : Value} {l : List UInt8} (h : By W F v l) (hk : Keep (fun _ => False) W W') : By W' F v l := h.keep hk (fun _ _ _ h => h)
theorem K.to {w W W' : World} (h : Keep (fun _ => False) w W) (hb : Below W.heap.size W W') : Keep (fun _ => False) w W' := h.trans (Keep.of_below' hb) (fun _ _ h => h)
/-- The byte at a place of a word. -/
theorem byte_of_piece {s : List UInt8} {at_ n : Nat} {c : UInt8} {l : List UInt8} (h : pieceOf s at_ n = c :: l) (hs : at_ < s.length) : s.getD at_ 0 = c := by
  have h2 := congrArg (fun l => l[0]?) h
  unfold pieceOf at h2
  simp only [List.getElem?_cons_zero] at h2
  rw [List.getElem?_take] at h2
  split at h2
  · rw [List.getElem?_drop, Nat.add_zero] at h2
    rw [List.getD_eq_getElem?_getD, h2]; rfl
  · cases h2
def liveS : SV := ⟨3, 5, 0, []⟩
theorem live_bytes : (sealB liveS).getD 0 0 = 3 ∧ (sealB liveS).getD 504 0 = 3 ∧ (sealB liveS).getD 8 0 = 5 ∧ (sealB liveS).getD 496 0 = 5 := by
  have hl := sealB_len liveS
  have e3 : leB 3 8 = 3 :: [0, 0, 0, 0, 0, 0, 0] := by decide
  have e5 : leB 5 8 = 5 :: [0, 0, 0, 0, 0, 0, 0] := by decide
  refine ⟨byte_of_piece (s := sealB liveS) ((seal_front _ _ _ _).trans e3) (by rw [hl]; decide), byte_of_piece (s := sealB liveS) ((seal_last _ _ _ _).trans e3) (by rw [hl]; decide), byte_of_piece (s := sealB liveS) ((seal_no _ _ _ _).trans e5) (by rw [hl]; decide), byte_of_piece (s := sealB liveS) ((seal_back _ _ _ _).trans e5) (by rw [hl]; decide)⟩
set_option maxHeartbeats 4000000 in
theorem live03 (w : World) : Calls Try.prog 30 #[] w fun e w' => e = .returned (.bool true) ∧ Below w.heap.size w w' := by
  have P0 := Lib.hid (sput_any liveS (.slice none 0 0) (fun _ => True) w (By.nil _ _))
  have LB := Lib.hid live_bytes
  have LL := Lib.hid (sealB_len liveS)
  have GS := Lib.hid (show okS (sealB liveS) = true ∧ gotS (sealB liveS) = ⟨3, 5, 0, []⟩ from ⟨okS_sealB _, by unfold gotS; rw [okS_sealB, if_pos rfl, valOf_sealB]; rfl⟩)
  generalize sealB liveS = L at *
  go_enter Try.func30, Try.ntmps30
  go_wp2_with fail
  refine P0.out.mono ?_
  rintro e w1 ⟨A, n, c, rfl, hy, hb⟩
  obtain ⟨A', c', e, -, hcm, -, hrd⟩ := id hy
  injection e with e1 e2 e3
  subst e1 e2 e3
  rw [Nat.mul_one] at hrd
  obtain ⟨gb, go, rfl, -, hrc⟩ := hrd.at_ (k := 0) (by rw [LL.out]; decide)
  have s0 : w1.cell? ⟨gb, go, none⟩ = some (.int .u8 3) := by
    have := hrc 0 _ (bv_at (by rw [LL.out]; decide)).1
    rw [LB.out.1] at this; exact this
  have s1 : w1.cell? ⟨gb, go + 504, none⟩ = some (.int .u8 3) := by
    have := hrc 504 _ (bv_at (by rw [LL.out]; decide)).1
    rw [LB.out.2.1] at this; exact this
  have s2 : w1.cell? ⟨gb, go + 8, none⟩ = some (.int .u8 5) := by
    have := hrc 8 _ (bv_at (by rw [LL.out]; decide)).1
    rw [LB.out.2.2.1] at this; exact this
  have s3 : w1.cell? ⟨gb, go + 496, none⟩ = some (.int .u8 5) := by
    have := hrc 496 _ (bv_at (by rw [LL.out]; decide)).1
    rw [LB.out.2.2.2] at this; exact this
  have G1 := Lib.hid (sget_any L _ _ w1 hy (by rw [LL.out]; decide))
  rw [GS.out.1, GS.out.2] at G1
  have S1 := Lib.hid (And.intro (And.intro s0 s1) (And.intro s2 s3))
  have B1 := Lib.hid hb
  clear hrc hrd hy hb s0 s1 s2 s3 P0 LB GS
  have hll := LL.out
  clear LL
  generalize L.length = n at *
  subst hll
  go_wp2_with fail
  refine G1.out.mono ?_
  rintro e w2 ⟨A2, n2, c2, rfl, -, hb2⟩
  have B2 := Lib.hid (B1.out.trans (hb2.mono B1.out.size))
  have K2 := Lib.hid (fun W (hk : Keep (fun _ => False) w2 W) => show Keep (fun _ => False) w1 W from (Keep.of_below' hb2).trans hk (fun _ _ h => h))
  clear hb2 B1
  go_upto_region 3 with fail
  have KA := Lib.hid (K2.out _ ((Keep.refl (fun _ => False) w2).alloc (.cells #[.int .i64 3, .int .i64 5, .int .i64 0, .slice A2 n2 c2] 50)))
  refine wp_world (S := fun W => (W.cell? ⟨gb, go, none⟩ = some (.int .u8 3) ∧ W.cell? ⟨gb, go + 504, none⟩ = some (.int .u8 3) ∧ W.cell? ⟨gb, go + 8, none⟩ = some (.int .u8 5) ∧ W.cell? ⟨gb, go + 496, none⟩ = some (.int .u8 5)) ∧ W.cell? ⟨w2.heap.size, 1, none⟩ = some (.int .i64 5) ∧ Below w.heap.size w W)
    ⟨⟨KA.out.cell (fun h => h) S1.out.1.1, KA.out.cell (fun h => h) S1.out.1.2, KA.out.cell (fun h => h) S1.out.2.1, KA.out.cell (fun h => h) S1.out.2.2⟩, (cells4 (heap_alloc_new w2 _)).2.1, B2.out.alloc B2.out.size _⟩ ?_
  rintro W ⟨⟨s0, s1, s2, s3⟩, s4, hbW⟩
  have BW := Lib.hid hbW
  clear hbW KA K2 B2
  go_wp2
  go_ret
  exact ⟨rfl, BW.out⟩
end Go.Proofs.Ytakchlaoimnnhaa

/- Contracts of math/bits.TrailingZeros64. -/
import Derived.Test.YtdeifjnhbdkkgaaGreatDoorProg
import Derived.Test.YtdeifjnhbdkkgaaGreatDoorBits2
import Derived.Lib.TrailingZeros
import Derived.Laws.BitsAllLaws
import Derived.Test.YtdeifjnhbdkkgaaGreatDoorSame
import Derived.BigQuiet
import Derived.Deep.QuietTactic
namespace Go.Proofs.YtdeifjnhbdkkgaaGreatDoor
open Go.RowKit
set_option maxRecDepth 100000

/-- The library's table lies in the world. -/
def Tab (w : World) : Prop := ∀ k, k < 64 → w.cell? ⟨0, k, none⟩ = some (.int .u8 (Lib.deBruijn64tab.getD k 0 : Nat))

theorem tz_num (x : Nat) (h0 : 0 < x) (hx : x < 18446744073709551616) :
    ∃ p j : Nat, bits .and .u64 (x : Int) (IntKind.u64.wrap (-(x : Int))) = (p : Int) ∧ IntKind.u64.wrap ((p : Int) * 285870213051353865) / 288230376151711744 = (j : Int) ∧ j < 64 ∧ Lib.deBruijn64tab.getD j 0 = Lib.ctz 64 x ∧ Lib.ctz 64 x < 64 := by
  obtain ⟨h1, h2⟩ := Lib.lowest_bit 64 x (by omega) (by simpa using hx)
  have hd := Lib.deBruijn64_at _ h2
  generalize Lib.ctz 64 x = c at *
  refine ⟨2 ^ c, 2 ^ c * 285870213051353865 % 18446744073709551616 / 288230376151711744, ?_, ?_, hd.1, hd.2, h2⟩
  · have e : IntKind.u64.wrap (-(x : Int)) = ((18446744073709551616 - x : Nat) : Int) := by
      rw [show IntKind.u64.wrap (-(x : Int)) = (-(x : Int)) % 18446744073709551616 by simp [IntKind.wrap, IntKind.bits, IntKind.signed]]
      omega
    rw [e, u64_and_nat x _ hx (by omega)]
    have h1' : x &&& (18446744073709551616 - x) = 2 ^ c := h1
    rw [h1']
  · rw [show ∀ y : Int, IntKind.u64.wrap y = y % 18446744073709551616 by intro y; simp [IntKind.wrap, IntKind.bits, IntKind.signed]]
    simp only [Int.natCast_ediv, Int.natCast_emod, Int.natCast_mul]
    rfl

theorem tz_any (x : Nat) (h0 : 0 < x) (hx : x < 18446744073709551616) (w : World) (hT : Tab w) :
    Calls Tryz.prog 50 #[.int .u64 x] w fun e w' => e = .returned (.int .i64 (Lib.ctz 64 x : Nat)) ∧ w = w' := by
  have hne : ((x : Int) == 0) = false := by rw [beq_eq_false_iff_ne]; omega
  obtain ⟨p, j, e1, e2, hj, hc, hc64⟩ := tz_num x h0 hx
  have cj := hT j hj
  rw [hc] at cj
  clear hT hc
  generalize Lib.ctz 64 x = c at *
  go_enter Tryz.func50, Tryz.ntmps50
  go_wp2
  go_ret
  exact ⟨rfl, rfl⟩
end Go.Proofs.YtdeifjnhbdkkgaaGreatDoor
namespace Go.Proofs.YtdeifjnhbdkkgaaGreatDoor
open Go.RowKit
set_option maxRecDepth 100000

theorem bits_next (t : Nat) (h0 : 0 < t) (ht : t < 18446744073709551616) :
    ∃ t' : Nat, bits .and .u64 (t : Int) ((t : Int) - 1) = (t' : Int) ∧ t' < t ∧ t' < 18446744073709551616 ∧ bl t 64 = Lib.ctz 64 t :: bl t' 64 := by
  obtain ⟨m, hm, hc⟩ := Lib.ctzFrom_spec 64 t h0 (by simpa using ht)
  have e : Lib.ctz 64 t = Lib.ctzFrom 64 t := by unfold Lib.ctz; rw [if_neg (by omega)]
  rw [e]
  generalize Lib.ctzFrom 64 t = c at *
  obtain ⟨s1, s2, s3⟩ := strike_low c m
  rw [← hm] at s1 s2 s3
  refine ⟨t &&& (t - 1), ?_, ?_, ?_, bl_step t _ c s1 s2 s3 64 hc⟩
  · rw [show (t : Int) - 1 = ((t - 1 : Nat) : Int) by omega]
    exact u64_and_nat t (t - 1) ht (by omega)
  · have : t &&& (t - 1) ≤ t - 1 := Nat.and_le_right
    omega
  · have : t &&& (t - 1) ≤ t - 1 := Nat.and_le_right
    omega

theorem bitsList_any (s : Nat) (hs : s < 18446744073709551616) (w : World) (hT : Tab w) :
    Calls Tryz.prog 29 #[.int .u64 s] w fun e w' => ∃ v, e = .returned v ∧ Own w' w.heap.size 3 1 v (bl s 64).length (iv (ints (bl s 64))) ∧ Below w.heap.size w w' := by
  obtain ⟨i0, hi0, hz0, hz1, hz2⟩ := info_parts info_int
  have hT' : ∀ wr, Below w.heap.size w wr → Tab wr := fun wr hb k hk => (hb.cell (World.block_lt_of_cell? w _ (hT k hk))).trans (hT k hk)
  have HT := Lib.hid hT'
  clear hT hT'
  have hl := bl_len s 64
  go_enter Tryz.func29, Tryz.ntmps29
  go_wp2
  go_loopw [0, 3] (fun u v wr => ∃ (t : Nat) (d : List Nat), t < 18446744073709551616 ∧ u = .int .u64 t ∧ Own wr w.heap.size 3 1 v d.length (iv (ints d)) ∧ Below w.heap.size w wr ∧ Hid (bl s 64 = d ++ bl t 64)) (fun u _ _ => (intOf u).toNat)
  case atStart => exact ⟨s, [], hs, rfl, Own.none_ _ _ _ _ _, Below.refl _ _, Lib.hid (List.nil_append _).symm⟩
  case round =>
    obtain ⟨t, d, ht, rfl, hown, hbel, hd⟩ := hrel
    by_cases h0 : t = 0
    · subst h0
      have e : bl s 64 = d := by rw [hd.out, bl_zero, List.append_nil]
      have E := Lib.hid e
      clear e hd
      go_wp2
      go_ret
      exact ⟨_, rfl, by rw [E.out]; exact hown, hbel⟩
    · have hne : ((t : Int) != 0) = true := by rw [bne_iff_ne]; omega
      have h1 : 1 ≤ (t : Int) := by omega
      obtain ⟨t', e1, hlt, ht', hbl⟩ := bits_next t (by omega) ht
      have hdl : d.length + 1 ≤ 64 := by
        have := congrArg List.length hd.out
        rw [hbl] at this
        simp at this
        omega
      have D := Lib.hid (show bl s 64 = (d ++ [Lib.ctz 64 t]) ++ bl t' 64 by rw [hd.out, hbl]; simp only [List.append_assoc, List.singleton_append])
      clear hbl hd
      go_wp2_with (first
        | (go_at_call 50; refine (tz_any t (by omega) ht _ (HT.out _ hbel)).mono ?_; rintro e w' ⟨rfl, rfl⟩)
        | (at_builtin; refine wpList_append_gen _ rfl _ _ _ _ rfl w.heap.size 3 i0 _ 1 8 Tryz.underlying50 hi0 hz0 hz1 hz2 rfl _ _ _ rfl (hown.alloc _) _ 1 _ rfl (src_one _ _ Tryz.underlying50 rfl) ?c1 ?c2 ?c3 ?_))
      case c1 => unfold maxLen; omega
      case c2 => omega
      case c3 => have := hbel.size; simp; omega
      intro v' w1 hown' hk1 _
      have hb1 : Below w.heap.size w w1 := (Keep.trans (S := fun k => w.heap.size ≤ k) ((Keep.of_below hbel).alloc _) hk1 (fun x hx ht => (hown.ownB x ht).1)).below (Nat.le_refl _) (fun x hx => by omega)
      clear hk1 hown hbel
      go_wp2
      go_roundw
      case rel => exact ⟨t', d ++ [Lib.ctz 64 t], ht', rfl, by simpa [ints, iv] using hown', hb1, D⟩
      case measure => simp [intOf]; omega

theorem live05_list : ints (bl 21 64) = [0, 2, 4] := by decide +kernel

end Go.Proofs.YtdeifjnhbdkkgaaGreatDoor

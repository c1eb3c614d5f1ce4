/- Contracts of math/bits.TrailingZeros64. -/
import Derived.Test.YtpkeahikfbmcpaaDoorProg
import Derived.Test.YtpkeahikfbmcpaaDoorBits2
import Derived.Lib.TrailingZeros
import Derived.Laws.BitsAllLaws
namespace Go.Proofs.YtpkeahikfbmcpaaDoor
open Go.RowKit
set_option maxRecDepth 100000

/-- The library's table lies in the world. -/
def Tab (w : World) : Prop := ∀ k, k < 64 → w.cell? ⟨0, k, none⟩ = some (.int .u8 (Lib.deBruijn64tab.getD k 0 : Nat))

theorem tz_num (x : Nat) (h0 : 0 < x) (hx : x < 18446744073709551616) :
    ∃ p j : Nat, bits .and .u64 (x : Int) (IntKind.u64.wrap (-(x : Int))) = (p : Int) ∧ IntKind.u64.wrap ((p : Int) * 285870213051353865) / 288230376151711744 = (j : Int) ∧ j < 64 ∧ Lib.deBruijn64tab.getD j 0 = Lib.ctz 64 x ∧ Lib.ctz 64 x < 64 := by
  obtain ⟨h1, h2⟩ := Lib.lowest_bit 64 x (by omega) (by simpa using hx)
  have hd := Lib.deBruijn64_at _ h2
  generalize Lib.ctz 64 x = c at *
  refine ⟨2 ^ c, 2 ^ c * 285870213051353865 % 18446744073709551616 / 288230376151711744, ?_, ?_, hd.1, hd.2, h2⟩
  · have e : IntKind.u64.wrap (-(x : Int)) = ((18446744073709551616 - x : Nat) : Int) := by
      rw [show IntKind.u64.wrap (-(x : Int)) = (-(x : Int)) % 18446744073709551616 by simp [IntKind.wrap, IntKind.bits, IntKind.signed]]
      omega
    rw [e, u64_and_nat x _ hx (by omega)]
    have h1' : x &&& (18446744073709551616 - x) = 2 ^ c := h1
    rw [h1']
  · rw [show ∀ y : Int, IntKind.u64.wrap y = y % 18446744073709551616 by intro y; simp [IntKind.wrap, IntKind.bits, IntKind.signed]]
    simp only [Int.natCast_ediv, Int.natCast_emod, Int.natCast_mul]
    rfl

theorem tz_any (x : Nat) (h0 : 0 < x) (hx : x < 18446744073709551616) (w : World) (hT : Tab w) :
    Calls Tryd.prog 54 #[.int .u64 x] w fun e w' => e = .returned (.int .i64 (Lib.ctz 64 x : Nat)) ∧ w = w' := by
  have hne : ((x : Int) == 0) = false := by rw [beq_eq_false_iff_ne]; omega
  obtain ⟨p, j, e1, e2, hj, hc, hc64⟩ := tz_num x h0 hx
  have cj := hT j hj
  rw [hc] at cj
  clear hT hc
  generalize Lib.ctz 64 x = c at *
  go_enter Tryd.func54, Tryd.ntmps54
  go_wp2
  go_ret
  exact ⟨rfl, rfl⟩
end Go.Proofs.YtpkeahikfbmcpaaDoor

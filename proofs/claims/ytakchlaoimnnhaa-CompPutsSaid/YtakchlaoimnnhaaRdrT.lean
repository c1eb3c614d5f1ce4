/- Contract of (*le.Reader).Text. -/
import Derived.Test.YtakchlaoimnnhaaRdr
import Derived.Test.YtakchlaoimnnhaaLe3
namespace Go.Proofs.Ytakchlaoimnnhaa
open Go.RowKit
set_option maxRecDepth 100000
set_option linter.unusedVariables false

theorem wT2 : wideN 2 = 2 := rfl
theorem rtext_any {w : World} {p : Nat} {F : Nat → Prop} {l : List UInt8} {k : Nat} {bad : Bool} (h : Rdr w p F l k bad) :
    Calls Try.prog 80 #[.pointer (some ⟨p, 0, none⟩)] w fun e w' => e = .returned (.string ⟨(textR l k bad).1.toArray⟩) ∧ RTo w p F l (textR l k bad).2.1 (textR l k bad).2.2 w' := by
  have OK := Lib.hid (rok_any h)
  cases bad with
  | true =>
    have S := Lib.hid (RTo.same h)
    have e : textR l k true = ([], k, true) := rfl
    rw [e]
    go_enter Try.func80, Try.ntmps80
    go_wp2_with fail
    with_reducible refine OK.out.mono ?_
    rintro e w1 ⟨rfl, rfl⟩
    go_wp2
    go_ret
    exact ⟨rfl, S.out⟩
  | false =>
    have NU := Lib.hid (rnum_any h 2)
    obtain ⟨a, ha⟩ : ∃ a, a = numR l k false 2 := ⟨_, rfl⟩
    have hal : a.1 ≤ 1099511627776 := by
      rw [ha]
      unfold numR
      rw [if_neg (by decide)]
      split
      · rename_i hh
        have hk : k + 2 ≤ l.length := by
          unfold getOk at hh
          rw [wT2] at hh
          simp at hh
          omega
        show getZ l k 2 ≤ _
        have h1 := getN_lt (pieceOf l k 2)
        rw [piece_len l k 2 hk] at h1
        have h2 : (256 : Nat) ^ 2 = 65536 := by decide
        rw [h2] at h1
        unfold getZ
        rw [if_pos hh, Int.toNat_natCast, wT2]
        unfold wrap64
        omega
      · show (0 : Int) ≤ _
        omega
    rw [← ha] at NU
    obtain ⟨b, hb⟩ : ∃ b, b = bytesR l a.2.1 a.2.2 a.1 := ⟨_, rfl⟩
    have BY := Lib.hid (fun (W : World) (h1 : Rdr W p F l a.2.1 a.2.2) => rbytes_any h1 a.1 hal)
    rw [← hb] at BY
    have TR : textR l k false = if b.2.2 = true then ([], k, true) else (b.1, b.2.1, false) := by
      rw [hb, ha]; rfl
    have ST := Lib.hid (fun (W : World) A c (F2 : Nat → Prop) (hy : By W F2 (.slice A b.1.length c) b.1) => run_str (P := Try.prog) hy Try.underlying22 Try.underlying5 Try.underlying9)
    rw [TR]
    have hkl : k ≤ l.length := by obtain ⟨_, _, _, _, h, _⟩ := h; exact h
    obtain ⟨vs, h1, _⟩ := id h
    obtain ⟨x0, x1, x2, xf⟩ := cells3 h1
    clear ha hb hal TR h1
    obtain ⟨q, kb, bb⟩ := b
    cases bb with
    | true =>
      rw [if_pos rfl]
      go_enter Try.func80, Try.ntmps80
      go_wp2_with fail
      with_reducible refine OK.out.mono ?_
      rintro e w1 ⟨rfl, rfl⟩
      go_wp2_with fail
      with_reducible refine NU.out.mono ?_
      rintro e w1 ⟨rfl, h1⟩
      have H1 := Lib.hid h1
      clear h1
      go_wp2_with fail
      have B1 := BY.out w1 H1.out.1
      with_reducible refine B1.mono ?_
      rintro e w2 ⟨A, c, rfl, hy, h2⟩
      have RS := ST.out w2 A c _ hy
      have H2 := Lib.hid h2
      clear h2 hy B1
      obtain ⟨vs2, h3, _⟩ := id H2.out.1
      obtain ⟨y0, y1, y2, yf⟩ := cells3 h3
      go_wp2
      go_ret
      have hk2 : Keep (fun b => b = p) w2 (w2.setCell ⟨p, 1, none⟩ (.int .i64 (k : Nat))) := Keep.setCell (S := fun b => b = p) (p := ⟨p, 1, none⟩) (Keep.refl _ _) (.inr rfl) _
      have hr := rdr_set (k' := k) (bad' := true) H2.out.1 hk2 hkl (fun vs hv => by rw [heap_setCell_same w2 p 1 _ _ _ hv]; rfl)
      exact ⟨rfl, hr.1, (H1.out.2.trans H2.out.2 (fun _ _ h => h)).trans hk2 (fun _ _ h => h)⟩
    | false =>
      rw [if_neg (by simp)]
      go_enter Try.func80, Try.ntmps80
      go_wp2_with fail
      with_reducible refine OK.out.mono ?_
      rintro e w1 ⟨rfl, rfl⟩
      go_wp2_with fail
      with_reducible refine NU.out.mono ?_
      rintro e w1 ⟨rfl, h1⟩
      have H1 := Lib.hid h1
      clear h1
      go_wp2_with fail
      have B1 := BY.out w1 H1.out.1
      with_reducible refine B1.mono ?_
      rintro e w2 ⟨A, c, rfl, hy, h2⟩
      have RS := ST.out w2 A c _ hy
      have H2 := Lib.hid h2
      clear h2 hy B1
      obtain ⟨vs2, h3, _⟩ := id H2.out.1
      obtain ⟨y0, y1, y2, yf⟩ := cells3 h3
      go_wp2
      go_ret
      exact ⟨rfl, H2.out.1, H1.out.2.trans H2.out.2 (fun _ _ h => h)⟩
end Go.Proofs.Ytakchlaoimnnhaa

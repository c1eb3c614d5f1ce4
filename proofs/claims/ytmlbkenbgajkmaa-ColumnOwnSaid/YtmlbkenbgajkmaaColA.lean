/- Contracts of vivariumref08.Much, vivariumlaw08.do, column.Load at the page's example, vivariumlaw08.live. -/
import Derived.Test.YtmlbkenbgajkmaaCol9
namespace Go.Proofs.Ytmlbkenbgajkmaa
open Go.RowKit
set_option maxRecDepth 100000
set_option linter.unusedVariables false

/-- A bool, whichever; nothing has changed. -/
def SomeB (w : World) (e : Ending) (w' : World) : Prop := ∃ b, e = .returned (.bool b) ∧ w = w'
theorem cmuch {w : World} {A : Option Addr} {len cap : Nat} {l : List CStp} (hA : ArgSt ccells 3 (cok w) w A len cap l) :
    Calls Try.prog 58 #[.slice A len cap] w (SomeB w) := by
  obtain ⟨hlc, hcm, hrd, hll, hok, _⟩ := hA
  unfold maxLen at hcm
  have HC := Lib.hid (show ∀ k, k < len → ∃ b off A2 n2 c2, A = some ⟨b, off, none⟩ ∧ w.cell? ⟨b, off + k * 3 + 2, none⟩ = some (.slice A2 n2 c2) from fun k hk => by
    obtain ⟨b, off, s, e, _, hs, hc⟩ := flat_cells ccells_len hrd hll (by omega) hk
    obtain ⟨A2, c2, e2, _⟩ := hok s (List.mem_of_getElem? hs)
    exact ⟨b, off, A2, _, c2, e, by rw [hc 2 s.d rfl, e2]⟩)
  clear hrd hll hok
  go_enter Try.func58, Try.ntmps58
  go_wp2
  go_loop [3] (fun i => ∃ k : Nat, k ≤ len ∧ k ≤ 100 ∧ i = .int .i64 k) (fun i => len - (intOf i).toNat)
  case atStart => exact ⟨0, by omega, by omega, rfl⟩
  case round =>
    obtain ⟨k, hk, hk2, rfl⟩ := hrel
    by_cases hlt : k < len
    · by_cases h100 : k < 100
      · obtain ⟨b, off, A2, n2, c2, rfl, hc⟩ := HC.out k hlt
        have f1 : (k : Int) < (len : Int) := by omega
        have f2 : (k : Int) < 100 := by omega
        go_wp2
        · go_ret
          exact ⟨_, rfl, rfl⟩
        · go_round
          case rel => exact ⟨k + 1, by omega, by omega, by go_num⟩
          case measure => simp [intOf]; omega
      · go_wp2
        go_ret
        exact ⟨_, rfl, rfl⟩
    · go_wp2
      go_ret
      exact ⟨_, rfl, rfl⟩

theorem ColTo.from_ {w W1 w' : World} {p : Nat} {Foot : Nat → Prop} {size : Nat} {R : List (List UInt8)} (hW : Keep (fun _ => False) w W1) (h : ColTo W1 p Foot size R w') : ColTo w p Foot size R w' := by
  obtain ⟨F', h1, h2, h3⟩ := h
  refine ⟨F', h1, Keep.trans (S := Foot) (T := Foot) (hW.mono (fun _ _ h => h.elim)) h2 (fun _ _ h => h), fun k hk => ?_⟩
  rcases h3 k hk with h | h
  · exact .inl h
  · exact .inr (Nat.le_trans hW.size h)
def DoPost (w : World) (p : Nat) (Foot : Nat → Prop) (size : Nat) (r : List (List UInt8) × List UInt8 × Int) (e : Ending) (w' : World) : Prop :=
  ∃ u, e = .returned (.tuple #[u, .int .i64 r.2.2]) ∧ By w' (fun b => w.heap.size ≤ b) u r.2.1 ∧ ColTo w p Foot size r.1 w'
theorem col_do {w : World} {p : Nat} {Foot : Nat → Prop} {size : Nat} {R : List (List UInt8)} (h : Col w p Foot size R) (act at_ : Int) (l : List UInt8) (dv : Value) (F : Nat → Prop) (hd : By w F dv l) :
    Calls Try.prog 60 #[.pointer (some ⟨p, 0, none⟩), .agg #[.int .i64 act, .int .i64 at_, dv]] w (DoPost w p Foot size (cgo size R act at_ l)) := by
  have hW : Keep (fun _ => False) w (w.alloc (.cells #[.int .i64 act, .int .i64 at_, dv] 92)) := (by repeat first | exact Keep.refl _ _ | refine Keep.alloc ?_ _ | refine Keep.drew ?_ | refine Keep.drewN ?_ _)
  have h' := col_keep h hW (fun _ _ h => h)
  have hd' := hd.keep hW (fun _ _ _ h => h)
  have hd0 := hd
  obtain ⟨A2, c2, rfl, _, _, _, _⟩ := hd
  have ST := Lib.hid (col_set h' at_ l _ F hd')
  have AD := Lib.hid (col_add h' l _ F hd')
  have DR := Lib.hid (col_drop h' at_)
  have FROM := Lib.hid (fun R' w' => ColTo.from_ (p := p) (Foot := Foot) (size := size) (R := R') (w' := w') hW)
  unfold cgo
  by_cases h1 : act = 1
  · subst h1
    rw [if_pos rfl]
    clear h h' hd' hd0 hW AD DR
    generalize (if setCode size R at_ l = 0 then R.set at_.toNat l else R) = R2 at *
    generalize setCode size R at_ l = z at *
    generalize l.length = m at *
    go_enter Try.func60, Try.ntmps60
    go_wp2_with (first
      | (go_at_call 88; refine ST.out.mono ?_; rintro e w1 ⟨rfl, hc⟩; have HC := Lib.hid hc; clear hc)
      | (go_at_call 36; refine (code_any _ _).mono ?_; rintro e w2 ⟨rfl, rfl⟩))
    go_ret2
    exact ⟨_, rfl, By.nil _ _, FROM.out _ _ HC.out⟩
  rw [if_neg h1]
  have e1 : (act == 1) = false := by rw [beq_eq_false_iff_ne]; exact h1
  by_cases h2 : act = 2
  · subst h2
    rw [if_pos rfl]
    clear ST AD DR
    unfold dropCode
    by_cases ho : at_ < 0 ∨ (R.length : Int) ≤ at_
    · have GT := Lib.hid (col_get_out h' at_ ho)
      simp only [if_pos ho]
      have S := Lib.hid (ColTo.same h')
      clear h h' hd' hd0 hW ho
      generalize l.length = m at *
      go_enter Try.func60, Try.ntmps60
      go_wp2_with (first
        | (go_at_call 34; refine GT.out.mono ?_; rintro e w1 ⟨rfl, rfl⟩)
        | (go_at_call 36; refine (code_any _ _).mono ?_; rintro e w2 ⟨rfl, rfl⟩))
      go_ret2
      exact ⟨_, rfl, By.nil _ _, FROM.out _ _ S.out⟩
    · simp only [if_neg ho]
      obtain ⟨k, rfl⟩ := Int.eq_ofNat_of_zero_le (show 0 ≤ at_ by omega)
      have GT := Lib.hid (col_get h' k (by omega))
      have CK := Lib.hid (fun w2 (hb : Below (w.alloc (.cells #[.int .i64 2, .int .i64 (k : Int), .slice A2 l.length c2] 92)).heap.size (w.alloc (.cells #[.int .i64 2, .int .i64 (k : Int), .slice A2 l.length c2] 92)) w2) => (show ColTo _ p Foot size R w2 from ⟨Foot, col_keep h' (Keep.of_below' hb) (fun _ _ h => h), (Keep.of_below' hb).mono (fun _ _ h => h.elim), fun _ h => .inl h⟩))
      rw [Int.toNat_natCast]
      clear h h' hd' hd0 hW ho
      generalize l.length = m at *
      go_enter Try.func60, Try.ntmps60
      go_wp2_with (first
        | (go_at_call 34; refine GT.out.mono ?_; rintro e w1 ⟨u, rfl, ho, hb⟩; have HO := Lib.hid (And.intro ho hb); clear ho hb)
        | (go_at_call 36; refine (code_any _ _).mono ?_; rintro e w2 ⟨rfl, rfl⟩))
      go_ret2
      exact ⟨_, rfl, (sl_by HO.out.1.sl).mono (fun b _ h => by simp at h; omega), FROM.out _ _ (CK.out _ HO.out.2)⟩
  rw [if_neg h2]
  have e2 : (act == 2) = false := by rw [beq_eq_false_iff_ne]; exact h2
  by_cases h3 : act = 3
  · subst h3
    rw [if_pos rfl]
    clear h h' hd' hd0 hW ST AD
    generalize (if dropCode R at_ = 0 then dropR R at_.toNat else R) = R2 at *
    generalize dropCode R at_ = z at *
    generalize l.length = m at *
    go_enter Try.func60, Try.ntmps60
    go_wp2_with (first
      | (go_at_call 72; refine DR.out.mono ?_; rintro e w1 ⟨rfl, hc⟩; have HC := Lib.hid hc; clear hc)
      | (go_at_call 36; refine (code_any _ _).mono ?_; rintro e w2 ⟨rfl, rfl⟩))
    go_ret2
    exact ⟨_, rfl, By.nil _ _, FROM.out _ _ HC.out⟩
  · rw [if_neg h3]
    have e3 : (act == 3) = false := by rw [beq_eq_false_iff_ne]; exact h3
    clear h h' hd' hd0 hW ST DR
    generalize (if addCode size R l = 0 then R ++ [l] else R) = R2 at *
    generalize addCode size R l = z at *
    generalize l.length = m at *
    go_enter Try.func60, Try.ntmps60
    go_wp2_with (first
      | (go_at_call 33; refine AD.out.mono ?_; rintro e w1 ⟨rfl, hc⟩; have HC := Lib.hid hc; clear hc)
      | (go_at_call 36; refine (code_any _ _).mono ?_; rintro e w2 ⟨rfl, rfl⟩))
    go_ret2
    exact ⟨_, rfl, By.nil _ _, FROM.out _ _ HC.out⟩
end Go.Proofs.Ytmlbkenbgajkmaa

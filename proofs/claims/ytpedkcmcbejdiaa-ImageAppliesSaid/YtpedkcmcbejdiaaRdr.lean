/- le.Reader in memory; contracts of le.Read, OK, Left, Num, Bytes, Text. -/
import Derived.Test.YtpedkcmcbejdiaaLe1
import Derived.Test.YtpedkcmcbejdiaaArgs
import Derived.Test.YtpedkcmcbejdiaaMem
import Derived.Deep.RegionHeld3
import Derived.RegionTactic
import Derived.ChangeAlike
namespace Go.Proofs.Ytpedkcmcbejdiaa
open Go.RowKit
set_option maxRecDepth 100000
set_option linter.unusedVariables false

/-- The reader at block p: its bytes (in blocks of F), its place, whether something was not there. -/
def Rdr (w : World) (p : Nat) (F : Nat → Prop) (l : List UInt8) (k : Nat) (bad : Bool) : Prop :=
  ∃ vs, w.heap[p]? = some (.cells #[vs, .int .i64 (k : Nat), .bool bad] 69 (0, 0)) ∧ By w F vs l ∧ ¬ F p ∧ k ≤ l.length ∧ l.length ≤ 1099511627776
theorem rdr_keep {w w' : World} {p : Nat} {F S : Nat → Prop} {l : List UInt8} {k : Nat} {bad : Bool} (h : Rdr w p F l k bad) (hk : Keep S w w') (hp : ¬ S p) (hF : ∀ b, b < w.heap.size → F b → ¬ S b) : Rdr w' p F l k bad := by
  obtain ⟨vs, h1, h2, h3, h4⟩ := h
  exact ⟨vs, (hk.block p (Array.getElem?_eq_some_iff.1 h1).1 hp).trans h1, h2.keep hk hF, h3, h4⟩

def numR (l : List UInt8) (k : Nat) (bad : Bool) (width : Int) : Int × Nat × Bool := if bad = true then (0, k, true) else if getOk l k width = true then (getZ l k width, k + wideN width, false) else (0, k, true)
def bytesR (l : List UInt8) (k : Nat) (bad : Bool) (n : Int) : List UInt8 × Nat × Bool := if bad = true ∨ n < 0 then ([], k, bad) else if (l.length : Int) - k < n then ([], k, true) else ((l.drop k).take n.toNat, k + n.toNat, false)
def textR (l : List UInt8) (k : Nat) (bad : Bool) : List UInt8 × Nat × Bool := if bad = true then ([], k, true) else
  let a := numR l k false 2
  let b := bytesR l a.2.1 a.2.2 a.1
  if b.2.2 = true then ([], k, true) else (b.1, b.2.1, false)

theorem read_any (l : List UInt8) (v : Value) (G : Nat → Prop) (w : World) (hv : By w G v l) (hn : l.length ≤ 1099511627776) :
    Calls Try.prog 25 #[v] w fun e w' => ∃ p, e = .returned (.pointer (some ⟨p, 0, none⟩)) ∧ Rdr w' p (fun b => w.heap.size ≤ b ∧ b ≠ p) l 0 false ∧ w.heap.size ≤ p ∧ Below w.heap.size w w' := by
  have CL := Lib.hid (clone_any l v G w hv (by omega))
  have FIN := Lib.hid (show ∀ w1 A c, Own w1 w.heap.size 5 1 (.slice A l.length c) l.length (bv l) → Below w.heap.size w w1 → Rdr (w1.alloc (.cells #[.slice A l.length c, .int .i64 0, .bool false] 69)) w1.heap.size (fun b => w.heap.size ≤ b ∧ b ≠ w1.heap.size) l 0 false ∧ Below w.heap.size w (w1.alloc (.cells #[.slice A l.length c, .int .i64 0, .bool false] 69)) from fun w1 A c ho hb =>
    ⟨⟨_, heap_alloc_new w1 _, ((sl_by ho.sl).mono (G := fun b => w.heap.size ≤ b ∧ b ≠ w1.heap.size) (fun b hl h => ⟨h, by omega⟩)).keep ((Keep.refl (fun _ => False) w1).alloc _) (fun _ _ _ h => h), fun h => h.2 rfl, by omega, hn⟩, hb.alloc hb.size _⟩)
  obtain ⟨A, c, rfl, _, _, _, _⟩ := hv
  generalize hm : l.length = m at *
  clear hm hn
  go_enter Try.func25, Try.ntmps25
  go_wp2_with fail
  refine CL.out.mono ?_
  rintro e w1 ⟨u, rfl, ho, hb⟩
  obtain ⟨A1, c1, rfl, _⟩ := ho.form
  have FF := Lib.hid (And.intro (FIN.out w1 A1 c1 ho hb) hb.size)
  clear ho hb FIN
  go_wp2
  go_ret
  exact ⟨_, rfl, FF.out.1.1, FF.out.2, FF.out.1.2⟩

theorem rok_any {w : World} {p : Nat} {F : Nat → Prop} {l : List UInt8} {k : Nat} {bad : Bool} (h : Rdr w p F l k bad) :
    Calls Try.prog 27 #[.pointer (some ⟨p, 0, none⟩)] w fun e w' => e = .returned (.bool (!bad)) ∧ w = w' := by
  obtain ⟨vs, h1, _⟩ := h
  obtain ⟨x0, x1, x2, xf⟩ := cells3 h1
  clear h1
  go_enter Try.func27, Try.ntmps27
  go_wp2
  go_ret
  exact ⟨rfl, rfl⟩
theorem rleft_any {w : World} {p : Nat} {F : Nat → Prop} {l : List UInt8} {k : Nat} {bad : Bool} (h : Rdr w p F l k bad) :
    Calls Try.prog 28 #[.pointer (some ⟨p, 0, none⟩)] w fun e w' => e = .returned (.int .i64 ((l.length : Int) - k)) ∧ w' = w.drew := by
  obtain ⟨vs, h1, h2, _, h4, h5⟩ := h
  obtain ⟨A, c, rfl, _, _, _, _⟩ := h2
  obtain ⟨x0, x1, x2, xf⟩ := cells3 h1
  clear h1
  generalize l.length = n at *
  go_enter Try.func28, Try.ntmps28
  go_wp2
  go_region
  go_wp2
  go_ret
  exact ⟨rfl, rfl⟩

/-- What a reader's call leaves: its place. -/
def RTo (w : World) (p : Nat) (F : Nat → Prop) (l : List UInt8) (k : Nat) (bad : Bool) (w' : World) : Prop := Rdr w' p F l k bad ∧ Keep (fun b => b = p) w w'
theorem RTo.same {w : World} {p : Nat} {F : Nat → Prop} {l : List UInt8} {k : Nat} {bad : Bool} (h : Rdr w p F l k bad) : RTo w p F l k bad w := ⟨h, Keep.refl _ _⟩
theorem rdr_set {w w' : World} {p : Nat} {F : Nat → Prop} {l : List UInt8} {k k' : Nat} {bad bad' : Bool} (h : Rdr w p F l k bad) (hk : Keep (fun b => b = p) w w') (hl : k' ≤ l.length)
    (hb : ∀ vs, w.heap[p]? = some (.cells #[vs, .int .i64 (k : Nat), .bool bad] 69 (0, 0)) → w'.heap[p]? = some (.cells #[vs, .int .i64 (k' : Nat), .bool bad'] 69 (0, 0))) : RTo w p F l k' bad' w' := by
  obtain ⟨vs, h1, h2, h3, _, h5⟩ := h
  exact ⟨⟨vs, hb vs h1, h2.keep hk (fun b _ h e => h3 (by rw [← e]; exact h)), h3, hl, h5⟩, hk⟩

theorem rnum_any {w : World} {p : Nat} {F : Nat → Prop} {l : List UInt8} {k : Nat} {bad : Bool} (h : Rdr w p F l k bad) (width : Int) :
    Calls Try.prog 26 #[.pointer (some ⟨p, 0, none⟩), .int .i64 width] w fun e w' => e = .returned (.int .i64 (numR l k bad width).1) ∧ RTo w p F l (numR l k bad width).2.1 (numR l k bad width).2.2 w' := by
  have OK := Lib.hid (rok_any h)
  have HR := Lib.hid h
  rcases Bool.eq_false_or_eq_true bad with rfl | rfl
  · have S := Lib.hid (RTo.same h)
    rw [show numR l k true width = (0, k, true) from rfl]
    clear h
    go_enter Try.func26, Try.ntmps26
    go_wp2_with (go_at_call 27; refine OK.out.mono ?_; rintro e w1 ⟨rfl, rfl⟩)
    go_ret
    exact ⟨rfl, S.out⟩
  obtain ⟨vs, h1, h2, h3, h4, h5⟩ := h
  have GT := Lib.hid (fun W (hk : Keep (fun _ => False) w W) => get_any l vs F k width W (h2.keep hk (fun _ _ _ h => h)) (by omega) (by omega))
  obtain ⟨A, c, rfl, _, _, _, _⟩ := h2
  obtain ⟨x0, x1, x2, xf⟩ := cells3 h1
  have hw := wideN_in width
  have WD := Lib.hid (wide_any width)
  have hkn : (k : Int) ≤ 1099511627776 := by omega
  by_cases hok : getOk l k width = true
  · have e : numR l k false width = (getZ l k width, k + wideN width, false) := by unfold numR; rw [if_neg (by simp), if_pos hok]
    have hfit : k + wideN width ≤ l.length := by
      unfold getOk at hok
      rw [Bool.and_eq_true, decide_eq_true_iff, decide_eq_true_iff] at hok
      omega
    have FIN := Lib.hid (fun nq => rdr_set (w' := (w.setCell ⟨p, 1, none⟩ (.int .i64 ((k : Int) + (wideN width : Nat)))).drewN nq) (k' := k + wideN width) (bad' := false) HR.out (Keep.drewN (Keep.setCell (S := fun b => b = p) (p := ⟨p, 1, none⟩) (Keep.refl _ _) (.inr rfl) _) nq) hfit (fun vs hv => by
      rw [World.heap_drewN, heap_setCell_same w p 1 _ _ _ hv]; rfl))
    rw [e]
    rw [hok] at GT
    generalize getZ l k width = z at *
    generalize hm : wideN width = m at *
    generalize l.length = n at *
    clear h1 h3 hok e hfit hm
    have ew : IntKind.i64.wrap ((k : Int) + (m : Int)) = (k : Int) + (m : Int) := IntWalk.i64_in _ (by omega)
    clear h5
    go_enter Try.func26, Try.ntmps26
    go_wp2_with (go_at_call 27; refine OK.out.mono ?_; rintro e w1 ⟨rfl, rfl⟩)
    go_region_held3 (fun w' => w'.cell? ⟨p, 0, none⟩ = some (.slice A n c) ∧ w'.cell? ⟨p, 1, none⟩ = some (.int .i64 (k : Int))) (go_keep) ((go_at_call 41; refine (GT.out _ (by exact (by repeat first | exact Keep.refl _ _ | refine Keep.alloc ?_ _ | refine Keep.drew ?_ | refine Keep.drewN ?_ _))).mono ?_; rintro e w1 ⟨rfl, rfl⟩))
    go_wp2
    go_region_with (go_at_call 42; refine (WD.out _).mono ?_; rintro e w1 ⟨rfl, rfl⟩)
    all_goals
      go_wp2
      go_ret
      exact ⟨rfl, FIN.out 2⟩
  · have hok : getOk l k width = false := by simpa using hok
    have e : numR l k false width = (0, k, true) := by unfold numR; rw [if_neg (by simp), if_neg (by rw [hok]; simp)]
    have FIN := Lib.hid (fun nq => rdr_set (w' := (w.drewN nq).setCell ⟨p, 2, none⟩ (.bool true)) (k' := k) (bad' := true) HR.out (Keep.setCell (S := fun b => b = p) (p := ⟨p, 2, none⟩) (Keep.drewN (Keep.refl _ _) nq) (.inr rfl) _) h4 (fun vs hv => by
      rw [heap_setCell_same (w.drewN nq) p 2 _ _ _ hv]; rfl))
    rw [e]
    rw [hok] at GT
    rw [show getZ l k width = 0 by unfold getZ; rw [hok]; rfl] at GT
    generalize l.length = n at *
    clear h1 h3 hok e h5
    go_enter Try.func26, Try.ntmps26
    go_wp2_with (go_at_call 27; refine OK.out.mono ?_; rintro e w1 ⟨rfl, rfl⟩)
    go_region_held3 (fun w' => w'.cell? ⟨p, 0, none⟩ = some (.slice A n c) ∧ w'.cell? ⟨p, 1, none⟩ = some (.int .i64 (k : Int))) (go_keep) ((go_at_call 41; refine (GT.out _ (by exact (by repeat first | exact Keep.refl _ _ | refine Keep.alloc ?_ _ | refine Keep.drew ?_ | refine Keep.drewN ?_ _))).mono ?_; rintro e w1 ⟨rfl, rfl⟩))
    go_wp2
    go_ret
    exact ⟨rfl, FIN.out 1⟩

theorem By.piece {w : World} {F : Nat → Prop} {A A' : Option Addr} {n c c' lo m : Nat} {l : List UInt8} (h : By w F (.slice A n c) l) (hl : lo + m ≤ l.length) (hA : 0 < m → ∀ a, A = some a → A' = some (a.add lo)) (hmc : m ≤ c') (hc : c' ≤ maxLen) (hn : A' = none → c' = 0) :
    By w F (.slice A' m c') ((l.drop lo).take m) := by
  have hlen : ((l.drop lo).take m).length = m := by rw [List.length_take, List.length_drop]; omega
  obtain ⟨A1, c1, hv, _, _, _, hr⟩ := h
  injection hv with e1 e2 e3
  subst e1 e3
  refine ⟨A', c', by rw [hlen], by rw [hlen]; exact hmc, hc, hn, ?_⟩
  have := hr.piece (size := 1) (lo := lo) (hi := lo + m) (by omega) (by omega) (A' := A') (fun b off e hlt => by
    rw [hA (by omega) _ e, Nat.mul_one]
    unfold Addr.add
    simp)
  rw [Nat.mul_one, Nat.mul_one, show lo + m - lo = m by omega] at this
  rw [hlen, Nat.mul_one]
  unfold bv at *
  rw [List.map_take, List.map_drop]
  exact this
theorem rbytes_any {w : World} {p : Nat} {F : Nat → Prop} {l : List UInt8} {k : Nat} {bad : Bool} (h : Rdr w p F l k bad) (n : Int) (hn : n ≤ 1099511627776) :
    Calls Try.prog 29 #[.pointer (some ⟨p, 0, none⟩), .int .i64 n] w fun e w' => ∃ A c, e = .returned (.slice A (bytesR l k bad n).1.length c) ∧ By w' (fun b => w.heap.size ≤ b) (.slice A (bytesR l k bad n).1.length c) (bytesR l k bad n).1 ∧ RTo w p F l (bytesR l k bad n).2.1 (bytesR l k bad n).2.2 w' := by
  have OK := Lib.hid (rok_any h)
  have HR := Lib.hid h
  have S := Lib.hid (RTo.same h)
  by_cases hb : bad = true ∨ n < 0
  · have e : bytesR l k bad n = ([], k, bad) := by unfold bytesR; rw [if_pos hb]
    rw [e]
    clear h
    rcases Bool.eq_false_or_eq_true bad with rfl | rfl
    · clear hb
      go_enter Try.func29, Try.ntmps29
      go_wp2_with (go_at_call 27; refine OK.out.mono ?_; rintro e w1 ⟨rfl, rfl⟩)
      go_ret
      exact ⟨none, 0, rfl, By.nil _ _, S.out⟩
    · have hb : n < 0 := by simpa using hb
      go_enter Try.func29, Try.ntmps29
      go_wp2_with (go_at_call 27; refine OK.out.mono ?_; rintro e w1 ⟨rfl, rfl⟩)
      go_ret
      exact ⟨none, 0, rfl, By.nil _ _, S.out⟩
  have hbf : bad = false := by cases bad <;> simp_all
  subst hbf
  have hn0 : 0 ≤ n := by have : ¬ n < 0 := fun h => hb (.inr h); omega
  have LF := Lib.hid (rleft_any h)
  obtain ⟨vs, h1, h2, h3, h4, h5⟩ := h
  by_cases hl : (l.length : Int) - k < n
  · have e : bytesR l k false n = ([], k, true) := by unfold bytesR; rw [if_neg hb, if_pos hl]
    rw [e]
    have FIN := Lib.hid (fun nq => rdr_set (w' := (w.drewN nq).setCell ⟨p, 2, none⟩ (.bool true)) (k' := k) (bad' := true) HR.out (Keep.setCell (S := fun b => b = p) (p := ⟨p, 2, none⟩) (Keep.drewN (Keep.refl _ _) nq) (.inr rfl) _) h4 (fun vs hv => by
      rw [heap_setCell_same (w.drewN nq) p 2 _ _ _ hv]; rfl))
    obtain ⟨x0, x1, x2, xf⟩ := cells3 h1
    clear h1 h2 h3 e hb
    generalize l.length = m at *
    go_enter Try.func29, Try.ntmps29
    go_wp2_with (first
      | (go_at_call 27; refine OK.out.mono ?_; rintro e w1 ⟨rfl, rfl⟩)
      | (go_at_call 28; refine LF.out.mono ?_; rintro e w1 ⟨rfl, rfl⟩))
    go_ret
    exact ⟨none, 0, rfl, By.nil _ _, FIN.out 1⟩
  · obtain ⟨m, rfl⟩ := Int.eq_ofNat_of_zero_le hn0
    have e : bytesR l k false m = ((l.drop k).take m, k + m, false) := by unfold bytesR; rw [if_neg hb, if_neg hl]; simp
    rw [e]
    have hlen : ((l.drop k).take m).length = m := by rw [List.length_take, List.length_drop]; omega
    have hkm : k + m ≤ l.length := by omega
    have FIN := Lib.hid (fun w1 (hk : Keep (fun _ => False) w w1) => rdr_set (w' := w1.setCell ⟨p, 1, none⟩ (.int .i64 ((k : Int) + (m : Nat)))) (k' := k + m) (bad' := false) HR.out (Keep.setCell (S := fun b => b = p) (p := ⟨p, 1, none⟩) (hk.mono (fun _ _ h => h.elim)) (.inr rfl) _) hkm (fun vs hv => by
      rw [heap_setCell_same w1 p 1 _ _ _ ((hk.block p (Array.getElem?_eq_some_iff.1 hv).1 (fun h => h)).trans hv)]; rfl))
    obtain ⟨x0, x1, x2, xf⟩ := cells3 h1
    have hpl := (Array.getElem?_eq_some_iff.1 h1).1
    have H1 := Lib.hid h1
    have h2' := h2
    obtain ⟨A, c, rfl, hlc, hcm, hAn, _⟩ := h2
    unfold maxLen at hcm
    have CLN := Lib.hid (fun W A' (hk : Keep (fun _ => False) w W) (hA : 0 < m → ∀ a, A = some a → A' = some (a.add k)) (hn : A' = none → m = 0) => clone_any ((l.drop k).take m) (.slice A' m m) F W ((h2'.piece hkm hA (Nat.le_refl m) (by unfold maxLen; omega) hn).keep hk (fun _ _ _ h => h)) (by rw [hlen]; omega))
    rw [hlen] at CLN
    have AN := Lib.hid (show (if m = 0 then A else A.map (fun x => x.add k)) = none → m = 0 from fun hh => by
      by_cases hm : m = 0
      · exact hm
      · rw [if_neg hm] at hh
        rcases A with _ | a
        · have := hAn rfl; omega
        · cases hh)
    have AA := Lib.hid (show 0 < m → ∀ a, A = some a → (if m = 0 then A else A.map (fun x => x.add k)) = some (a.add k) from fun hm a ha => by
      rw [if_neg (by omega), ha]; rfl)
    have HL := Lib.hid hlen
    generalize (l.drop k).take m = q at *
    clear h1 h2' h3 e hb hlen
    have hk40 : (k : Int) + (m : Int) ≤ 1099511627776 := by omega
    generalize l.length = len at *
    have ew : IntKind.i64.wrap ((k : Int) + (m : Int)) = (k : Int) + (m : Int) := IntWalk.i64_in _ (by omega)
    have en : ((k : Int) + (m : Int)).toNat = k + m := by omega
    have g1 : (0 : Int) ≤ (k : Int) := by omega
    have g2 : (k : Int) ≤ (k : Int) + (m : Int) := by omega
    have g3 : (k : Int) + (m : Int) ≤ (c : Int) := by omega
    have g4 : (0 : Int) ≤ (k : Int) + (m : Int) := by omega
    rcases Nat.eq_zero_or_pos m with hm | hm
    · subst hm
      rw [if_pos rfl] at AN AA
      have g5 : (k : Int) ≤ (c : Int) := by omega
      have gz : IntKind.i64.wrap (k : Int) = (k : Int) := IntWalk.i64_in _ (by omega)
      have gz0 : IntKind.i64.wrap ((k : Int) + 0) = (k : Int) := by rw [Int.add_zero]; exact gz
      clear ew en g2 g3 g4
      go_enter Try.func29, Try.ntmps29
      go_wp2_with (first
        | (go_at_call 27; refine OK.out.mono ?_; rintro e w1 ⟨rfl, rfl⟩)
        | (go_at_call 28; refine LF.out.mono ?_; rintro e w1 ⟨rfl, rfl⟩))
      go_region_held3 (fun w' => w'.cell? ⟨p, 0, none⟩ = some (.slice A len c) ∧ w'.cell? ⟨p, 1, none⟩ = some (.int .i64 (k : Int))) (go_keep) ((go_at_call 40; refine (CLN.out _ _ (by exact (by repeat first | exact Keep.refl _ _ | refine Keep.alloc ?_ _ | refine Keep.drew ?_ | refine Keep.drewN ?_ _)) AA.out AN.out).mono ?_; rintro e w1 ⟨u, rfl, ho, hb⟩; obtain ⟨A1, c1, rfl, _⟩ := ho.form; have h1' := (hb.block p hpl).trans H1.out; obtain ⟨y0, y1, y2, yf⟩ := cells3 h1'; have HO := Lib.hid (And.intro (sl_by ho.sl) (show Keep (fun _ => False) w w1 from Keep.trans (T := fun _ => False) (by repeat first | exact Keep.refl _ _ | refine Keep.alloc ?_ _ | refine Keep.drew ?_ | refine Keep.drewN ?_ _) (Keep.of_below' hb) (fun _ _ h => h))); clear ho hb h1'))
      go_wp2
      go_ret
      rw [HL.out]
      exact ⟨A1, c1, rfl, (HO.out.1.keep (Keep.setCell (S := fun b => b = p) (p := ⟨p, 1, none⟩) (Keep.refl _ _) (.inr rfl) _) (fun b _ h e => by simp at h; omega)).mono (fun b _ h => by simpa using h), FIN.out w1 HO.out.2⟩
    · have hm' : ¬ m = 0 := by omega
      rw [if_neg hm'] at AN AA
      go_enter Try.func29, Try.ntmps29
      go_wp2_with (first
        | (go_at_call 27; refine OK.out.mono ?_; rintro e w1 ⟨rfl, rfl⟩)
        | (go_at_call 28; refine LF.out.mono ?_; rintro e w1 ⟨rfl, rfl⟩))
      go_region_held3 (fun w' => w'.cell? ⟨p, 0, none⟩ = some (.slice A len c) ∧ w'.cell? ⟨p, 1, none⟩ = some (.int .i64 (k : Int))) (go_keep) ((go_at_call 40; refine (CLN.out _ _ (by exact (by repeat first | exact Keep.refl _ _ | refine Keep.alloc ?_ _ | refine Keep.drew ?_ | refine Keep.drewN ?_ _)) AA.out AN.out).mono ?_; rintro e w1 ⟨u, rfl, ho, hb⟩; obtain ⟨A1, c1, rfl, _⟩ := ho.form; have h1' := (hb.block p hpl).trans H1.out; obtain ⟨y0, y1, y2, yf⟩ := cells3 h1'; have HO := Lib.hid (And.intro (sl_by ho.sl) (show Keep (fun _ => False) w w1 from Keep.trans (T := fun _ => False) (by repeat first | exact Keep.refl _ _ | refine Keep.alloc ?_ _ | refine Keep.drew ?_ | refine Keep.drewN ?_ _) (Keep.of_below' hb) (fun _ _ h => h))); clear ho hb h1'))
      go_wp2
      go_ret
      rw [HL.out]
      exact ⟨A1, c1, rfl, (HO.out.1.keep (Keep.setCell (S := fun b => b = p) (p := ⟨p, 1, none⟩) (Keep.refl _ _) (.inr rfl) _) (fun b _ h e => by simp at h; omega)).mono (fun b _ h => by simpa using h), FIN.out w1 HO.out.2⟩
end Go.Proofs.Ytpedkcmcbejdiaa

/- Contracts of comp.letter, within, Name and vivariumref07.Name. -/
import Derived.Test.YtdeifjnhbdkkgaaGreatDoorProg
import Derived.Test.YtdeifjnhbdkkgaaGreatDoorLePl
import Derived.Test.YtdeifjnhbdkkgaaGreatDoorLe1
import Derived.Test.YtdeifjnhbdkkgaaGreatDoorMem
import Derived.BigQuiet
import Derived.Deep.QuietTactic
import Derived.Laws.Strings
import Derived.Test.YtdeifjnhbdkkgaaGreatDoorArgs
import Derived.Deep.DeepCutAuto
import Derived.OwnWalk
namespace Go.Proofs.YtdeifjnhbdkkgaaGreatDoor
open Go.RowKit
set_option maxRecDepth 100000
set_option linter.unusedVariables false

theorem letter_any (z : Int) (w : World) : Calls Tryz.prog 70 #[.int .u8 z] w fun e w' => e = .returned (.bool (letterZ z)) ∧ w = w' := by
  by_cases h1 : 97 ≤ z
  · by_cases h2 : z ≤ 122
    · rw [show letterZ z = true from decide_eq_true (by omega)]
      go_enter Tryz.func70, Tryz.ntmps70
      go_wp2
      go_ret
      exact ⟨rfl, rfl⟩
    · rw [show letterZ z = false from decide_eq_false (by omega)]
      have h3 : 48 ≤ z := by omega
      have h4 : ¬ z ≤ 57 := by omega
      have h5 : (z == 95) = false := by simp; omega
      go_enter Tryz.func70, Tryz.ntmps70
      go_wp2
      go_ret
      exact ⟨rfl, rfl⟩
  · by_cases h3 : 48 ≤ z
    · by_cases h4 : z ≤ 57
      · rw [show letterZ z = true from decide_eq_true (by omega)]
        go_enter Tryz.func70, Tryz.ntmps70
        go_wp2
        go_ret
        exact ⟨rfl, rfl⟩
      · by_cases h5 : z = 95
        · subst h5
          go_enter Tryz.func70, Tryz.ntmps70
          go_wp2
          go_ret
          exact ⟨rfl, rfl⟩
        · rw [show letterZ z = false from decide_eq_false (by omega)]
          have h6 : (z == 95) = false := by simp [h5]
          go_enter Tryz.func70, Tryz.ntmps70
          go_wp2
          go_ret
          exact ⟨rfl, rfl⟩
    · rw [show letterZ z = false from decide_eq_false (by omega)]
      have h5 : (z == 95) = false := by simp; omega
      go_enter Tryz.func70, Tryz.ntmps70
      go_wp2
      go_ret
      exact ⟨rfl, rfl⟩
theorem cwithin_any (n lo hi : Int) (w : World) : Calls Tryz.prog 51 #[.int .i64 n, .int .i64 lo, .int .i64 hi] w fun e w' => e = .returned (.bool (decide (lo ≤ n ∧ n ≤ hi))) ∧ w = w' := by
  by_cases h1 : lo ≤ n
  · by_cases h2 : n ≤ hi
    · rw [show decide (lo ≤ n ∧ n ≤ hi) = true from decide_eq_true ⟨h1, h2⟩]
      go_enter Tryz.func51, Tryz.ntmps51
      go_wp2
      go_ret
      exact ⟨rfl, rfl⟩
    · rw [show decide (lo ≤ n ∧ n ≤ hi) = false from decide_eq_false (fun h => h2 h.2)]
      go_enter Tryz.func51, Tryz.ntmps51
      go_wp2
      go_ret
      exact ⟨rfl, rfl⟩
  · rw [show decide (lo ≤ n ∧ n ≤ hi) = false from decide_eq_false (fun h => h1 h.1)]
    go_enter Tryz.func51, Tryz.ntmps51
    go_wp2
    go_ret
    exact ⟨rfl, rfl⟩
theorem run_ch (s : ByteArray) (k : Nat) (hk : k < s.size) (w : World) : (Instr.index 9 (.string s) (.int .i64 (k : Nat))).run Tryz.prog w = .ok (.int .u8 (chZ s k)) w := by
  rw [run_index_string w 9 s .i64 _ Tryz.underlying9, dif_pos ⟨by omega, by omega⟩]
  congr 2
  unfold chZ
  rw [List.getD_eq_getElem?_getD, List.getElem?_eq_getElem (by simpa using hk)]
  rfl
theorem str_eq (a b : ByteArray) : (a.toList == b.toList) = decide (a = b) := by
  rw [ByteArray.toList_eq, ByteArray.toList_eq]
  by_cases h : a = b
  · subst h; simp
  · rw [decide_eq_false h, beq_eq_false_iff_ne]
    intro e
    exact h (by cases a; cases b; simp at e; rw [e])
theorem cname_any (s : ByteArray) (w : World) : Calls Tryz.prog 52 #[.string s] w fun e w' => e = .returned (.bool (nameB s)) ∧ w = w' := by
  by_cases h0 : s.size = 0
  · have e : s = ⟨#[]⟩ := by
      have : s.data = #[] := Array.eq_empty_of_size_eq_zero h0
      cases s; simp_all
    subst e
    go_enter Tryz.func52, Tryz.ntmps52
    go_wp2
    go_ret
    exact ⟨rfl, rfl⟩
  have e0 : s.toList.isEmpty = false := by
    rw [ByteArray.toList_eq]
    have h1 : s.data.toList.length ≠ 0 := by simpa using h0
    cases hq : s.data.toList with
    | nil => rw [hq] at h1; exact absurd rfl h1
    | cons _ _ => rfl
  by_cases h16 : 16 < s.size
  · have H := Lib.hid (show nameB s = false from decide_eq_false (fun h => by omega))
    go_enter Tryz.func52, Tryz.ntmps52
    go_wp2
    go_ret
    exact ⟨ret_bool H.out.symm, rfl⟩
  have h16' : ¬ (16 : Int) < (s.size : Int) := by omega
  go_enter Tryz.func52, Tryz.ntmps52
  go_wp2
  go_loopw [13] (fun i wr => ∃ k : Nat, k ≤ s.size ∧ i = .int .i64 k ∧ wr = w ∧ Hid (lettersTo s k)) (fun i _ => s.size - (intOf i).toNat)
  case atStart => exact ⟨0, by omega, rfl, rfl, Lib.hid (lettersTo_zero s)⟩
  case round =>
    obtain ⟨k, hk, rfl, rfl, ht⟩ := hrel
    by_cases hlt : k < s.size
    · have hi : (k : Int) < (s.size : Int) := by omega
      have RI := run_ch s k hlt
      by_cases hc : letterZ (chZ s k) = true
      · have LT := Lib.hid (lettersTo_next ht.out hc)
        have LA := Lib.hid (letter_any (chZ s k))
        rw [hc] at LA
        clear hc
        go_wp2_with (go_at_call 70; (with_reducible refine (LA.out _).mono ?_); rintro e w1 ⟨rfl, rfl⟩)
        go_roundw
        case rel => exact ⟨k + 1, by omega, by go_num, by first | rfl | trivial, LT⟩
        case measure => simp [intOf]; omega
      · have LA := Lib.hid (letter_any (chZ s k))
        rw [show letterZ (chZ s k) = false by simpa using hc] at LA
        have H := Lib.hid (show nameB s = false from decide_eq_false (fun h => hc (h.2.2 k hlt)))
        clear hc
        go_wp2_with (go_at_call 70; (with_reducible refine (LA.out _).mono ?_); rintro e w1 ⟨rfl, rfl⟩)
        go_ret
        exact ⟨ret_bool H.out.symm, rfl⟩
    · have H := Lib.hid (show nameB s = true from decide_eq_true ⟨by omega, by omega, by rw [show s.size = k by omega]; exact ht.out⟩)
      go_wp2
      go_ret
      exact ⟨ret_bool H.out.symm, rfl⟩
end Go.Proofs.YtdeifjnhbdkkgaaGreatDoor
namespace Go.Proofs.YtdeifjnhbdkkgaaGreatDoor
open Go.ChangeShapes Go.WideShapes Go.ChangeAt Go.RowKit
set_option maxRecDepth 100000
set_option linter.unusedVariables false

def ccells (x : Cp) : List Value := [.string x.nm, .int .i64 x.sz]
theorem ccells_len (x : Cp) : (ccells x).length = 2 := rfl
def confV (c : Cf) (u : Value) : Value := .agg #[.int .i64 c.log, .int .i64 c.pages, .int .i64 c.ents, .int .i64 c.gens, u]
/-- u holds the components l, in blocks of F. -/
def CL (w : World) (F : Nat → Prop) (u : Value) (l : List Cp) : Prop :=
  ∃ A c, u = .slice A l.length c ∧ l.length ≤ c ∧ c ≤ maxLen ∧ Rd w F A (l.length * 2) (l.flatMap ccells) ∧ (A = none → c = 0)
section
variable {w w' : World} {F G S : Nat → Prop} {u : Value} {l : List Cp}
theorem CL.keep (h : CL w F u l) (hk : Keep S w w') (hs : ∀ b, b < w.heap.size → F b → ¬ S b) : CL w' F u l := by
  obtain ⟨A, c, h1, h2, h3, h4, h5⟩ := h
  exact ⟨A, c, h1, h2, h3, h4.keep hk hs, h5⟩
theorem CL.same (h : CL w F u l) (hk : Keep (fun _ => False) w w') : CL w' F u l := h.keep hk (fun _ _ _ h => h)
theorem CL.nil (w : World) (F : Nat → Prop) : CL w F (.slice none 0 0) [] := ⟨none, 0, rfl, Nat.le_refl _, Nat.zero_le _, by exact Rd.nil _ _ _, fun _ => rfl⟩
theorem CL.at_ {A : Option Addr} {n c : Nat} (h : CL w F (.slice A n c) l) {k : Nat} (hk : k < n) : ∃ b off, A = some ⟨b, off, none⟩ ∧ F b ∧ w.cell? ⟨b, off + k * 2, none⟩ = some (.string (nmAt l k)) ∧ w.cell? ⟨b, off + k * 2 + 1, none⟩ = some (.int .i64 (szAt l k)) := by
  obtain ⟨A', c', e, h2, h3, h4, h5⟩ := h
  injection e with e1 e2 e3
  subst e1 e2
  obtain ⟨b, off, x, e, hF, hx, hc⟩ := flat_cells ccells_len h4 rfl (by omega) hk
  refine ⟨b, off, e, hF, ?_, ?_⟩
  · rw [nmAt_of hx]
    exact hc 0 _ rfl
  · rw [szAt_of hx]
    exact hc 1 _ rfl
end
theorem cellsComp : Tryz.prog.cellsOf 97 = 2 := by kernel_rfl
theorem cellsConf : Tryz.prog.cellsOf 42 = 5 := by kernel_rfl
def cpOk (x : Cp) : Prop := x.nm.size ≤ maxLen
theorem argComps {H : Type} {enc : TypeId × Value → H} {w : World} {base : Nat} {spare : Nat → Bool} {held : Bool} {A : Option Addr} {len cap : Nat} {d : DataW H} {p : List MemPlace}
    (h : DataW.Trod enc Tryz.prog w base spare held 40 (.slice A len cap) d p) : ∃ l, ArgSt ccells 2 cpOk w A len cap l := by
  refine argSt ccells_len (by omega) Tryz.underlying40 cellsComp (fun n cs x hl hx => ?_) h
  obtain ⟨y0, y1, m, _, _, h0, h1⟩ := trod_struct2 Tryz.underlying97 hx
  have ci : Tryz.prog.cellsOf 3 = 1 := by kernel_rfl
  have cs1 : Tryz.prog.cellsOf 9 = 1 := by kernel_rfl
  simp only [ci, cs1] at h0 h1
  match cs, hl with
  | [c0, c1], _ =>
    obtain ⟨a0, e0, _, w0⟩ := DataW.trod_string Tryz.underlying9 h0
    obtain ⟨a1, e1, _, w1⟩ := DataW.trod_int Tryz.underlying3 h1
    simp at e0 e1
    subst e0 e1
    exact ⟨⟨a0, a1⟩, rfl, w0⟩
theorem list5 {α : Type} {l : List α} (h : l.length = 5) : ∃ a b c d e, l = [a, b, c, d, e] := by
  match l, h with
  | [a, b, c, d, e], _ => exact ⟨a, b, c, d, e, rfl⟩
def rngF (c : Cf) : Prop := (Lit.int .i64 c.log).wf = true ∧ (Lit.int .i64 c.pages).wf = true ∧ (Lit.int .i64 c.ents).wf = true ∧ (Lit.int .i64 c.gens).wf = true ∧ ∀ x ∈ c.l, cpOk x
theorem argConf {H : Type} {enc : TypeId × Value → H} {w : World} {spare : Nat → Bool} {held : Bool} {v : Value} {r : Reach} {b0 : Nat} {base : Nat} {d : DataW H} {p : List MemPlace} (hv : Value.okWide Tryz.prog w r b0 42 v)
    (h : DataW.Trod enc Tryz.prog w base spare held 42 v d p) : ∃ (y : Cf) (u : Value), v = confV y u ∧ CL w (fun _ => True) u y.l ∧ rngF y := by
  obtain ⟨cs, rfl, hsz⟩ := okWide_struct Tryz.underlying42 hv
  obtain ⟨fuel, hf⟩ := h
  rw [cellsConf] at hsz
  obtain ⟨xs, m, _, _, _, hlen, hf⟩ := DataW.trod_struct Tryz.underlying42 hf
  obtain ⟨c0, c1, c2, c3, c4, hcs⟩ := list5 (l := cs.toList) (by rw [Array.length_toList]; exact hsz)
  have hcs' : (Value.agg cs).cells.toList = [c0, c1, c2, c3, c4] := by simpa [Value.cells] using hcs
  rw [hcs'] at hf
  have ci : Tryz.prog.cellsOf 3 = 1 := by kernel_rfl
  have cl : Tryz.prog.cellsOf 40 = 1 := by kernel_rfl
  obtain ⟨y0, y1, y2, y3, y4, rfl⟩ := list5 hlen
  have h0 : DataW.trod enc Tryz.prog w base spare held m 3 [c0] = some y0 := by simpa [ci] using hf 0 _ rfl
  have h1 : DataW.trod enc Tryz.prog w base spare held m 3 [c1] = some y1 := by simpa [ci] using hf 1 _ rfl
  have h2 : DataW.trod enc Tryz.prog w base spare held m 3 [c2] = some y2 := by simpa [ci] using hf 2 _ rfl
  have h3 : DataW.trod enc Tryz.prog w base spare held m 3 [c3] = some y3 := by simpa [ci] using hf 3 _ rfl
  have h4 : DataW.trod enc Tryz.prog w base spare held m 40 [c4] = some y4 := by simpa [cl] using hf 4 _ rfl
  obtain ⟨a0, e0, _, w0⟩ := DataW.trod_int Tryz.underlying3 h0
  obtain ⟨a1, e1, _, w1⟩ := DataW.trod_int Tryz.underlying3 h1
  obtain ⟨a2, e2, _, w2⟩ := DataW.trod_int Tryz.underlying3 h2
  obtain ⟨a3, e3, _, w3⟩ := DataW.trod_int Tryz.underlying3 h3
  have h5 : ∃ A n k, c4 = .slice A n k := by
    rcases Deep.open_slice Tryz.underlying40 h4 with ⟨hcs, _⟩ | ⟨a, l, c, k, n, D, Pl, hcs, _⟩
    · simp at hcs
      exact ⟨_, _, _, hcs⟩
    · simp at hcs
      exact ⟨_, _, _, hcs⟩
  obtain ⟨A, n, k, rfl⟩ := h5
  obtain ⟨l, g1, g2, g3, rfl, g5, g6⟩ := argComps (A := A) (len := n) (cap := k) (d := y4.1) (p := y4.2) ⟨m, by simpa [Value.cells] using h4⟩
  simp at e0 e1 e2 e3
  subst e0 e1 e2 e3
  refine ⟨⟨a0, a1, a2, a3, l⟩, .slice A l.length k, ?_, ⟨A, k, rfl, g1, g2, g3, g6⟩, w0, w1, w2, w3, g5⟩
  unfold confV
  rw [← hcs]
end Go.Proofs.YtdeifjnhbdkkgaaGreatDoor
namespace Go.Proofs.YtdeifjnhbdkkgaaGreatDoor
open Go.RowKit
set_option maxRecDepth 100000
set_option linter.unusedVariables false

/-- A layout's box has been laid. -/
def BF (w : World) (F : Nat → Prop) (c : Cf) (u : Value) (X : World) : Prop :=
  X.heap[w.heap.size]? = some (.cells #[.int .i64 c.log, .int .i64 c.pages, .int .i64 c.ents, .int .i64 c.gens, u] 42 (0, 0)) ∧ CL X F u c.l ∧ Below w.heap.size w X
theorem BF.first {w : World} {F : Nat → Prop} {c : Cf} {u : Value} (h : CL w F u c.l) : BF w F c u (w.alloc (.cells #[.int .i64 c.log, .int .i64 c.pages, .int .i64 c.ents, .int .i64 c.gens, u] 42 (0, 0))) :=
  ⟨heap_alloc_new w _, h.same ((Keep.refl _ w).alloc _), (Below.refl _ w).alloc (Nat.le_refl _) _⟩
theorem csize_any (c : Cf) (u : Value) (F : Nat → Prop) (z : Int) (w : World) (hu : CL w F u c.l) (hlo : -9223372036854775808 ≤ z) (hhi : z ≤ 9223372036854775807) :
    Calls Tryz.prog 55 #[confV c u, .int .i64 z] w fun e w' => e = .returned (.tuple #[.int .i64 (if 0 ≤ z ∧ z < c.l.length then szAt c.l z.toNat else 0), .bool (decide (0 ≤ z ∧ z < c.l.length))]) ∧ Below w.heap.size w w' := by
  by_cases hz : 0 ≤ z ∧ z < c.l.length
  · rw [if_pos hz, decide_eq_true hz]
    obtain ⟨k, rfl⟩ := Int.eq_ofNat_of_zero_le hz.1
    have hk : k < c.l.length := by omega
    rw [Int.toNat_natCast]
    obtain ⟨sz, hsz⟩ : ∃ sz, sz = szAt c.l k := ⟨_, rfl⟩
    rw [← hsz]
    have HS := Lib.hid hsz
    clear hz hlo hhi hsz
    have hu0 := hu
    obtain ⟨A, cap, rfl, hnc, hcm, -⟩ := hu
    obtain ⟨n, hn⟩ : ∃ n, n = c.l.length := ⟨_, rfl⟩
    have HN := Lib.hid hn
    have B0 := Lib.hid (BF.first hu0)
    unfold confV
    rw [← hn] at hnc hu0 B0 ⊢
    clear hn
    obtain ⟨log, pages, ents, gens, l⟩ := c
    simp only at hnc hu0 B0 HN ⊢
    rw [← HN.out] at hk
    go_enter Tryz.func55, Tryz.ntmps55
    go_upto_region 1 with fail
    refine wp_world (S := BF w F ⟨log, pages, ents, gens, l⟩ (.slice A n cap)) B0.out ?_
    intro X hX
    have HX := Lib.hid hX
    clear hX hu0 B0
    obtain ⟨x0, x1, x2, x3, x4, xf⟩ := cells5 HX.out.1
    have hi : (k : Int) < (n : Int) := by omega
    have h0 : (0 : Int) ≤ (k : Int) := by omega
    obtain ⟨b, off, rfl, -, e1, e2⟩ := CL.at_ HX.out.2.1 hk
    rw [← HS.out] at e2
    have HX2 := Lib.hid HX.out.2.2
    clear HX HS
    go_wp2
    go_ret2
    exact ⟨rfl, HX2.out⟩
  · rw [if_neg hz, decide_eq_false hz]
    have hu0 := hu
    obtain ⟨A, cap, rfl, hnc, hcm, -⟩ := hu
    obtain ⟨n, hn⟩ : ∃ n, n = c.l.length := ⟨_, rfl⟩
    have HN := Lib.hid hn
    have B0 := Lib.hid (BF.first hu0)
    unfold confV
    rw [← hn] at hnc hu0 B0 ⊢
    clear hn
    obtain ⟨log, pages, ents, gens, l⟩ := c
    simp only at hnc hu0 B0 HN ⊢
    rw [← HN.out] at hz
    go_enter Tryz.func55, Tryz.ntmps55
    go_upto_region 1 with fail
    refine wp_world (S := BF w F ⟨log, pages, ents, gens, l⟩ (.slice A n cap)) B0.out ?_
    intro X hX
    have HX := Lib.hid hX
    clear hX hu0 B0
    obtain ⟨x0, x1, x2, x3, x4, xf⟩ := cells5 HX.out.1
    by_cases h0 : 0 ≤ z
    · have hi : ¬ z < (n : Int) := fun h => hz ⟨h0, h⟩
      have hi2 : (n : Int) ≤ z := by omega
      clear hz
      go_wp2
      go_ret2
      exact ⟨rfl, HX.out.2.2⟩
    · have hi : z < 0 := by omega
      clear hz
      go_wp2
      go_ret2
      exact ⟨rfl, HX.out.2.2⟩
end Go.Proofs.YtdeifjnhbdkkgaaGreatDoor

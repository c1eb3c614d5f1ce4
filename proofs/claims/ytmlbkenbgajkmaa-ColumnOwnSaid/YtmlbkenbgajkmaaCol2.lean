/- Contracts of column.Add, Get, Bytes. -/
import Derived.Test.YtmlbkenbgajkmaaCol1
namespace Go.Proofs.Ytmlbkenbgajkmaa
open Go.RowKit
set_option maxRecDepth 100000

theorem below_of_drewN {w w' : World} {n : Nat} (h : Below (w.drewN n).heap.size (w.drewN n) w') : Below w.heap.size w w' := ⟨h.os, h.tape, h.output, h.size, h.block⟩
/-- The column behind a call: its own blocks or new ones changed. -/
def ColTo (w : World) (p : Nat) (Foot : Nat → Prop) (size : Nat) (R : List (List UInt8)) (w' : World) : Prop :=
  ∃ Foot', Col w' p Foot' size R ∧ Keep Foot w w' ∧ ∀ k, Foot' k → Foot k ∨ w.heap.size ≤ k
theorem ColTo.same {w : World} {p : Nat} {Foot : Nat → Prop} {size : Nat} {R : List (List UInt8)} (h : Col w p Foot size R) : ColTo w p Foot size R w := ⟨Foot, h, Keep.refl _ _, fun _ h => .inl h⟩
theorem ColTo.drewN {w w' : World} {p : Nat} {Foot : Nat → Prop} {size : Nat} {R : List (List UInt8)} (h : ColTo w p Foot size R w') (n : Nat) : ColTo w p Foot size R (w'.drewN n) := by
  obtain ⟨F', h1, h2, h3⟩ := h
  exact ⟨F', col_keep h1 ((Keep.refl (fun _ => False) w').drewN n) (fun _ _ h => h), h2.drewN n, h3⟩
theorem flatten_snoc (R : List (List UInt8)) (l : List UInt8) : bv R.flatten ++ bv l = bv (R ++ [l]).flatten := by simp [bv]

def addCode (size : Nat) (R : List (List UInt8)) (l : List UInt8) : Int := if l.length ≠ size then 7 else if R.length = 1024 then 9 else 0
theorem col_add {w : World} {p : Nat} {Foot : Nat → Prop} {size : Nat} {R : List (List UInt8)} (h : Col w p Foot size R) (l : List UInt8) (v : Value) (F : Nat → Prop) (hv : By w F v l) :
    Calls Try.prog 33 #[.pointer (some ⟨p, 0, none⟩), v] w fun e w' => e = .returned (.int .i64 (addCode size R l)) ∧ ColTo w p Foot size (if addCode size R l = 0 then R ++ [l] else R) w' := by
  have hv0 := hv
  obtain ⟨A2, c2, rfl, _, _, _, _⟩ := hv
  obtain ⟨vs, hp, hown, hf⟩ := h.ex
  have H := Lib.hid h
  have hsz := h.small
  have hfew := h.few
  have hpl := h.lt p h.at_
  have b0 : w.cell? ⟨p, 0, none⟩ = some vs := by rw [cell_of_row w p 0 _ _ _ hp]; rfl
  have b1 : w.cell? ⟨p, 1, none⟩ = some (.int .i64 (R.length : Nat)) := by rw [cell_of_row w p 1 _ _ _ hp]; rfl
  have b2 : w.cell? ⟨p, 2, none⟩ = some (.int .i64 (size : Nat)) := by rw [cell_of_row w p 2 _ _ _ hp]; rfl
  unfold addCode
  by_cases h7 : l.length ≠ size
  · rw [if_pos h7, if_neg (by omega)]
    have S := Lib.hid (ColTo.same h)
    have hne : ((l.length : Int) != (size : Int)) = true := by rw [bne_iff_ne]; omega
    clear hown hf hp hv0 h
    generalize l.length = m at *
    generalize R.length = n at *
    go_enter Try.func33, Try.ntmps33
    go_wp2
    go_ret
    exact ⟨rfl, S.out⟩
  rw [if_neg h7]
  have h7 : l.length = size := by omega
  by_cases h9 : R.length = 1024
  · rw [if_pos h9, if_neg (by omega)]
    have S := Lib.hid (ColTo.same h)
    have hne : ((l.length : Int) != (size : Int)) = false := by rw [h7]; simp
    clear hown hf hp hv0 h h7
    generalize l.length = m at *
    rw [h9] at b1
    clear h9 hfew H
    go_enter Try.func33, Try.ntmps33
    go_wp2
    go_ret
    exact ⟨rfl, S.out⟩
  rw [if_neg h9, if_pos rfl]
  obtain ⟨i0, hi0, hz0, hz1, hz2⟩ := info_parts info_byte
  have SR := Lib.hid (show Src Try.prog 1 22 (.slice A2 l.length c2) l.length (bv l) w from hv0.src Try.underlying22)
  have HO := Lib.hid hown
  have HP := Lib.hid hp
  have HF := Lib.hid hf
  have HL := Lib.hid h7
  have hmul : R.length * size ≤ 65536 := Nat.mul_le_mul hfew hsz
  have hne : ((l.length : Int) != (size : Int)) = false := by rw [h7]; simp
  have hne9 : ((R.length : Int) == 1024) = false := by rw [beq_eq_false_iff_ne]; omega
  have hm64 : l.length ≤ 64 := by omega
  obtain ⟨A, c, rfl, _⟩ := hown.form
  clear hown hp hf hv0 h h7
  generalize hm : l.length = m at *
  generalize hn : R.length = n at *
  generalize hq : n * size = q at *
  have HM := Lib.hid (And.intro hm (And.intro hn hq))
  clear hm hn hq
  go_enter Try.func33, Try.ntmps33
  go_wp2_with (at_builtin; refine wpList_append_gen _ rfl (.tmp 26) (.tmp 27) _ _ rfl 0 5 i0 _ 1 1 Try.underlying22 hi0 hz0 hz1 hz2 rfl _ _ _ rfl HO.out _ _ _ rfl SR.out ?c1 ?c2 ?c3 ?_)
  case c1 => unfold maxLen; omega
  case c2 => omega
  case c3 => exact Nat.zero_le _
  intro v' w1 hown' hk1 hob
  obtain ⟨A', c', hv', hr'⟩ := hown'.form
  subst hv'
  clear hr'
  have np := HO.out.ne_cells HP.out (by decide)
  have hp1 : w1.heap[p]? = some (.cells #[.slice A q c, .int .i64 (n : Nat), .int .i64 (size : Nat)] 106 (0, 0)) := (hk1.block p hpl np).trans HP.out
  have d0 : w1.cell? ⟨p, 0, none⟩ = some (.slice A q c) := by rw [cell_of_row w1 p 0 _ _ _ hp1]; rfl
  have d1 : w1.cell? ⟨p, 1, none⟩ = some (.int .i64 (n : Nat)) := by rw [cell_of_row w1 p 1 _ _ _ hp1]; rfl
  have d2 : w1.frozen? ⟨p, 0, none⟩ = false := frozen_of_row w1 p 0 _ _ hp1
  have d3 : w1.frozen? ⟨p, 1, none⟩ = false := frozen_of_row w1 p 1 _ _ hp1
  have X := Lib.hid (And.intro hown' (And.intro hk1 (And.intro hob (And.intro np hp1))))
  clear hown' hk1 hob np hp1
  go_wp2
  go_ret
  refine ⟨rfl, ?_⟩
  obtain ⟨hown', hk1, hob, np, hp1⟩ := X.out
  obtain ⟨hm, hn, hq⟩ := HM.out
  have hp2 : (w1.setCell ⟨p, 0, none⟩ (.slice A' (q + m) c')).heap[p]? = some (.cells #[.slice A' (q + m) c', .int .i64 (n : Nat), .int .i64 (size : Nat)] 106 (0, 0)) := by
    rw [heap_setCell_same w1 p 0 _ _ _ hp1]; rfl
  have hp3 : ((w1.setCell ⟨p, 0, none⟩ (.slice A' (q + m) c')).setCell ⟨p, 1, none⟩ (.int .i64 ((n : Int) + 1))).heap[p]? = some (.cells #[.slice A' (q + m) c', .int .i64 ((n : Int) + 1), .int .i64 (size : Nat)] 106 (0, 0)) := by
    rw [heap_setCell_same _ p 1 _ _ _ hp2]; rfl
  have ks : Keep (fun k => k = p) w1 ((w1.setCell ⟨p, 0, none⟩ (.slice A' (q + m) c')).setCell ⟨p, 1, none⟩ (.int .i64 ((n : Int) + 1))) := Keep.setCell (S := fun k => k = p) (Keep.setCell (S := fun k => k = p) (Keep.refl _ w1) (.inr rfl) _) (.inr rfl) _
  have np' : ownB (.slice A' (q + m) c') ≠ some p := hown'.ne_cells hp1 (by decide)
  have ho3 := hown'.keep ks (fun k hk e => np' (by rw [hk, e]))
  have hsz3 := ks.size
  have hkk : Keep Foot w ((w1.setCell ⟨p, 0, none⟩ (.slice A' (q + m) c')).setCell ⟨p, 1, none⟩ (.int .i64 ((n : Int) + 1))) :=
    Keep.trans (T := fun k => k = p) (hk1.mono (T := Foot) (fun k _ hk => HF.out k hk)) ks (fun k _ hk => by rw [hk]; exact H.out.at_)
  have hlen : (R ++ [l]).length = n + 1 := by simp [hn]
  have hmul' : (R ++ [l]).length * size = q + m := by rw [hlen, Nat.succ_mul, hq, HL.out]
  refine ⟨fun k => Foot k ∨ (w.heap.size ≤ k ∧ k < w1.heap.size), ⟨⟨.slice A' (q + m) c', ?_, ?_, ?_⟩, .inl H.out.at_, ?_, ?_, hsz, ?_⟩, hkk, ?_⟩
  · rw [hp3, hlen]; rfl
  · rw [hmul', ← flatten_snoc]; exact ho3
  · intro k hk
    rcases hob k hk with e | e
    · exact .inl (HF.out k e)
    · exact .inr ⟨e, by have := (ho3.ownB k hk).2; simpa using this⟩
  · intro k hk
    rcases hk with hk | hk
    · exact Nat.lt_of_lt_of_le (H.out.lt k hk) hkk.size
    · exact Nat.lt_of_lt_of_le hk.2 hsz3
  · intro r hr
    rcases List.mem_append.1 hr with hr | hr
    · exact H.out.wide r hr
    · simp at hr; subst hr; rw [hm]; exact HL.out
  · rw [hlen]; omega
  · intro k hk
    rcases hk with hk | hk
    · exact .inl hk
    · exact .inr hk.1

theorem col_bytes {w : World} {p : Nat} {Foot : Nat → Prop} {size : Nat} {R : List (List UInt8)} (h : Col w p Foot size R) :
    Calls Try.prog 35 #[.pointer (some ⟨p, 0, none⟩)] w fun e w' => ∃ u, e = .returned u ∧ Own w' w.heap.size 5 1 u R.flatten.length (bv R.flatten) ∧ Below w.heap.size w w' := by
  obtain ⟨vs, hp, hown, hf⟩ := h.ex
  have hl := flatten_len h.wide
  rw [← hl] at hown
  have hb : R.flatten.length ≤ 65536 := by rw [hl]; exact Nat.mul_le_mul h.few h.small
  have b0 : w.cell? ⟨p, 0, none⟩ = some vs := by rw [cell_of_row w p 0 _ _ _ hp]; rfl
  obtain ⟨A, c, rfl, _⟩ := hown.form
  have CL := Lib.hid (clone_any R.flatten _ _ w hown.sl (by omega))
  clear hp hown hf h hl
  generalize R.flatten = fl at *
  go_enter Try.func35, Try.ntmps35
  go_wp2_with fail
  refine CL.out.mono ?_
  rintro e w' ⟨u, rfl, hu, hb'⟩
  go_wp2
  go_ret
  exact ⟨_, rfl, hu, hb'⟩

theorem col_get {w : World} {p : Nat} {Foot : Nat → Prop} {size : Nat} {R : List (List UInt8)} (h : Col w p Foot size R) (k : Nat) (hk : k < R.length) :
    Calls Try.prog 34 #[.pointer (some ⟨p, 0, none⟩), .int .i64 k] w fun e w' => ∃ u, e = .returned (.tuple #[u, .int .i64 0]) ∧ Own w' w.heap.size 5 1 u (R.getD k []).length (bv (R.getD k [])) ∧ Below w.heap.size w w' := by
  have AT := Lib.hid (col_at h (k : Int))
  rw [if_neg (by omega)] at AT
  obtain ⟨A, c, _, _, hrow⟩ := col_row h k hk
  have RO := Lib.hid hrow
  have hr := h.wide (R.getD k []) (by rw [List.getD_eq_getElem?_getD, List.getElem?_eq_getElem hk]; exact List.getElem_mem _)
  have hl : (R.getD k []).length ≤ 64 := by rw [hr]; exact h.small
  clear h hrow hr
  generalize R.getD k [] = l at *
  go_enter Try.func34, Try.ntmps34
  go_wp2_with (go_at_call 73; refine AT.out.mono ?_; rintro e w' ⟨rfl, rfl⟩)
  refine RO.out.mono ?_
  rintro e w' ⟨A', nq, rfl, rfl, hby, _⟩
  have CL := Lib.hid (clone_any l _ _ (w.drewN nq) (hby.drewN nq) (by omega))
  clear hby
  go_wp2_with fail
  refine CL.out.mono ?_
  rintro e w' ⟨u, rfl, hu, hb'⟩
  go_wp2
  go_ret2
  exact ⟨_, rfl, hu, below_of_drewN hb'⟩
theorem col_get_out {w : World} {p : Nat} {Foot : Nat → Prop} {size : Nat} {R : List (List UInt8)} (h : Col w p Foot size R) (i : Int) (hi : i < 0 ∨ (R.length : Int) ≤ i) :
    Calls Try.prog 34 #[.pointer (some ⟨p, 0, none⟩), .int .i64 i] w fun e w' => e = .returned (.tuple #[.slice none 0 0, .int .i64 2]) ∧ w = w' := by
  have AT := Lib.hid (col_at h i)
  rw [if_pos hi] at AT
  clear h
  go_enter Try.func34, Try.ntmps34
  go_wp2_with (go_at_call 73; refine AT.out.mono ?_; rintro e w' ⟨rfl, rfl⟩)
  go_ret2
  exact ⟨rfl, rfl⟩
end Go.Proofs.Ytmlbkenbgajkmaa

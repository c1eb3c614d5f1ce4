/- Contracts of column.Set, Drop. -/
import Derived.Test.YtmlbkenbgajkmaaCol2
import Derived.Test.YtmlbkenbgajkmaaMem2
import Derived.Deep.RegionHeld3
namespace Go.Proofs.Ytmlbkenbgajkmaa
open Go.RowKit
set_option maxRecDepth 100000

theorem size_byte3 : (Try.prog.info? 5).map (·.size) = some 1 := by kernel_rfl

theorem flatten_set {R : List (List UInt8)} {size k : Nat} {l : List UInt8} (h : ∀ r ∈ R, r.length = size) (hk : k < R.length) (hl : l.length = size) :
    (R.set k l).flatten = R.flatten.take (k * size) ++ (l ++ R.flatten.drop (k * size + size)) := by
  induction R generalizing k with
  | nil => simp at hk
  | cons r R ih =>
    have hr := h r List.mem_cons_self
    match k with
    | 0 => simp [List.flatten_cons, ← hr]
    | k + 1 =>
      have e := ih (k := k) (fun x hx => h x (List.mem_cons_of_mem _ hx)) (by simpa using hk)
      have e1 : (k + 1) * size = r.length + k * size := by rw [Nat.succ_mul, hr]; omega
      rw [List.set_cons_succ, List.flatten_cons, e, List.flatten_cons, e1, List.take_append, Nat.add_assoc, List.drop_append]
      simp [List.take_of_length_le (show r.length ≤ r.length + k * size by omega), List.drop_eq_nil_of_le (show r.length ≤ r.length + (k * size + size) by omega)]
theorem take_splice {α : Type} (L cs : List α) (off n : Nat) (h : off + cs.length ≤ n) (hn : n ≤ L.length) : (splice L off cs).take n = (L.take n).take off ++ (cs ++ (L.take n).drop (off + cs.length)) := by
  unfold splice
  have e1 : (L.take off).length = off := by rw [List.length_take]; omega
  rw [List.take_append, e1, List.take_append, List.take_take, List.take_take, List.drop_take, Nat.min_comm n off, List.take_of_length_le (show cs.length ≤ n - off by omega), Nat.sub_sub]
theorem own_laid_at {w w' : World} {base n c g off : Nat} {e : TypeId} {A : Option Addr} {xs cs : List Value} {cur : Array Value} (h : Own w base e 1 (.slice A n c) n xs) (hA : cs ≠ [] → A = some ⟨g, 0, none⟩ ∧ w.heap[g]? = some (.cells cur e (0, 0)))
    (hl : Laid w w' g off cur cs) (hcs : off + cs.length ≤ n) : Own w' base e 1 (.slice A n c) n (xs.take off ++ (cs ++ xs.drop (off + cs.length))) ∧ Keep (fun k => ownB (Value.slice A n c) = some k) w w' := by
  by_cases h0 : cs = []
  · subst h0
    rw [hl.1 rfl]
    exact ⟨by simpa using h, Keep.refl _ _⟩
  · obtain ⟨rfl, hg⟩ := hA h0
    have hpos : 0 < cs.length := List.length_pos_iff.2 h0
    have hb := hl.block hg
    obtain ⟨hlen, A', c', hv, hnc, hcm, hx⟩ := h
    injection hv with h1 h2 h3
    subst h1 h3
    obtain ⟨g', cur', hgg, hbase, hgg', hcs', htk⟩ := hx (by omega)
    injection hgg with hgg
    injection hgg with hgg
    subst hgg
    rw [hg] at hgg'
    injection hgg' with hgg'
    injection hgg' with hcur
    subst hcur
    have hz : cur.toList.length = cur.size := Array.length_toList
    refine ⟨⟨?_, _, c, rfl, hnc, hcm, fun _ => ⟨g, _, rfl, hbase, hb, ?_, ?_⟩⟩, ?_⟩
    · rw [List.length_append, List.length_append, List.length_take, List.length_drop, hlen]; omega
    · rw [List.size_toArray, length_splice _ _ _ (by omega), hz, hcs']
    · rw [List.toList_toArray]
      rw [← htk]
      exact take_splice _ _ off (n * 1) (by omega) (by omega)
    · refine hl.keep.mono fun x _ hx => ?_
      subst hx
      obtain ⟨c', rfl⟩ : ∃ c', c = c' + 1 := ⟨c - 1, by omega⟩
      rfl

/-- Row k laid anew. -/
theorem col_laid {w w' : World} {p : Nat} {Foot : Nat → Prop} {size : Nat} {R : List (List UInt8)} (h : Col w p Foot size R) {A : Option Addr} {c g k : Nat} {cur : Array Value} {l : List UInt8} (hk : k < R.length) (hll : l.length = size)
    (hp : w.heap[p]? = some (.cells #[.slice A (R.length * size) c, .int .i64 (R.length : Nat), .int .i64 (size : Nat)] 106 (0, 0)))
    (hown : Own w 0 5 1 (.slice A (R.length * size) c) (R.length * size) (bv R.flatten)) (hA : 0 < size → A = some ⟨g, 0, none⟩ ∧ w.heap[g]? = some (.cells cur 5 (0, 0)))
    (hl : Laid w w' g (k * size) cur (bv l)) : Col w' p Foot size (R.set k l) ∧ Keep Foot w w' ∧
      w'.heap[p]? = some (.cells #[.slice A (R.length * size) c, .int .i64 (R.length : Nat), .int .i64 (size : Nat)] 106 (0, 0)) ∧
      Own w' 0 5 1 (.slice A (R.length * size) c) (R.length * size) (bv (R.set k l).flatten) := by
  have hb : k * size + size ≤ R.length * size := by rw [← Nat.succ_mul]; exact Nat.mul_le_mul_right _ hk
  have hA' : bv l ≠ [] → A = some ⟨g, 0, none⟩ ∧ w.heap[g]? = some (.cells cur 5 (0, 0)) := fun hne => hA (by
    rcases Nat.eq_zero_or_pos size with h0 | h0
    · have : l = [] := List.eq_nil_of_length_eq_zero (by omega)
      subst this
      exact absurd rfl hne
    · exact h0)
  obtain ⟨ho', hk'⟩ := own_laid_at hown hA' hl (by rw [bv_len, hll]; exact hb)
  have e : (bv R.flatten).take (k * size) ++ (bv l ++ (bv R.flatten).drop (k * size + (bv l).length)) = bv (R.set k l).flatten := by
    rw [flatten_set h.wide hk hll, bv_len, hll]
    simp [bv]
  rw [e] at ho'
  obtain ⟨vs, hp2, hown2, hf⟩ := h.ex
  rw [hp] at hp2
  injection hp2 with hp2
  injection hp2 with hp2
  have hvs : vs = .slice A (R.length * size) c := by
    have := congrArg (fun a : Array Value => a[0]?) hp2
    simpa using this.symm
  subst hvs
  have np := hown.ne_cells hp (by decide)
  have hpp := (hk'.block p (h.lt p h.at_) np).trans hp
  have kf : Keep Foot w w' := hk'.mono (fun k _ e => hf k e)
  have hlen : (R.set k l).length = R.length := List.length_set
  refine ⟨⟨⟨_, by rw [hlen]; exact hpp, by rw [hlen]; exact ho', hf⟩, h.at_, fun k hk => Nat.lt_of_lt_of_le (h.lt k hk) kf.size, fun r hr => ?_, h.small, by rw [hlen]; exact h.few⟩, kf, hpp, ho'⟩
  rcases List.mem_or_eq_of_mem_set hr with hr | hr
  · exact h.wide r hr
  · rw [hr]; exact hll

def setCode (size : Nat) (R : List (List UInt8)) (i : Int) (l : List UInt8) : Int := if i < 0 ∨ (R.length : Int) ≤ i then 2 else if l.length ≠ size then 7 else 0
theorem col_set {w : World} {p : Nat} {Foot : Nat → Prop} {size : Nat} {R : List (List UInt8)} (h : Col w p Foot size R) (i : Int) (l : List UInt8) (v : Value) (F : Nat → Prop) (hv : By w F v l) :
    Calls Try.prog 88 #[.pointer (some ⟨p, 0, none⟩), .int .i64 i, v] w fun e w' => e = .returned (.int .i64 (setCode size R i l)) ∧ ColTo w p Foot size (if setCode size R i l = 0 then R.set i.toNat l else R) w' := by
  have hv0 := hv
  obtain ⟨A2, c2, rfl, _, _, _, _⟩ := hv
  have AT := Lib.hid (col_at h i)
  have S := Lib.hid (ColTo.same h)
  unfold setCode
  by_cases hi : i < 0 ∨ (R.length : Int) ≤ i
  · rw [if_pos hi] at AT ⊢
    rw [if_neg (by omega)]
    clear hi h hv0
    generalize l.length = m at *
    go_enter Try.func88, Try.ntmps88
    go_wp2_with (go_at_call 73; refine AT.out.mono ?_; rintro e w' ⟨rfl, rfl⟩)
    go_ret
    exact ⟨rfl, S.out⟩
  rw [if_neg hi] at AT ⊢
  obtain ⟨k, rfl⟩ := Int.eq_ofNat_of_zero_le (show 0 ≤ i by omega)
  have hk : k < R.length := by omega
  obtain ⟨A, c, hp, hown, hrow⟩ := col_row h k hk
  have b2 : w.cell? ⟨p, 2, none⟩ = some (.int .i64 (size : Nat)) := by rw [cell_of_row w p 2 _ _ _ hp]; rfl
  by_cases h7 : l.length ≠ size
  · rw [if_pos h7, if_neg (by omega)]
    have hne : ((l.length : Int) != (size : Int)) = true := by rw [bne_iff_ne]; omega
    clear hi h hv0 hp hown hrow
    generalize l.length = m at *
    go_enter Try.func88, Try.ntmps88
    go_wp2_with (go_at_call 73; refine AT.out.mono ?_; rintro e w' ⟨rfl, rfl⟩)
    go_ret
    exact ⟨rfl, S.out⟩
  rw [if_neg h7, if_pos rfl]
  have h7 : l.length = size := by omega
  have hne : ((l.length : Int) != (size : Int)) = false := by rw [h7]; simp
  have RO := Lib.hid hrow
  have HX := Lib.hid (And.intro h (And.intro hp (And.intro hown h7)))
  have HV := Lib.hid (show Sl w F 1 (.slice A2 l.length c2) l.length (bv l) from hv0)
  have TK := Lib.hid (show (bv l).take (min l.length size) = bv l by rw [List.take_of_length_le (by rw [bv_len]; omega)])
  clear hi h hv0 hp hown hrow h7
  obtain ⟨m, hm⟩ : ∃ m, l.length = m := ⟨_, rfl⟩
  rw [hm] at hne HX HV TK ⊢
  clear hm
  go_enter Try.func88, Try.ntmps88
  go_wp2_with (go_at_call 73; refine AT.out.mono ?_; rintro e w' ⟨rfl, rfl⟩)
  refine RO.out.mono ?_
  rintro e w' ⟨A', nq, rfl, rfl, hby, hloc⟩
  obtain ⟨h, hp, hown, hms⟩ := HX.out
  have hloc' : ∃ g cur, 0 < size → A = some ⟨g, 0, none⟩ ∧ A' = some ⟨g, k * size, none⟩ ∧ w.heap[g]? = some (.cells cur 5 (0, 0)) ∧ cur.size = c ∧ R.length * size ≤ c := by
    rcases Nat.eq_zero_or_pos size with h0 | h0
    · exact ⟨0, #[], fun h => absurd h (by omega)⟩
    · obtain ⟨g, cur, hh⟩ := hloc h0
      exact ⟨g, cur, fun _ => hh⟩
  obtain ⟨g, cur, hloc2⟩ := hloc'
  have hb : k * size + size ≤ R.length * size := by rw [← Nat.succ_mul]; exact Nat.mul_le_mul_right _ hk
  have LO := Lib.hid (show 0 < size → A' = some ⟨g, k * size, none⟩ ∧ (w.drewN nq).heap[g]? = some (.cells cur 5 (0, 0)) ∧ k * size + size ≤ cur.size from fun hs => ⟨(hloc2 hs).2.1, (hloc2 hs).2.2.1, by obtain ⟨_, _, _, h4, h5⟩ := hloc2 hs; omega⟩)
  have FIN := Lib.hid (show ∀ w', Laid (w.drewN nq) w' g (k * size) cur (bv l) → ColTo w p Foot size (R.set k l) w' from fun w' hl => by
    have hw : ∀ {T : Nat → Prop}, Keep T w (w.drewN nq) := fun {T} => (Keep.refl T w).drewN nq
    have hll : l.length = size := by
      have := HV.out.len
      rw [bv_len, Nat.mul_one] at this
      omega
    obtain ⟨r1, r2, _, _⟩ := col_laid (w := w.drewN nq) (col_keep h (hw (T := fun _ => False)) (fun _ _ h => h)) hk hll hp hown (fun hs => ⟨(hloc2 hs).1, (hloc2 hs).2.2.1⟩) hl
    exact ⟨Foot, r1, (hw (T := Foot)).trans r2 (fun _ _ h => h), fun _ h => .inl h⟩)
  have HV' := Lib.hid (HV.out.drewN nq)
  clear h hp hown hms hloc hloc2 hb hby
  generalize k * size = x at *
  go_wp2_with (refine wpList_copy_gen rfl _ _ _ _ rfl 5 Try.underlying22 size_byte3 A' size size g x cur 5 rfl LO.out F _ m (bv l) rfl HV'.out (bv_one l) ?_)
  intro w' hl
  rw [TK.out] at hl
  have HL := Lib.hid hl
  clear hl
  go_wp2
  go_ret
  rw [Int.toNat_natCast]
  exact ⟨rfl, FIN.out _ HL.out⟩
end Go.Proofs.Ytmlbkenbgajkmaa

/- Contract of column.Drop. -/
import Derived.Test.YtmlbkenbgajkmaaCol3
import Derived.Deep.RegionHeld3
import Derived.StillTailTactics
import Derived.RegionTactic
import Derived.ChangeAlike
import Derived.BigRegion
namespace Go.Proofs.Ytmlbkenbgajkmaa
open Go.RowKit
set_option maxRecDepth 100000

theorem step_copy_gen {P : Program} {w : World} {ops : Array Oper} {o : Oper} {a : Act} {K : Act → World → Prop} {Q : Exit → Act → World → Prop} {E : Prop} (hgd : Region.wanted o (yielded ops a.tmps) = true) (d s : Operand) (dT sT : TypeId)
    (ho : o.op = .call { callee := .builtin .copy, args := #[d, s], argTypes := #[dT, sT] }) (elem : TypeId) (hu : P.underlying dT = some (.slice elem)) (hsz : (P.info? elem).map (·.size) = some 1)
    (A : Option Addr) (dLen dCap g off : Nat) (cur : Array Value) (t : TypeId) (hd : a.eval d = .slice A dLen dCap) (hA : 0 < dLen → A = some ⟨g, off, none⟩ ∧ w.heap[g]? = some (.cells cur t (0, 0)) ∧ off + dLen ≤ cur.size)
    (F : Nat → Prop) (u : Value) (m : Nat) (ys : List Value) (hv : a.eval s = u) (hs : Sl w F 1 u m ys) (h1 : ∀ y ∈ ys, y.oneCell' = true)
    (h : ∀ w', Laid w w' g off cur (ys.take (min m dLen)) → K (a.put o.dst (goInt ((min m dLen : Nat) : Int))) w') :
    if Region.wanted o (yielded ops a.tmps) = true then Oper.wp P o a w K Q else E := by
  rw [if_pos hgd]
  exact wp_copy_gen d s dT sT ho elem hu hsz A dLen dCap g off cur t hd hA F u m ys hv hs h1 h

def dropCode (R : List (List UInt8)) (i : Int) : Int := if i < 0 ∨ (R.length : Int) ≤ i then 2 else 0
def dropR (R : List (List UInt8)) (k : Nat) : List (List UInt8) := (R.set k (R.getD (R.length - 1) [])).take (R.length - 1)

theorem flatten_take {R : List (List UInt8)} {size m : Nat} (h : ∀ r ∈ R, r.length = size) : R.flatten.take (m * size) = (R.take m).flatten := by
  induction R generalizing m with
  | nil => simp
  | cons r R ih =>
    have hr := h r List.mem_cons_self
    match m with
    | 0 => simp
    | m + 1 =>
      rw [List.take_succ_cons, List.flatten_cons, List.flatten_cons, Nat.succ_mul, Nat.add_comm, ← hr, List.take_append, ← ih (fun x hx => h x (List.mem_cons_of_mem _ hx)), hr]
      simp [List.take_of_length_le (show r.length ≤ size + m * size by omega)]

/-- Behind the copy: the last row is let go. -/
theorem col_shrink {w : World} {p : Nat} {Foot : Nat → Prop} {size : Nat} {R : List (List UInt8)} (h : Col w p Foot size R) {A : Option Addr} {c m : Nat} (hm : m + 1 = R.length)
    (hp : w.heap[p]? = some (.cells #[.slice A (R.length * size) c, .int .i64 (R.length : Nat), .int .i64 (size : Nat)] 106 (0, 0)))
    (hown : Own w 0 5 1 (.slice A (R.length * size) c) (R.length * size) (bv R.flatten)) (nq : Nat) :
    Col (((w.setCell ⟨p, 1, none⟩ (.int .i64 (m : Nat))).drewN nq).setCell ⟨p, 0, none⟩ (.slice A (m * size) c)) p Foot size (R.take m) ∧
      Keep Foot w (((w.setCell ⟨p, 1, none⟩ (.int .i64 (m : Nat))).drewN nq).setCell ⟨p, 0, none⟩ (.slice A (m * size) c)) := by
  have hp1 : ((w.setCell ⟨p, 1, none⟩ (.int .i64 (m : Nat))).drewN nq).heap[p]? = some (.cells #[.slice A (R.length * size) c, .int .i64 (m : Nat), .int .i64 (size : Nat)] 106 (0, 0)) := by
    rw [World.heap_drewN, heap_setCell_same w p 1 _ _ _ hp]; rfl
  have hp2 : (((w.setCell ⟨p, 1, none⟩ (.int .i64 (m : Nat))).drewN nq).setCell ⟨p, 0, none⟩ (.slice A (m * size) c)).heap[p]? = some (.cells #[.slice A (m * size) c, .int .i64 (m : Nat), .int .i64 (size : Nat)] 106 (0, 0)) := by
    rw [heap_setCell_same _ p 0 _ _ _ hp1]; rfl
  have ks : Keep (fun k => k = p) w (((w.setCell ⟨p, 1, none⟩ (.int .i64 (m : Nat))).drewN nq).setCell ⟨p, 0, none⟩ (.slice A (m * size) c)) :=
    Keep.setCell (S := fun k => k = p) (Keep.drewN (Keep.setCell (S := fun k => k = p) (Keep.refl _ w) (.inr rfl) _) nq) (.inr rfl) _
  obtain ⟨vs, hp3, _, hf⟩ := h.ex
  rw [hp] at hp3
  injection hp3 with hp3
  injection hp3 with hp3
  have hvs : vs = .slice A (R.length * size) c := by
    have := congrArg (fun a : Array Value => a[0]?) hp3
    simpa using this.symm
  subst hvs
  have np := hown.ne_cells hp (by decide)
  have ho := (hown.keep ks (fun k hk e => np (by rw [hk, e]))).take (k := m * size) (Nat.mul_le_mul_right _ (by omega))
  have hlen : (R.take m).length = m := by rw [List.length_take]; omega
  have e : (bv R.flatten).take (m * size * 1) = bv (R.take m).flatten := by
    rw [Nat.mul_one, ← flatten_take h.wide, bv, bv, List.map_take]
  rw [e] at ho
  refine ⟨⟨⟨_, by rw [hlen]; exact hp2, by rw [hlen]; exact ho, fun k hk => hf k ?_⟩, h.at_, fun k hk => Nat.lt_of_lt_of_le (h.lt k hk) ks.size, fun r hr => h.wide r (List.mem_of_mem_take hr), h.small, by rw [hlen]; have := h.few; omega⟩, ks.mono fun k _ e => by rw [e]; exact h.at_⟩
  rcases A with _ | a
  · rcases c with _ | c <;> simp [ownB] at hk
  · rcases c with _ | c
    · simp [ownB] at hk
    · exact hk

/-- What row k's slice is. -/
def RowIs (w : World) (Foot : Nat → Prop) (size : Nat) (R : List (List UInt8)) (A : Option Addr) (c k : Nat) (A' : Option Addr) : Prop :=
  By w Foot (.slice A' size size) (R.getD k []) ∧ ∃ g cur, 0 < size → A = some ⟨g, 0, none⟩ ∧ A' = some ⟨g, k * size, none⟩ ∧ w.heap[g]? = some (.cells cur 5 (0, 0)) ∧ cur.size = c ∧ R.length * size ≤ c
theorem col_rows {w : World} {p : Nat} {Foot : Nat → Prop} {size : Nat} {R : List (List UInt8)} (h : Col w p Foot size R) (hR : 0 < R.length) :
    ∃ A c, w.heap[p]? = some (.cells #[.slice A (R.length * size) c, .int .i64 (R.length : Nat), .int .i64 (size : Nat)] 106 (0, 0)) ∧ Own w 0 5 1 (.slice A (R.length * size) c) (R.length * size) (bv R.flatten) ∧
      ∀ (z : Int) (nq : Nat), 0 ≤ z → z < R.length → Calls Try.prog 74 #[.pointer (some ⟨p, 0, none⟩), .int .i64 z] (w.drewN nq) fun e w' => ∃ A' nq', e = .returned (.slice A' size size) ∧ w' = w.drewN nq' ∧ RowIs w Foot size R A c z.toNat A' := by
  obtain ⟨A, c, hp, hown, _⟩ := col_row h 0 hR
  refine ⟨A, c, hp, hown, fun z nq h0 h1 => ?_⟩
  obtain ⟨k, rfl⟩ := Int.eq_ofNat_of_zero_le h0
  obtain ⟨A2, c2, hp2, _, hr⟩ := col_row (col_keep h ((Keep.refl (fun _ => False) w).drewN nq) (fun _ _ h => h)) k (by omega)
  have hp2' : w.heap[p]? = _ := hp2
  rw [hp] at hp2'
  injection hp2' with hp3
  injection hp3 with hp3
  have hvs : Value.slice A (R.length * size) c = .slice A2 (R.length * size) c2 := by
    have := congrArg (fun a : Array Value => a[0]?) hp3
    simpa using this
  injection hvs with e1 _ e2
  subst e1 e2
  refine hr.mono ?_
  rintro e w' ⟨A', nq', rfl, rfl, hby, hl⟩
  refine ⟨A', _, rfl, World.drewN_drewN _ _ _, hby, ?_⟩
  rw [Int.toNat_natCast]
  rcases Nat.eq_zero_or_pos size with h0 | h0
  · exact ⟨0, #[], fun h => absurd h (by omega)⟩
  · obtain ⟨g, cur, hh⟩ := hl h0
    exact ⟨g, cur, fun _ => hh⟩

/-- Behind the copy of the last row onto row k. -/
theorem drop_after {w W w' : World} {p : Nat} {Foot : Nat → Prop} {size n k nq g : Nat} {R : List (List UInt8)} {A A1 : Option Addr} {c : Nat} {cur : Array Value}
    (hX : Col w p Foot size R ∧ w.heap[p]? = some (.cells #[.slice A (R.length * size) c, .int .i64 (R.length : Nat), .int .i64 (size : Nat)] 106 (0, 0)) ∧ Own w 0 5 1 (.slice A (R.length * size) c) (R.length * size) (bv R.flatten) ∧ (R.getD (R.length - 1) []).length = size)
    (hW : W = w.drewN nq) (hn : R.length = n) (hk : k < n) (hg : 0 < size → A = some ⟨g, 0, none⟩ ∧ A1 = some ⟨g, k * size, none⟩ ∧ w.heap[g]? = some (.cells cur 5 (0, 0)) ∧ cur.size = c ∧ R.length * size ≤ c)
    (hl : Laid W w' g (k * size) cur ((bv (R.getD (n - 1) [])).take (min size size))) :
    w'.cell? ⟨p, 0, none⟩ = some (.slice A (n * size) c) ∧ w'.cell? ⟨p, 1, none⟩ = some (.int .i64 (n : Int)) ∧ w'.cell? ⟨p, 2, none⟩ = some (.int .i64 (size : Int)) ∧ w'.frozen? ⟨p, 0, none⟩ = false ∧ w'.frozen? ⟨p, 1, none⟩ = false ∧
      Hid (∀ W, W = w'.setCell ⟨p, 1, none⟩ (.int .i64 ((n : Int) - 1)) → W.cell? ⟨p, 0, none⟩ = some (.slice A (n * size) c) ∧ W.cell? ⟨p, 1, none⟩ = some (.int .i64 ((n : Int) - 1)) ∧ W.cell? ⟨p, 2, none⟩ = some (.int .i64 (size : Int)) ∧ W.frozen? ⟨p, 0, none⟩ = false) ∧
      Hid (∀ nq', ColTo w p Foot size (dropR R k) (((w'.setCell ⟨p, 1, none⟩ (.int .i64 ((n : Int) - 1))).drewN nq').setCell ⟨p, 0, none⟩ (.slice A ((n - 1) * size) c))) := by
  obtain ⟨h, hp, hown, hll⟩ := hX
  subst hW
  have hw : ∀ {T : Nat → Prop}, Keep T w (w.drewN nq) := fun {T} => (Keep.refl T w).drewN nq
  subst hn
  rw [Nat.min_self, List.take_of_length_le (by rw [bv_len]; omega)] at hl
  obtain ⟨r1, r2, r3, r4⟩ := col_laid (w := w.drewN nq) (col_keep h (hw (T := fun _ => False)) (fun _ _ h => h)) hk hll hp hown (fun hs => ⟨(hg hs).1, (hg hs).2.2.1⟩) hl
  refine ⟨by rw [cell_of_row w' p 0 _ _ _ r3]; rfl, by rw [cell_of_row w' p 1 _ _ _ r3]; rfl, by rw [cell_of_row w' p 2 _ _ _ r3]; rfl, frozen_of_row w' p 0 _ _ r3, frozen_of_row w' p 1 _ _ r3, ?_, fun nq' => ?_⟩
  · rintro W rfl
    have hb := heap_setCell_same w' p 1 _ _ (.int .i64 ((R.length : Int) - 1)) r3
    exact ⟨by rw [cell_of_row _ p 0 _ _ _ hb]; rfl, by rw [cell_of_row _ p 1 _ _ _ hb]; rfl, by rw [cell_of_row _ p 2 _ _ _ hb]; rfl, frozen_of_row _ p 0 _ _ hb⟩
  have hs : (R.set k (R.getD (R.length - 1) [])).length = R.length := List.length_set
  have := col_shrink (w := w') (m := R.length - 1) r1 (by rw [hs]; omega) (by rw [hs]; exact r3) (by rw [hs]; exact r4) nq'
  rw [show ((R.length : Int) - 1) = ((R.length - 1 : Nat) : Int) by omega]
  exact ⟨Foot, this.1, (hw (T := Foot)).trans (r2.trans this.2 (fun _ _ h => h)) (fun _ _ h => h), fun _ h => .inl h⟩
theorem RowIs.sl {w : World} {Foot : Nat → Prop} {size : Nat} {R : List (List UInt8)} {A : Option Addr} {c k : Nat} {A' : Option Addr} (h : RowIs w Foot size R A c k A') (hl : (R.getD k []).length = size) : Sl w Foot 1 (.slice A' size size) size (bv (R.getD k [])) := by
  have := h.1
  unfold By at this
  rw [hl] at this
  exact this

theorem col_drop {w : World} {p : Nat} {Foot : Nat → Prop} {size : Nat} {R : List (List UInt8)} (h : Col w p Foot size R) (i : Int) :
    Calls Try.prog 72 #[.pointer (some ⟨p, 0, none⟩), .int .i64 i] w fun e w' => e = .returned (.int .i64 (dropCode R i)) ∧ ColTo w p Foot size (if dropCode R i = 0 then dropR R i.toNat else R) w' := by
  have AT := Lib.hid (col_at h i)
  have S := Lib.hid (ColTo.same h)
  unfold dropCode
  by_cases hi : i < 0 ∨ (R.length : Int) ≤ i
  · rw [if_pos hi] at AT ⊢
    rw [if_neg (by omega)]
    clear hi h
    go_enter Try.func72, Try.ntmps72
    go_wp2_with (go_at_call 73; refine AT.out.mono ?_; rintro e w' ⟨rfl, rfl⟩)
    go_ret
    exact ⟨rfl, S.out⟩
  rw [if_neg hi] at AT ⊢
  rw [if_pos rfl]
  obtain ⟨k, rfl⟩ := Int.eq_ofNat_of_zero_le (show 0 ≤ i by omega)
  have hk : k < R.length := by omega
  obtain ⟨A, c, hp, hown, hrows⟩ := col_rows h (by omega)
  have RW := Lib.hid hrows
  have b1 : w.cell? ⟨p, 1, none⟩ = some (.int .i64 (R.length : Nat)) := by rw [cell_of_row w p 1 _ _ _ hp]; rfl
  have hll : (R.getD (R.length - 1) []).length = size := h.wide _ (by rw [List.getD_eq_getElem?_getD, List.getElem?_eq_getElem (by omega)]; exact List.getElem_mem _)
  have hfew := h.few
  have hsmall := h.small
  have hcap : R.length * size ≤ c ∧ c ≤ 9223372036854775807 ∧ (A = none → c = 0) := by
    obtain ⟨_, A', c', hv, hnc, hc, hg⟩ := hown
    injection hv with h1 _ h3
    subst h1 h3
    refine ⟨hnc, hc, fun hA => ?_⟩
    rcases Nat.eq_zero_or_pos c with h0 | h0
    · exact h0
    · obtain ⟨g, _, e, _⟩ := hg h0
      rw [hA] at e
      cases e
  have HX := Lib.hid (And.intro h (And.intro hp (And.intro hown hll)))
  have HB := Lib.hid (show k * size + size ≤ R.length * size by rw [← Nat.succ_mul]; exact Nat.mul_le_mul_right _ hk)
  clear hi h hp hown hrows hll
  obtain ⟨n, hn⟩ : ∃ n, R.length = n := ⟨_, rfl⟩
  rw [hn] at b1 hk hfew RW hcap HB
  have HN := Lib.hid hn
  clear hn
  obtain ⟨hc1, hc2, hc3⟩ := hcap
  have hxx : (n - 1) * size ≤ n * size := Nat.mul_le_mul_right _ (by omega)
  have hmul : ((n : Int) - 1) * (size : Int) = (((n - 1) * size : Nat) : Int) := by rw [show ((n : Int) - 1) = ((n - 1 : Nat) : Int) by omega]; simp
  have hnil := Lib.hid hc3
  have hle : n * size ≤ 65536 := Nat.mul_le_mul hfew hsmall
  have DA := Lib.hid (fun W w' nq g A1 cur => @drop_after w W w' p Foot size n k nq g R A A1 c cur HX.out)
  have HLL : Hid ((R.getD (n - 1) []).length = size) := by have := HX.out.2.2.2; rw [HN.out] at this; exact this
  clear hc3
  generalize hx : (n - 1) * size = x at *
  generalize hy : n * size = y at *
  have HXY := Lib.hid (And.intro hx hy)
  clear hx hy
  have f1 : (0 : Int) ≤ (n : Int) - 1 := by omega
  have f2 : (n : Int) - 1 < n := by omega
  have f3 : (0 : Int) ≤ (k : Int) := by omega
  have f4 : (k : Int) < n := by omega
  have g1 : (0 : Int) ≤ (x : Int) := by omega
  have g2 : (x : Int) ≤ (c : Int) := by omega
  have g3 : (x : Int) ≤ (y : Int) := by omega
  have e1 : IntKind.i64.wrap ((n : Int) - 1) = (n : Int) - 1 := IntWalk.i64_in _ (by omega)
  have e2 : IntKind.i64.wrap (((n : Int) - 1) * (size : Int)) = (x : Int) := by rw [hmul]; exact IntWalk.i64_in _ (by omega)
  clear hmul
  go_enter Try.func72, Try.ntmps72
  go_wp2_with (go_at_call 73; refine AT.out.mono ?_; rintro e w' ⟨rfl, rfl⟩)
  have EK : Hid ((n : Int) - 1 = ((n - 1 : Nat) : Int)) := by show (n : Int) - 1 = ((n - 1 : Nat) : Int); omega
  go_region_held3 (fun w' => w'.cell? ⟨p, 1, none⟩ = some (.int .i64 (n : Int))) (go_keep)
    (first
      | (go_at_call 74; refine (RW.out _ _ (by assumption) (by assumption)).mono ?_; first | (rintro e w' ⟨A1, nq1, rfl, rfl, hrow⟩; rw [Int.toNat_natCast] at hrow; have H1 := Lib.hid hrow; clear hrow) | (rintro e w' ⟨A2, nq2, rfl, rfl, hrow⟩; rw [EK.out, Int.toNat_natCast] at hrow; have H2 := Lib.hid hrow; clear hrow))
      | (obtain ⟨_, g, cur, hloc⟩ := H1.out; refine step_copy_gen (by rfl) _ _ _ _ (by rfl) 5 Try.underlying22 size_byte3 A1 size size g (k * size) cur 5 (by rfl) (fun hs => ⟨(hloc hs).2.1, (hloc hs).2.2.1, by have := HB.out; have := HXY.out.2; have := HN.out; have := (hloc hs).2.2.2; rw [HN.out] at this; omega⟩) Foot _ size (bv (R.getD (n - 1) [])) (by rfl) (H2.out.sl HLL.out) (bv_one _) ?_; intro w' hl; obtain ⟨q0, q1, q2, z0, z1, HC, HF⟩ := DA.out _ w' nq2 g A1 cur rfl HN.out hk hloc hl; clear hl hloc))
  go_wp2
  obtain ⟨s0, s1, s2, s3⟩ := HC.out _ rfl
  clear q0 q1 q2 z0 z1
  rcases A with _ | a
  · obtain rfl : c = 0 := hnil.out rfl
    obtain rfl : y = 0 := by omega
    obtain rfl : x = 0 := by omega
    go_region
    go_wp2
    go_ret
    exact ⟨rfl, (HF.out 0).drewN 1⟩
  · go_region
    go_wp2
    go_ret
    exact ⟨rfl, (HF.out 0).drewN 1⟩
end Go.Proofs.Ytmlbkenbgajkmaa

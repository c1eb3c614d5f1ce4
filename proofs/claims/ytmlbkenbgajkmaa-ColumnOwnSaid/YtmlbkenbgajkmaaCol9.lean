/- Contracts of vivariumref08.Go (all cases), Bytes, Much, vivariumlaw08.do, code. -/
import Derived.Test.YtmlbkenbgajkmaaCol8
namespace Go.Proofs.Ytmlbkenbgajkmaa
open Go.RowKit
set_option maxRecDepth 100000
set_option linter.unusedVariables false

theorem rcol_go {w : World} {F : Nat → Prop} {v dv : Value} {R : List (List UInt8)} {l : List UInt8} (size : Nat) (hv : Bys w F v R) (hd : By w F dv l) (hR : R.length ≤ 1024) (act at_ : Int) :
    Calls Try.prog 61 #[.agg #[.int .i64 (size : Nat), v], .agg #[.int .i64 act, .int .i64 at_, dv]] w (RgoPost w F size (cgo size R act at_ l)) := by
  have hv0 := hv
  obtain ⟨A, c, rfl, hRc, hcm, hat⟩ := hv.form
  have hd0 := hd
  obtain ⟨A2, c2, rfl, _, _, _, _⟩ := hd
  have same : ∀ code : Int, Calls Try.prog 61 (rgArgs size A R.length c act at_ A2 l.length c2) w (fun e w' => e = .returned (.tuple #[.agg #[.int .i64 (size : Nat), .slice A R.length c], .slice none 0 0, .int .i64 code]) ∧ Below w.heap.size w w') →
      Calls Try.prog 61 (rgArgs size A R.length c act at_ A2 l.length c2) w (RgoPost w F size (R, [], code)) := fun code h => h.mono fun e w' ⟨he, hb⟩ => by
    subst he; exact rgo_same hv0 code hb
  show Calls Try.prog 61 (rgArgs size A R.length c act at_ A2 l.length c2) w _
  unfold cgo setCode dropCode addCode
  by_cases h1 : act = 1
  · subst h1
    rw [if_pos rfl]
    by_cases ho : at_ < 0 ∨ (R.length : Int) ≤ at_
    · simp only [if_pos ho]
      rw [if_neg (by omega)]
      exact same 2 (rgo_out size R.length c l.length c2 A A2 1 at_ w (by omega) (by omega))
    · simp only [if_neg ho]
      by_cases h7 : l.length ≠ size
      · simp only [if_pos h7]
        rw [if_neg (by omega)]
        exact same 7 (rgo_size size R.length c l.length c2 A A2 1 at_ w (.inl ⟨rfl, by omega, by omega⟩) h7)
      · simp only [if_neg h7]
        rw [if_pos trivial]
        obtain ⟨k, rfl⟩ := Int.eq_ofNat_of_zero_le (show 0 ≤ at_ by omega)
        obtain rfl : l.length = size := by omega
        exact rgo_set l.length R.length c c2 k A A2 R l F w hv0 hd0 (by omega) hR
  · rw [if_neg h1]
    by_cases h2 : act = 2
    · subst h2
      rw [if_pos rfl]
      by_cases ho : at_ < 0 ∨ (R.length : Int) ≤ at_
      · simp only [if_pos ho]
        exact same 2 (rgo_out size R.length c l.length c2 A A2 2 at_ w (by omega) (by omega))
      · simp only [if_neg ho]
        obtain ⟨k, rfl⟩ := Int.eq_ofNat_of_zero_le (show 0 ≤ at_ by omega)
        obtain ⟨b, off, u, rfl, hc, hb⟩ := hat k (by omega)
        have hb0 := hb
        obtain ⟨A3, c3, rfl, _, _, _, _⟩ := hb
        refine (rgo_get size R.length c l.length c2 b off k _ c3 A2 A3 w (by omega) hc).mono fun e w' ⟨he, hb⟩ => ?_
        subst he
        exact ⟨_, _, rfl, (hv0.below hb).mono (fun _ _ h => .inl h), (hb0.below hb).mono (fun _ _ h => .inl h), hb⟩
    · rw [if_neg h2]
      by_cases h3 : act = 3
      · subst h3
        rw [if_pos rfl]
        by_cases ho : at_ < 0 ∨ (R.length : Int) ≤ at_
        · simp only [if_pos ho]
          rw [if_neg (by omega)]
          exact same 2 (rgo_out size R.length c l.length c2 A A2 3 at_ w (by omega) (by omega))
        · simp only [if_neg ho]
          rw [if_pos trivial]
          obtain ⟨k, rfl⟩ := Int.eq_ofNat_of_zero_le (show 0 ≤ at_ by omega)
          exact rgo_drop size R.length c l.length c2 k A A2 R l F w hv0 hd0 (by omega) hR
      · rw [if_neg h3]
        by_cases h7 : l.length ≠ size
        · simp only [if_pos h7]
          rw [if_neg (by omega)]
          exact same 7 (rgo_size size R.length c l.length c2 A A2 act at_ w (.inr ⟨h1, h2, h3⟩) h7)
        · simp only [if_neg h7]
          obtain rfl : l.length = size := by omega
          by_cases h9 : R.length = 1024
          · simp only [if_pos h9]
            rw [if_neg (by omega)]
            rw [h9] at hv0 ⊢
            exact rgo_full l.length c c2 act at_ A A2 R l F w hv0 hd0 ⟨h1, h2, h3⟩
          · simp only [if_neg h9]
            rw [if_pos trivial]
            exact rgo_add l.length R.length c c2 act at_ A A2 R l F w hv0 hd0 ⟨h1, h2, h3⟩ (by omega)

theorem sl_by {w : World} {F : Nat → Prop} {v : Value} {n : Nat} {l : List UInt8} (h : Sl w F 1 v n (bv l)) : By w F v l := by
  have := h.len
  rw [bv_len, Nat.mul_one] at this
  unfold By
  rw [this]
  exact h
theorem rcol_bytes {w : World} {F : Nat → Prop} {v : Value} {R : List (List UInt8)} (size : Nat) (hv : Bys w F v R) (hw : ∀ r ∈ R, r.length = size) (hs : size ≤ 64) (hR : R.length ≤ 1024) :
    Calls Try.prog 64 #[.agg #[.int .i64 (size : Nat), v]] w fun e w' => ∃ u, e = .returned u ∧ By w' (fun b => w.heap.size ≤ b) u R.flatten ∧ Below w.heap.size w w' := by
  obtain ⟨i0, hi0, hz0, hz1, hz2⟩ := info_parts info_byte
  obtain ⟨A, c, rfl, hRc, hcm, hat⟩ := hv.form
  have HA := Lib.hid hat
  have FT := Lib.hid (show ∀ k, k ≤ R.length → (R.take k).flatten.length = k * size from fun k hk => by rw [flatten_len (fun r hr => hw r (List.mem_of_mem_take hr)), List.length_take, Nat.min_eq_left hk])
  have FS := Lib.hid (show ∀ k, k < R.length → (R.take (k + 1)).flatten = (R.take k).flatten ++ R.getD k [] from fun k hk => by
    rw [List.take_add_one, List.flatten_append, List.getD_eq_getElem?_getD, List.getElem?_eq_getElem hk]; simp)
  have FE := Lib.hid (show (R.take R.length).flatten = R.flatten by rw [List.take_length])
  have FW := Lib.hid (show ∀ k, k < R.length → (R.getD k []).length = size from fun k hk => hw _ (by rw [List.getD_eq_getElem?_getD, List.getElem?_eq_getElem hk]; exact List.getElem_mem _))
  have MB := Lib.hid (show ∀ k, k < R.length → k * size + size ≤ 65536 from fun k hk => by
    have : (k + 1) * size ≤ 1024 * 64 := Nat.mul_le_mul (by omega) hs
    rw [Nat.succ_mul] at this; omega)
  clear hat hw hv
  generalize hn : R.length = n at *
  have HN := Lib.hid hn
  clear hn
  go_enter Try.func64, Try.ntmps64
  go_wp2
  go_loopw [3, 4] (fun v i wr => ∃ k : Nat, k ≤ n ∧ i = .int .i64 k ∧ Own wr w.heap.size 5 1 v (k * size) (bv (R.take k).flatten) ∧ Below w.heap.size w wr ∧ wr.heap[w.heap.size]? = some (.cells #[.int .i64 (size : Nat), .slice A n c] 87 (0, 0))) (fun _ i _ => n - (intOf i).toNat)
  case atStart => exact ⟨0, by omega, rfl, by rw [Nat.zero_mul]; exact Own.none_ _ _ _ _ _, (by repeat first | exact Below.refl _ _ | refine Below.setCell ?_ (by first | omega | (simp; done) | (simp; omega)) _ | refine Below.alloc ?_ (by first | omega | (simp; done) | (simp; omega)) _ | refine Below.drew ?_ | refine below_drewN ?_ _ | assumption), (by repeat (first | exact heap_alloc_at _ _ _ (by first | rfl | simp) | rw [Below.heap_alloc _ _ _ (by first | (simp; done) | (simp; omega))]))⟩
  case round =>
    obtain ⟨k, hk, rfl, hown, hbel, hb0⟩ := hrel
    have x1 : wr.cell? ⟨w.heap.size, 1, none⟩ = some (.slice A n c) := by rw [cell_of_row wr _ 1 _ _ _ hb0]; rfl
    by_cases hlt : k < n
    · obtain ⟨b, off, u, rfl, hc, hby⟩ := HA.out k hlt
      have hby1 := hby.below (hbel.mono (Nat.le_refl _))
      have hcw : wr.cell? ⟨b, off + k, none⟩ = some u := (Keep.of_below' hbel).cell (fun h => h) hc
      have hl := FW.out k hlt
      have hmb := MB.out k hlt
      obtain ⟨A2, c2, rfl, hh⟩ := hby1
      have SR := Lib.hid (By.src (P := Try.prog) ⟨A2, c2, rfl, hh⟩ Try.underlying22)
      rw [hl] at hcw SR
      have NC := Lib.hid (hown.ne_cells hb0 (by decide))
      have HO := Lib.hid hown
      have HB := Lib.hid (And.intro hbel hb0)
      clear hc hby hh hown hl hbel hb0
      have f1 : (k : Int) < (n : Int) := by omega
      generalize hks : k * size = m at *
      have HK := Lib.hid hks
      clear hks
      go_wp2_with (at_builtin; refine wpList_append_gen _ rfl _ _ _ _ rfl w.heap.size 5 i0 _ 1 1 Try.underlying22 hi0 hz0 hz1 hz2 rfl _ _ _ rfl HO.out _ size _ rfl SR.out ?c1 ?c2 ?c3 ?_)
      case c1 => unfold maxLen; omega
      case c2 => omega
      case c3 => exact HB.out.1.size
      intro v' w1 hown' hk1 _
      have NX := Lib.hid (show Own w1 w.heap.size 5 1 v' ((k + 1) * size) (bv (R.take (k + 1)).flatten) ∧ Below w.heap.size w w1 ∧ w1.heap[w.heap.size]? = some (.cells #[.int .i64 (size : Nat), .slice (some ⟨b, off, none⟩) n c] 87 (0, 0)) from
        ⟨by rw [FS.out k hlt, bv_append, Nat.succ_mul, HK.out]; exact hown', append_below0 HB.out.1 HO.out hk1, (hk1.block _ (Array.getElem?_eq_some_iff.1 HB.out.2).1 NC.out).trans HB.out.2⟩)
      clear hown' hk1
      go_wp2
      go_roundw
      case rel => exact ⟨k + 1, by omega, by go_num, NX.out.1, NX.out.2.1, NX.out.2.2⟩
      case measure => simp [intOf]; omega
    · obtain rfl : k = n := by omega
      rw [FE.out] at hown
      have FF := Lib.hid (And.intro (sl_by hown.sl) hbel)
      clear hown hbel hb0
      go_wp2
      go_ret
      exact ⟨_, rfl, FF.out.1, FF.out.2⟩

theorem code_any (z : Int) (w : World) :
    Calls Try.prog 36 #[.int .i64 z] w fun e w' => e = .returned (.int .i64 z) ∧ w = w' := by
  go_enter Try.func36, Try.ntmps36
  go_wp2
  go_ret
  exact ⟨rfl, rfl⟩

/-- A step of a script that came in. -/
structure CStp where
  act : Int
  at_ : Int
  d : Value
  l : List UInt8
instance : Inhabited CStp := ⟨⟨0, 0, undef, []⟩⟩
def ccells (s : CStp) : List Value := [.int .i64 s.act, .int .i64 s.at_, s.d]
theorem ccells_len (s : CStp) : (ccells s).length = 3 := rfl
def cok (w : World) (s : CStp) : Prop := By w (fun _ => True) s.d s.l
theorem cellsCStep : Try.prog.cellsOf 92 = 3 := by kernel_rfl
theorem argCSt {H : Type} {enc : TypeId × Value → H} {w : World} {base : Nat} {spare : Nat → Bool} {held : Bool} {A : Option Addr} {len cap : Nat} {d : DataW H} {p : List MemPlace}
    (h : DataW.Trod enc Try.prog w base spare held 83 (.slice A len cap) d p) : ∃ l, ArgSt ccells 3 (cok w) w A len cap l := by
  refine argSt ccells_len (by omega) Try.underlying83 cellsCStep (fun n cs x hl hx => ?_) h
  obtain ⟨y0, y1, y2, m, _, _, h0, h1, h2⟩ := Deep.trod_struct3 Try.underlying92 hx
  have ci : Try.prog.cellsOf 3 = 1 := by kernel_rfl
  have cb : Try.prog.cellsOf 22 = 1 := by kernel_rfl
  simp only [ci, cb] at h0 h1 h2
  match cs, hl with
  | [c0, c1, c2], _ =>
    obtain ⟨a0, e0, _, w0⟩ := DataW.trod_int Try.underlying3 h0
    obtain ⟨a1, e1, _, w1⟩ := DataW.trod_int Try.underlying3 h1
    obtain ⟨A2, n2, k2, l2, e2, hb, _⟩ := trod_by Try.underlying22 Try.underlying5 (by kernel_rfl) h2
    simp at e0 e1 e2
    subst e0 e1 e2
    exact ⟨⟨a0, a1, _, l2⟩, rfl, hb⟩
end Go.Proofs.Ytmlbkenbgajkmaa

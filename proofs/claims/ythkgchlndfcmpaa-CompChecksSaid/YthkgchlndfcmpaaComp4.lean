/- Contracts of slices.IndexFunc with comp.Find's test, comp.Find. -/
import Derived.Test.YthkgchlndfcmpaaComp3
namespace Go.Proofs.Ythkgchlndfcmpaa
open Go.RowKit
set_option maxRecDepth 100000
set_option linter.unusedVariables false

theorem ftest_any (a nm : ByteArray) (sz : Int) (p : Nat) (w : World) (hp : w.cell? ⟨p, 0, none⟩ = some (.string nm)) :
    Calls Try.prog 73 #[.agg #[.string a, .int .i64 sz], .pointer (some ⟨p, 0, none⟩)] w fun e w' => e = .returned (.bool (decide (a = nm))) ∧ Below w.heap.size w w' := by
  have ST := str_eq a nm
  have hlt := World.block_lt_of_cell? w _ hp
  have h1 : (w.alloc (.cells #[.string a, .int .i64 sz] 92 (0, 0))).cell? ⟨p, 0, none⟩ = some (.string nm) := ((Keep.refl (fun _ => False) w).alloc _).cell (fun h => h) hp
  obtain ⟨x0, x1, xf⟩ := cells2 (heap_alloc_new w (.cells #[.string a, .int .i64 sz] 92 (0, 0)))
  generalize decide (a = nm) = r at *
  go_enter Try.func73, Try.ntmps73
  go_wp2
  go_ret
  exact ⟨by first | rfl | rw [ST], by exact (by repeat first | exact Below.refl _ _ | refine Below.setCell ?_ (by first | omega | (simp; done) | (simp; omega)) _ | refine Below.alloc ?_ (by first | omega | (simp; done) | (simp; omega)) _ | refine Below.drew ?_ | refine below_drewN ?_ _ | assumption)⟩
theorem indexf_any (l : List Cp) (u : Value) (F : Nat → Prop) (nm : ByteArray) (p : Nat) (w : World) (hu : CL w F u l) (h40 : l.length ≤ 1000) (hp : w.cell? ⟨p, 0, none⟩ = some (.string nm)) :
    Calls Try.prog 72 #[u, .func (.func 73) #[] #[.pointer (some ⟨p, 0, none⟩)]] w fun e w' => (findN l nm < l.length ∧ e = .returned (.int .i64 (findN l nm : Nat)) ∨ findN l nm = l.length ∧ e = .returned (.int .i64 (-1))) ∧ Below w.heap.size w w' := by
  have HU := Lib.hid hu
  obtain ⟨A, cap, rfl, hnc, hcm, -⟩ := hu
  obtain ⟨n, hn⟩ : ∃ n, n = l.length := ⟨_, rfl⟩
  have HN := Lib.hid hn
  rw [← hn] at hnc HU h40 ⊢
  have HP := Lib.hid hp
  clear hn hcm hp
  go_enter Try.func72, Try.ntmps72
  go_wp2
  go_loopw [8] (fun i wr => ∃ k : Nat, k ≤ n ∧ i = .int .i64 k ∧ Hid (Keep (fun _ => False) w wr) ∧ Hid (noneTo l nm k)) (fun i _ => n - (intOf i).toNat)
  case atStart => exact ⟨0, by omega, rfl, Lib.hid (Keep.refl _ w), Lib.hid (noneTo_zero l nm)⟩
  case round =>
    obtain ⟨k, hk, rfl, hkw, ht⟩ := hrel
    by_cases hlt : k < n
    · have hi : (k : Int) < (n : Int) := by omega
      obtain ⟨b, off, rfl, -, e1, e2⟩ := CL.at_ (HU.out.same hkw.out) hlt
      have FN : nmAt l k = nm → Hid (findN l nm = k) := fun h => Lib.hid (findN_at (by have := HN.out; omega) ht.out h)
      have NT : nmAt l k ≠ nm → Hid (noneTo l nm (k + 1)) := fun h => Lib.hid (noneTo_next ht.out h)
      have HL := Lib.hid hlt
      generalize nmAt l k = a at *
      generalize szAt l k = sz at *
      by_cases hq : a = nm
      · have TS := Lib.hid (fun W (hk : W.cell? ⟨p, 0, none⟩ = some (.string nm)) => ftest_any a nm sz p W hk)
        rw [decide_eq_true hq] at TS
        have FN := FN hq
        clear hq NT
        go_wp2_with (go_at_call 73; (with_reducible refine (TS.out _ (hkw.out.cell (fun h => h) HP.out)).mono ?_); rintro e w1 ⟨rfl, hb1⟩)
        go_ret
        exact ⟨.inl ⟨by rw [FN.out]; exact HL.out, by rw [FN.out]; rfl⟩, (hkw.out.trans (Keep.of_below' hb1) (fun _ _ h => h)).to_below'⟩
      · have TS := Lib.hid (fun W (hk : W.cell? ⟨p, 0, none⟩ = some (.string nm)) => ftest_any a nm sz p W hk)
        rw [decide_eq_false hq] at TS
        have NT := NT hq
        clear hq FN
        go_wp2_with (go_at_call 73; (with_reducible refine (TS.out _ (hkw.out.cell (fun h => h) HP.out)).mono ?_); rintro e w1 ⟨rfl, hb1⟩)
        go_roundw
        case rel => exact ⟨k + 1, by omega, by go_num, Lib.hid (hkw.out.trans (Keep.of_below' hb1) (fun _ _ h => h)), NT⟩
        case measure => simp [intOf]; omega
    · have FN := Lib.hid (show findN l nm = l.length from findN_no (by have := HN.out; rw [show l.length = k by omega]; exact ht.out))
      have hi : ¬ (k : Int) < (n : Int) := by omega
      go_wp2
      go_ret
      exact ⟨.inr ⟨by rw [FN.out]; exact HN.out.symm, rfl⟩, hkw.out.to_below'⟩
theorem cfind_any (c : Cf) (u : Value) (F : Nat → Prop) (nm : ByteArray) (w : World) (hu : CL w F u c.l) (h40 : c.l.length ≤ 1000) :
    Calls Try.prog 17 #[confV c u, .string nm] w fun e w' => (findN c.l nm < c.l.length ∧ e = .returned (.tuple #[.int .i64 (findN c.l nm : Nat), .bool true]) ∨ findN c.l nm = c.l.length ∧ e = .returned (.tuple #[.int .i64 0, .bool false])) ∧ Below w.heap.size w w' := by
  have hmf : ∀ (fn : Fn) (first cap : Array Value) (w : World), (Instr.makeFunc fn first cap).run Try.prog w = .ok (.func fn first cap) w := fun _ _ _ _ => rfl
  have hu0 := hu
  obtain ⟨A, cap, rfl, hnc, hcm, -⟩ := hu
  obtain ⟨n, hn⟩ : ∃ n, n = c.l.length := ⟨_, rfl⟩
  have B0 := BF.first hu0
  have B1 : BF w F c (.slice A c.l.length cap) ((w.alloc (.cells #[.int .i64 c.log, .int .i64 c.pages, .int .i64 c.ents, .int .i64 c.gens, .slice A c.l.length cap] 24 (0, 0))).alloc (.cells #[.string nm] 9 (0, 0))) ∧ ((w.alloc (.cells #[.int .i64 c.log, .int .i64 c.pages, .int .i64 c.ents, .int .i64 c.gens, .slice A c.l.length cap] 24 (0, 0))).alloc (.cells #[.string nm] 9 (0, 0))).heap[w.heap.size + 1]? = some (.cells #[.string nm] 9 (0, 0)) :=
    ⟨⟨(heap_alloc_old _ _ (by simp)).trans B0.1, B0.2.1.same ((Keep.refl _ _).alloc _), B0.2.2.alloc (by simp) _⟩, heap_alloc_at _ _ _ (by simp)⟩
  have HB := Lib.hid B1
  clear B0 B1
  unfold confV
  rw [← hn] at hnc hu0 HB h40 ⊢
  have HN := Lib.hid hn
  clear hn
  obtain ⟨log, pages, ents, gens, l⟩ := c
  simp only at hnc hu0 HB HN h40 ⊢
  go_enter Try.func17, Try.ntmps17
  go_upto_region 1 with fail
  refine wp_world (S := fun X => BF w F ⟨log, pages, ents, gens, l⟩ (.slice A n cap) X ∧ X.heap[w.heap.size + 1]? = some (.cells #[.string nm] 9 (0, 0))) HB.out ?_
  intro X hX
  have HX := Lib.hid hX
  clear hX hu0 HB
  obtain ⟨x0, x1, x2, x3, x4, xf⟩ := cells5 HX.out.1.1
  obtain ⟨y0, yf⟩ := cells1 HX.out.2
  go_wp2_with fail
  have CU := HX.out.1.2.1
  have IX := indexf_any l _ F nm _ X CU (by have := HN.out; omega) y0
  with_reducible refine IX.mono ?_
  rintro e w1 ⟨h1 | h1, hb1⟩
  · obtain ⟨h1, rfl⟩ := h1
    have h0 : (0 : Int) ≤ (findN l nm : Nat) := by omega
    have H1 := Lib.hid (And.intro h1 hb1)
    clear h1 hb1
    generalize hq : findN l nm = q at *
    have HQ := Lib.hid hq
    clear hq
    go_wp2
    go_ret2
    exact ⟨.inl ⟨by rw [HQ.out, HN.out]; exact H1.out.1, by rw [HQ.out]; first | rfl | (simp; omega)⟩, HX.out.1.2.2.trans (H1.out.2.mono HX.out.1.2.2.size)⟩
  · obtain ⟨h1, rfl⟩ := h1
    have H1 := Lib.hid (And.intro h1 hb1)
    clear h1 hb1
    go_wp2
    go_ret2
    exact ⟨.inr ⟨H1.out.1.trans HN.out.symm, rfl⟩, HX.out.1.2.2.trans (H1.out.2.mono HX.out.1.2.2.size)⟩
end Go.Proofs.Ythkgchlndfcmpaa

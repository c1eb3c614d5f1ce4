/- The walk of vivariumlaw22.FlowKeys; its arguments. -/
import Derived.Test.YtdeifjnhbdkkgaaGreatDoorFw9
import Derived.Test.YtdeifjnhbdkkgaaGreatDoorFw6
import Derived.Test.YtdeifjnhbdkkgaaGreatDoorTabG
import Derived.Test.YtdeifjnhbdkkgaaGreatDoorComp1
import Derived.Test.YtdeifjnhbdkkgaaGreatDoorCompA
namespace Go.Proofs.YtdeifjnhbdkkgaaGreatDoor
open Go.RowKit
open Go.ChangeShapes Go.WideShapes
set_option maxRecDepth 100000
set_option linter.unusedVariables false
set_option linter.unusedSimpArgs false

def Much22 (l : List FwZ) (e : Ending) : Prop := ∃ b : Bool, e = .returned (.bool b) ∧ (b = false → l.length ≤ 40 ∧ ∀ x ∈ l, x.data.length ≤ 2000)
theorem much22 (l : List FwZ) (v : Value) (F : Nat → Prop) (w : World) (h : NS fwN w F v l) :
    Calls Tryz.prog 4 #[v] w fun e w' => Much22 l e ∧ w = w' := by
  have HA := Lib.hid h
  have hlen := h.len
  obtain ⟨A, c, rfl, -, -⟩ := h.form
  clear h
  obtain ⟨n, hn⟩ : ∃ n, l.length = n := ⟨_, rfl⟩
  have HN := Lib.hid hn
  rw [hn] at HA hlen ⊢
  clear hn
  have NXT := Lib.hid (show ∀ k x, l[k]? = some x → x.data.length ≤ 2000 → (∀ y ∈ l.take k, y.data.length ≤ 2000) → ∀ y ∈ l.take (k + 1), y.data.length ≤ 2000 from fun k x h1 h2 h3 y hy => by
    rw [List.take_add_one, h1] at hy
    rcases List.mem_append.1 hy with h | h
    · exact h3 y h
    · have : y = x := by simpa using h
      rw [this]; exact h2)
  go_enter Tryz.func4, Tryz.ntmps4
  go_wp2
  go_loopw [3] (fun i wr => ∃ k : Nat, k ≤ n ∧ i = .int .i64 k ∧ w = wr ∧ Hid (∀ y ∈ l.take k, y.data.length ≤ 2000)) (fun i _ => n - (intOf i).toNat)
  case atStart => exact ⟨0, by omega, rfl, rfl, Lib.hid (fun y hy => by simp at hy)⟩
  case round =>
    obtain ⟨k, hk, rfl, rfl, ht⟩ := hrel
    by_cases hlt : k < n
    · have hi : (k : Int) < (n : Int) := by omega
      by_cases hh : k < 50
      · have hi2 : (k : Int) < 50 := by omega
        have h00 : (0 : Int) ≤ (k : Int) := by omega
        obtain ⟨b, off, x, dv, rfl, -, hx, hin, hc⟩ := NS.at_ HA.out hlt
        have e4 := hc 3 _ rfl
        obtain ⟨A2, c2, rfl, -⟩ := (show By w F dv x.data from hin)
        have NX := Lib.hid (NXT.out k x hx)
        simp only [show fwN.m = 4 from rfl] at e4
        clear hc hx hin
        generalize x.data.length = nd at *
        by_cases h40 : 2000 < nd
        · have t1 : (2000 : Int) < (nd : Int) := by omega
          go_wp2
          go_ret
          exact ⟨⟨true, rfl, (fun h => by cases h)⟩, rfl⟩
        · have t1 : ¬ (2000 : Int) < (nd : Int) := by omega
          have NT := Lib.hid (NX.out (by omega) ht.out)
          go_wp2
          go_roundw
          case rel => exact ⟨k + 1, by omega, by first | rfl | trivial | go_num, by first | rfl | trivial, NT⟩
          case measure => simp [intOf]; omega
      · have hi2 : ¬ (k : Int) < 50 := by omega
        have t4 : (40 : Int) < (n : Int) := by omega
        go_wp2
        go_ret
        exact ⟨⟨true, rfl, (fun h => by cases h)⟩, rfl⟩
    · have hi : ¬ (k : Int) < (n : Int) := by omega
      obtain rfl : k = n := by omega
      have TT := Lib.hid (show ∀ y ∈ l, y.data.length ≤ 2000 from by
        have := ht.out
        rw [List.take_of_length_le (by rw [HN.out]; exact Nat.le_refl _)] at this
        exact this)
      by_cases h60 : 40 < k
      · have t4 : (40 : Int) < (k : Int) := by omega
        go_wp2
        go_ret
        exact ⟨⟨true, rfl, (fun h => by cases h)⟩, rfl⟩
      · have t4 : decide ((40 : Int) < (k : Int)) = false := decide_eq_false (by omega)
        go_wp2
        go_ret
        exact ⟨⟨false, rfl, fun _ => ⟨by rw [HN.out]; omega, TT.out⟩⟩, rfl⟩
section
variable {H : Type} {enc : TypeId × Value → H} {w : World} {base : Nat} {spare : Nat → Bool} {held : Bool} {A : Option Addr} {len cap : Nat} {d : DataW H} {p : List MemPlace}
def kyC (k : KyZ) : List Value := [.int .i64 k.kind, .int .u64 (k.sig : Int), .int .i64 k.comp]
theorem trod_key {n : Nat} {cs : List Value} {x : DataW H × List MemPlace} (hl : cs.length = 3) (h : DataW.trod enc Tryz.prog w base spare held n 24 cs = some x) : ∃ y : KyZ, cs = kyC y ∧ y.sig < 18446744073709551616 := by
  have l3 : ∀ {α : Type} {l : List α}, l.length = 3 → ∃ a b c, l = [a, b, c] := fun {α l} h => by
    match l, h with
    | [a, b, c], _ => exact ⟨a, b, c, rfl⟩
  obtain ⟨c0, c1, c2, rfl⟩ := l3 hl
  have ci : Tryz.prog.cellsOf 3 = 1 := by kernel_rfl
  have cu : Tryz.prog.cellsOf 22 = 1 := by kernel_rfl
  obtain ⟨xs, m, _, _, _, hlen, hf⟩ := DataW.trod_struct Tryz.underlying24 h
  obtain ⟨y0, y1, y2, rfl⟩ := l3 hlen
  have h0 : DataW.trod enc Tryz.prog w base spare held m 3 [c0] = some y0 := by simpa [ci] using hf 0 _ rfl
  have h1 : DataW.trod enc Tryz.prog w base spare held m 22 [c1] = some y1 := by simpa [cu] using hf 1 _ rfl
  have h2 : DataW.trod enc Tryz.prog w base spare held m 3 [c2] = some y2 := by simpa [ci] using hf 2 _ rfl
  obtain ⟨a0, e0, _, w0⟩ := DataW.trod_int Tryz.underlying3 h0
  obtain ⟨a1, e1, _, w1⟩ := DataW.trod_int Tryz.underlying22 h1
  obtain ⟨a2, e2, _, w2⟩ := DataW.trod_int Tryz.underlying3 h2
  simp at e0 e1 e2
  subst e0 e1 e2
  obtain ⟨s, rfl, hs⟩ := wf_u64 w1
  exact ⟨⟨a0, s, a2⟩, rfl, hs⟩
theorem argKey {v : Value} {r : Reach} {b0 : Nat} (hv : Value.okWide Tryz.prog w r b0 24 v)
    (h : DataW.Trod enc Tryz.prog w base spare held 24 v d p) : ∃ y : KyZ, v = kyV y ∧ y.sig < 18446744073709551616 := by
  obtain ⟨cs, rfl, hsz⟩ := okWide_struct Tryz.underlying24 hv
  obtain ⟨fuel, hf⟩ := h
  have cl : Tryz.prog.cellsOf 24 = 3 := by kernel_rfl
  rw [cl] at hsz
  have hcs : (Value.agg cs).cells.toList = cs.toList := by simp [Value.cells]
  rw [hcs] at hf
  obtain ⟨y, e, hr⟩ := trod_key (by rw [Array.length_toList]; exact hsz) hf
  refine ⟨y, ?_, hr⟩
  unfold kyV
  congr 1
  exact Array.toList_inj.1 (by rw [e]; rfl)
theorem trod_fw {n : Nat} {cs : List Value} {x : DataW H × List MemPlace} (hl : cs.length = 4) (h : DataW.trod enc Tryz.prog w base spare held n 36 cs = some x) : ∃ (y : FwZ) (u : Value), cs = fwN.cells (y, u) ∧ By w (fun _ => True) u y.data := by
  have l4 : ∃ a b c d, cs = [a, b, c, d] := by
    match cs, hl with
    | [a, b, c, d], _ => exact ⟨a, b, c, d, rfl⟩
  obtain ⟨c0, c1, c2, c3, rfl⟩ := l4
  have ck : Tryz.prog.cellsOf 24 = 3 := by kernel_rfl
  have cl : Tryz.prog.cellsOf 28 = 1 := by kernel_rfl
  obtain ⟨xs, m, _, _, _, hlen, hf⟩ := DataW.trod_struct Tryz.underlying36 h
  obtain ⟨y0, y1, rfl⟩ := list2_ hlen
  have h0 : DataW.trod enc Tryz.prog w base spare held m 24 [c0, c1, c2] = some y0 := by simpa [ck] using hf 0 _ rfl
  have h1 : DataW.trod enc Tryz.prog w base spare held m 28 [c3] = some y1 := by simpa [cl, ck] using hf 1 _ rfl
  obtain ⟨ky, ek, _⟩ := trod_key rfl h0
  obtain ⟨A2, n2, k2, l2, e1, hb, _⟩ := trod_by Tryz.underlying28 Tryz.underlying5 (by kernel_rfl) h1
  simp [kyC] at ek e1
  obtain ⟨e2, e3, e4⟩ := ek
  subst e1 e2 e3 e4
  exact ⟨⟨ky, l2⟩, _, rfl, hb⟩
theorem argFws (h : DataW.Trod enc Tryz.prog w base spare held 25 (.slice A len cap) d p) : ∃ l, NS fwN w (fun _ => True) (.slice A len cap) l := by
  haveI : Inhabited (FwZ × Value) := ⟨(default, undef)⟩
  have cl : Tryz.prog.cellsOf 36 = 4 := by kernel_rfl
  obtain ⟨l, g1, g2, g3, rfl, g5, g6⟩ := argSt (f := fwN.cells) (ok := fun y => fwN.inn w (fun _ => True) y.1 y.2) fwN.len (by decide) Tryz.underlying25 cl (fun n cs x hl hx => by
    obtain ⟨y, u, e, hb⟩ := trod_fw hl hx
    exact ⟨(y, u), e, hb⟩) h
  refine ⟨l.map Prod.fst, l.map Prod.snd, by simp, ?_, fun i x u hx hu => ?_⟩
  · rw [zip_unzip]; exact ⟨A, cap, rfl, g1, g2, g3, g6⟩
  · have h2 : l[i]? = some (x, u) := by rw [← zip_unzip l]; exact List.getElem?_zip_eq_some.2 ⟨hx, hu⟩
    exact g5 _ (List.mem_of_getElem? h2)
end
set_option maxHeartbeats 4000000 in
theorem flowKeys_walk (a b : KyZ) (l : List FwZ) (v : Value) (W : World) (ha : a.sig < 18446744073709551616) (hb : b.sig < 18446744073709551616) (hv : NS fwN W (fun _ => True) v l) (hT : Tab W) :
    Calls Tryz.prog 3 #[kyV a, kyV b, v] W fun e w' => e = .returned (.bool true) ∧ Below W.heap.size W w' := by
  have LV := Lib.hid (fun X (hk : Keep (fun b => W.heap.size ≤ b) W X) => live22 X (hT.keep hk (by have := hT.lt; omega)))
  have ML := Lib.hid (fun X (hk : Keep (fun _ => False) W X) => much22 l v _ X (hv.same hk))
  have FF := Lib.hid (fun X (hk : Keep (fun _ => False) W X) hd => flow_find l a v _ X (hv.same hk) hd)
  have RF := Lib.hid (fun X (hk : Keep (fun _ => False) W X) => ref_find l a v _ X (hv.same hk))
  have FRA := Lib.hid (fun X => flow_right a ha X)
  have FRB := Lib.hid (fun X => flow_right b hb X)
  have RRA := Lib.hid (fun X => ref_right a ha X)
  have RRB := Lib.hid (fun X => ref_right b hb X)
  have FO := Lib.hid (fun X => flow_order a b X)
  have RO := Lib.hid (fun X => ref_order a b X)
  have OZ := Lib.hid (order_zero a b)
  have OR := Lib.hid (show rightK a = true → rightK b = true → orderK a b = orderR a b from fun h1 h2 => order_right h1 h2)
  obtain ⟨Av, cv, rfl, -⟩ := hv.form
  generalize l.length = nl at *
  unfold kyV at *
  generalize rightK a = ra at *
  generalize rightK b = rb at *
  generalize orderK a b = zo at *
  generalize orderR a b = zr at *
  generalize findW l a = fd at *
  obtain ⟨k1, s1, c1⟩ := a
  obtain ⟨k2, s2, c2⟩ := b
  obtain ⟨fd1, fd2⟩ := fd
  simp only at *
  clear ha hb hv hT
  go_enter Tryz.func3, Tryz.ntmps3
  go_upto_region 1 with fail
  refine wp_world (S := fun X => X.heap[W.heap.size]? = some (.cells #[.int .i64 k1, .int .u64 (s1 : Int), .int .i64 c1] 24 (0, 0)) ∧ X.heap[W.heap.size + 1]? = some (.cells #[.int .i64 k2, .int .u64 (s2 : Int), .int .i64 c2] 24 (0, 0)) ∧ Keep (fun _ => False) W X) ⟨(by (try simp only [heap_drew']); (try simp only [World.heap_drewN]); repeat (first | exact heap_alloc_at _ _ _ (by first | rfl | simp) | rw [Below.heap_alloc _ _ _ (by first | (simp; done) | (simp; omega))])), (by (try simp only [heap_drew']); (try simp only [World.heap_drewN]); repeat (first | exact heap_alloc_at _ _ _ (by first | rfl | simp) | rw [Below.heap_alloc _ _ _ (by first | (simp; done) | (simp; omega))])), by exact (by repeat first | (with_reducible assumption) | (with_reducible exact Keep.refl _ _) | (with_reducible refine Keep.alloc ?_ _) | (with_reducible refine Keep.drew ?_) | (with_reducible refine Keep.drewN ?_ _) | (with_reducible refine Keep.setCell ?_ (.inl (by first | omega | (simp; done) | (simp; omega) | fail)) _))⟩ ?_
  rintro X ⟨b1, b2, hkX⟩
  have HX := Lib.hid hkX
  have KXW := Lib.hid (hkX.mono (T := fun b => W.heap.size ≤ b) (fun _ _ h => h.elim))
  obtain ⟨x0, x1, x2, xf⟩ := cells3 b1
  obtain ⟨y0, y1, y2, yf⟩ := cells3 b2
  have CE := Lib.hid (show ∀ W', Keep (fun _ => False) X W' → ((W'.cell? ⟨W.heap.size, 0, none⟩ = some (.int .i64 k1) ∧ W'.cell? ⟨W.heap.size, 1, none⟩ = some (.int .u64 (s1 : Int)) ∧ W'.cell? ⟨W.heap.size, 2, none⟩ = some (.int .i64 c1)) ∧ (W'.cell? ⟨W.heap.size + 1, 0, none⟩ = some (.int .i64 k2) ∧ W'.cell? ⟨W.heap.size + 1, 1, none⟩ = some (.int .u64 (s2 : Int)) ∧ W'.cell? ⟨W.heap.size + 1, 2, none⟩ = some (.int .i64 c2)) ∧ Keep (fun _ => False) X W') from fun W' hk => ⟨⟨hk.cell (fun h => h) x0, hk.cell (fun h => h) x1, hk.cell (fun h => h) x2⟩, ⟨hk.cell (fun h => h) y0, hk.cell (fun h => h) y1, hk.cell (fun h => h) y2⟩, hk⟩)
  clear b1 b2
  go_wp2_with fail
  with_reducible refine (ML.out X hkX).mono ?_
  rintro e w1 ⟨⟨m0, rfl, hm⟩, rfl⟩
  have HM := Lib.hid hm
  clear hm
  cases m0 with
  | true =>
    go_wp2_with fail
    with_reducible refine (LV.out X KXW.out).mono ?_
    rintro e w2 ⟨rfl, hb2⟩
    have H2 := Lib.hid hb2
    clear hb2
    go_wp2
    go_ret
    exact ⟨rfl, (KXW.out.to_below (Nat.le_refl _)).trans (H2.out.mono (by have := KXW.out.size; omega))⟩
  | false =>
    have hdl := (HM.out (by first | rfl | trivial)).2
    go_wp2_with fail
    with_reducible refine (FF.out X hkX (fun t ht => by have := hdl t ht; omega)).mono ?_
    rintro e w2 ⟨A5, n5, c5, rfl, hby5, hk5⟩
    have K5 := Lib.hid (And.intro hk5 hby5)
    have x0' := hk5.cell (fun h => h) x0
    have x1' := hk5.cell (fun h => h) x1
    have x2' := hk5.cell (fun h => h) x2
    clear hk5 hby5 x0 x1 x2 xf y0 y1 y2 yf
    go_wp2_with fail
    with_reducible refine (RF.out w2 (HX.out.trans K5.out.1 (fun _ _ h => h))).mono ?_
    rintro e w3 ⟨A6, n6, c6, rfl, hby6, hk6⟩
    have k3 : Keep (fun _ => False) X w3 := K5.out.1.trans hk6 (fun _ _ h => h)
    have SB := Lib.hid (fun Y (hk : Keep (fun _ => False) w3 Y) => show Calls Tryz.prog 11 #[.slice A5 n5 c5, .slice A6 n6 c6] Y fun e w' => e = .returned (.bool true) ∧ Y = w' from by
      have h9 := same_any fd1 fd1 (.slice A5 n5 c5) (.slice A6 n6 c6) (fun _ => True) (fun _ => True) Y (By.keep (By.keep K5.out.2 hk6 (fun _ _ _ h => h)) hk (fun _ _ _ h => h)) (By.keep hby6 hk (fun _ _ _ h => h))
      rwa [decide_eq_true rfl] at h9)
    obtain ⟨⟨x0, x1, x2⟩, ⟨y0, y1, y2⟩, -⟩ := CE.out w3 k3
    have CE3 := Lib.hid (show ∀ W', Keep (fun _ => False) w3 W' → ((W'.cell? ⟨W.heap.size, 0, none⟩ = some (.int .i64 k1) ∧ W'.cell? ⟨W.heap.size, 1, none⟩ = some (.int .u64 (s1 : Int)) ∧ W'.cell? ⟨W.heap.size, 2, none⟩ = some (.int .i64 c1)) ∧ (W'.cell? ⟨W.heap.size + 1, 0, none⟩ = some (.int .i64 k2) ∧ W'.cell? ⟨W.heap.size + 1, 1, none⟩ = some (.int .u64 (s2 : Int)) ∧ W'.cell? ⟨W.heap.size + 1, 2, none⟩ = some (.int .i64 c2)) ∧ Keep (fun _ => False) w3 W') from fun W' hk => ⟨⟨hk.cell (fun h => h) x0, hk.cell (fun h => h) x1, hk.cell (fun h => h) x2⟩, ⟨hk.cell (fun h => h) y0, hk.cell (fun h => h) y1, hk.cell (fun h => h) y2⟩, hk⟩)
    have KW3 := Lib.hid (KXW.out.trans k3 (fun _ _ h => h.elim))
    clear hby6 hk6 x0' x1' x2' hkX
    have er1 : (ra != ra) = false := by simp
    have er2 : (rb != rb) = false := by simp
    have er3 : (fd2 != fd2) = false := by simp
    go_upto_region 5 with fail
    go_cut [58] (fun t wx => t = .bool false ∧ Hid (Keep (fun _ => False) w3 wx))
    case first =>
      by_cases h1 : k1 = k2
      · have ex1 : (k1 == k2) = true := by simpa using h1
        by_cases h2 : s1 = s2
        · have ex2 : ((s1 : Int) == (s2 : Int)) = true := by rw [h2]; simp
          by_cases h3 : c1 = c2
          · have ex3 : (c1 == c2) = true := by simpa using h3
            have ez : (zo == 0) = true := by
              have := OZ.out.2 (by rw [h1, h2, h3])
              simpa using this
            clear h1 h2 h3
            go_region_held3 (fun W' => ((W'.cell? ⟨W.heap.size, 0, none⟩ = some (.int .i64 k1) ∧ W'.cell? ⟨W.heap.size, 1, none⟩ = some (.int .u64 (s1 : Int)) ∧ W'.cell? ⟨W.heap.size, 2, none⟩ = some (.int .i64 c1)) ∧ (W'.cell? ⟨W.heap.size + 1, 0, none⟩ = some (.int .i64 k2) ∧ W'.cell? ⟨W.heap.size + 1, 1, none⟩ = some (.int .u64 (s2 : Int)) ∧ W'.cell? ⟨W.heap.size + 1, 2, none⟩ = some (.int .i64 c2)) ∧ Keep (fun _ => False) w3 W')) (exact CE3.out _ (by exact (by repeat first | (with_reducible assumption) | (with_reducible exact Keep.refl _ _) | (with_reducible refine Keep.alloc ?_ _) | (with_reducible refine Keep.drew ?_) | (with_reducible refine Keep.drewN ?_ _) | (with_reducible refine Keep.setCell ?_ (.inl (by first | omega | (simp; done) | (simp; omega) | fail)) _)))) (first
                | (go_at_call 8; (first | (with_reducible refine (FRA.out _).mono ?_) | (with_reducible refine (FRB.out _).mono ?_)); rintro e w4 ⟨rfl, hk4⟩; have k4 : Keep (fun _ => False) w3 w4 := Keep.trans (T := fun _ => False) (by exact (by repeat first | (with_reducible assumption) | (with_reducible exact Keep.refl _ _) | (with_reducible refine Keep.alloc ?_ _) | (with_reducible refine Keep.drew ?_) | (with_reducible refine Keep.drewN ?_ _) | (with_reducible refine Keep.setCell ?_ (.inl (by first | omega | (simp; done) | (simp; omega) | fail)) _))) hk4 (fun _ _ h => h); clear hk4)
                | (go_at_call 9; (first | (with_reducible refine (RRA.out _).mono ?_) | (with_reducible refine (RRB.out _).mono ?_)); rintro e w4 ⟨rfl, hk4⟩; have k4 : Keep (fun _ => False) w3 w4 := Keep.trans (T := fun _ => False) (by exact (by repeat first | (with_reducible assumption) | (with_reducible exact Keep.refl _ _) | (with_reducible refine Keep.alloc ?_ _) | (with_reducible refine Keep.drew ?_) | (with_reducible refine Keep.drewN ?_ _) | (with_reducible refine Keep.setCell ?_ (.inl (by first | omega | (simp; done) | (simp; omega) | fail)) _))) hk4 (fun _ _ h => h); clear hk4)
                | (go_at_call 10; (with_reducible refine (FO.out _).mono ?_); rintro e w5 ⟨rfl, hk5⟩; have k5 : Keep (fun _ => False) w3 w5 := Keep.trans (T := fun _ => False) (by exact (by repeat first | (with_reducible assumption) | (with_reducible exact Keep.refl _ _) | (with_reducible refine Keep.alloc ?_ _) | (with_reducible refine Keep.drew ?_) | (with_reducible refine Keep.drewN ?_ _) | (with_reducible refine Keep.setCell ?_ (.inl (by first | omega | (simp; done) | (simp; omega) | fail)) _))) hk5 (fun _ _ h => h); clear hk5)
                | (go_at_call 12; (with_reducible refine (RO.out _).mono ?_); rintro e w5 ⟨rfl, hk5⟩; have k5 : Keep (fun _ => False) w3 w5 := Keep.trans (T := fun _ => False) (by exact (by repeat first | (with_reducible assumption) | (with_reducible exact Keep.refl _ _) | (with_reducible refine Keep.alloc ?_ _) | (with_reducible refine Keep.drew ?_) | (with_reducible refine Keep.drewN ?_ _) | (with_reducible refine Keep.setCell ?_ (.inl (by first | omega | (simp; done) | (simp; omega) | fail)) _))) hk5 (fun _ _ h => h); clear hk5)
                | (go_at_call 11; (with_reducible refine (SB.out _ (by exact (by repeat first | (with_reducible assumption) | (with_reducible exact Keep.refl _ _) | (with_reducible refine Keep.alloc ?_ _) | (with_reducible refine Keep.drew ?_) | (with_reducible refine Keep.drewN ?_ _) | (with_reducible refine Keep.setCell ?_ (.inl (by first | omega | (simp; done) | (simp; omega) | fail)) _)))).mono ?_); rintro e w5 ⟨rfl, rfl⟩)
                | (go_at_call 5; (with_reducible refine (LV.out _ (by exact KW3.out.trans (T := fun b => W.heap.size ≤ b) (Keep.mono (S := fun _ => False) (by exact (by repeat first | (with_reducible assumption) | (with_reducible exact Keep.refl _ _) | (with_reducible refine Keep.alloc ?_ _) | (with_reducible refine Keep.drew ?_) | (with_reducible refine Keep.drewN ?_ _) | (with_reducible refine Keep.setCell ?_ (.inl (by first | omega | (simp; done) | (simp; omega) | fail)) _))) (fun _ _ h => h.elim)) (fun _ _ h => h))).mono ?_); rintro e w6 ⟨rfl, hb6⟩; have k6 : Keep (fun _ => False) w3 w6 := Keep.trans (T := fun _ => False) (by exact (by repeat first | (with_reducible assumption) | (with_reducible exact Keep.refl _ _) | (with_reducible refine Keep.alloc ?_ _) | (with_reducible refine Keep.drew ?_) | (with_reducible refine Keep.drewN ?_ _) | (with_reducible refine Keep.setCell ?_ (.inl (by first | omega | (simp; done) | (simp; omega) | fail)) _))) (Keep.of_below' hb6) (fun _ _ h => h); clear hb6)
                | fail)
            go_wp2_with fail
            go_meet
            refine ⟨by rfl, Lib.hid (by exact (by repeat first | (with_reducible assumption) | (with_reducible exact Keep.refl _ _) | (with_reducible refine Keep.alloc ?_ _) | (with_reducible refine Keep.drew ?_) | (with_reducible refine Keep.drewN ?_ _) | (with_reducible refine Keep.setCell ?_ (.inl (by first | omega | (simp; done) | (simp; omega) | fail)) _)))⟩
          · have ex3 : (c1 == c2) = false := by simpa using h3
            have ez : (zo == 0) = false := by
              have : zo ≠ 0 := fun e => by have := OZ.out.1 e; injection this with e1 e2 e3; exact h3 e3
              simpa using this
            clear h1 h2 h3
            go_region_held3 (fun W' => ((W'.cell? ⟨W.heap.size, 0, none⟩ = some (.int .i64 k1) ∧ W'.cell? ⟨W.heap.size, 1, none⟩ = some (.int .u64 (s1 : Int)) ∧ W'.cell? ⟨W.heap.size, 2, none⟩ = some (.int .i64 c1)) ∧ (W'.cell? ⟨W.heap.size + 1, 0, none⟩ = some (.int .i64 k2) ∧ W'.cell? ⟨W.heap.size + 1, 1, none⟩ = some (.int .u64 (s2 : Int)) ∧ W'.cell? ⟨W.heap.size + 1, 2, none⟩ = some (.int .i64 c2)) ∧ Keep (fun _ => False) w3 W')) (exact CE3.out _ (by exact (by repeat first | (with_reducible assumption) | (with_reducible exact Keep.refl _ _) | (with_reducible refine Keep.alloc ?_ _) | (with_reducible refine Keep.drew ?_) | (with_reducible refine Keep.drewN ?_ _) | (with_reducible refine Keep.setCell ?_ (.inl (by first | omega | (simp; done) | (simp; omega) | fail)) _)))) (first
                | (go_at_call 8; (first | (with_reducible refine (FRA.out _).mono ?_) | (with_reducible refine (FRB.out _).mono ?_)); rintro e w4 ⟨rfl, hk4⟩; have k4 : Keep (fun _ => False) w3 w4 := Keep.trans (T := fun _ => False) (by exact (by repeat first | (with_reducible assumption) | (with_reducible exact Keep.refl _ _) | (with_reducible refine Keep.alloc ?_ _) | (with_reducible refine Keep.drew ?_) | (with_reducible refine Keep.drewN ?_ _) | (with_reducible refine Keep.setCell ?_ (.inl (by first | omega | (simp; done) | (simp; omega) | fail)) _))) hk4 (fun _ _ h => h); clear hk4)
                | (go_at_call 9; (first | (with_reducible refine (RRA.out _).mono ?_) | (with_reducible refine (RRB.out _).mono ?_)); rintro e w4 ⟨rfl, hk4⟩; have k4 : Keep (fun _ => False) w3 w4 := Keep.trans (T := fun _ => False) (by exact (by repeat first | (with_reducible assumption) | (with_reducible exact Keep.refl _ _) | (with_reducible refine Keep.alloc ?_ _) | (with_reducible refine Keep.drew ?_) | (with_reducible refine Keep.drewN ?_ _) | (with_reducible refine Keep.setCell ?_ (.inl (by first | omega | (simp; done) | (simp; omega) | fail)) _))) hk4 (fun _ _ h => h); clear hk4)
                | (go_at_call 10; (with_reducible refine (FO.out _).mono ?_); rintro e w5 ⟨rfl, hk5⟩; have k5 : Keep (fun _ => False) w3 w5 := Keep.trans (T := fun _ => False) (by exact (by repeat first | (with_reducible assumption) | (with_reducible exact Keep.refl _ _) | (with_reducible refine Keep.alloc ?_ _) | (with_reducible refine Keep.drew ?_) | (with_reducible refine Keep.drewN ?_ _) | (with_reducible refine Keep.setCell ?_ (.inl (by first | omega | (simp; done) | (simp; omega) | fail)) _))) hk5 (fun _ _ h => h); clear hk5)
                | (go_at_call 12; (with_reducible refine (RO.out _).mono ?_); rintro e w5 ⟨rfl, hk5⟩; have k5 : Keep (fun _ => False) w3 w5 := Keep.trans (T := fun _ => False) (by exact (by repeat first | (with_reducible assumption) | (with_reducible exact Keep.refl _ _) | (with_reducible refine Keep.alloc ?_ _) | (with_reducible refine Keep.drew ?_) | (with_reducible refine Keep.drewN ?_ _) | (with_reducible refine Keep.setCell ?_ (.inl (by first | omega | (simp; done) | (simp; omega) | fail)) _))) hk5 (fun _ _ h => h); clear hk5)
                | (go_at_call 11; (with_reducible refine (SB.out _ (by exact (by repeat first | (with_reducible assumption) | (with_reducible exact Keep.refl _ _) | (with_reducible refine Keep.alloc ?_ _) | (with_reducible refine Keep.drew ?_) | (with_reducible refine Keep.drewN ?_ _) | (with_reducible refine Keep.setCell ?_ (.inl (by first | omega | (simp; done) | (simp; omega) | fail)) _)))).mono ?_); rintro e w5 ⟨rfl, rfl⟩)
                | (go_at_call 5; (with_reducible refine (LV.out _ (by exact KW3.out.trans (T := fun b => W.heap.size ≤ b) (Keep.mono (S := fun _ => False) (by exact (by repeat first | (with_reducible assumption) | (with_reducible exact Keep.refl _ _) | (with_reducible refine Keep.alloc ?_ _) | (with_reducible refine Keep.drew ?_) | (with_reducible refine Keep.drewN ?_ _) | (with_reducible refine Keep.setCell ?_ (.inl (by first | omega | (simp; done) | (simp; omega) | fail)) _))) (fun _ _ h => h.elim)) (fun _ _ h => h))).mono ?_); rintro e w6 ⟨rfl, hb6⟩; have k6 : Keep (fun _ => False) w3 w6 := Keep.trans (T := fun _ => False) (by exact (by repeat first | (with_reducible assumption) | (with_reducible exact Keep.refl _ _) | (with_reducible refine Keep.alloc ?_ _) | (with_reducible refine Keep.drew ?_) | (with_reducible refine Keep.drewN ?_ _) | (with_reducible refine Keep.setCell ?_ (.inl (by first | omega | (simp; done) | (simp; omega) | fail)) _))) (Keep.of_below' hb6) (fun _ _ h => h); clear hb6)
                | fail)
            go_wp2_with fail
            go_meet
            refine ⟨by rfl, Lib.hid (by exact (by repeat first | (with_reducible assumption) | (with_reducible exact Keep.refl _ _) | (with_reducible refine Keep.alloc ?_ _) | (with_reducible refine Keep.drew ?_) | (with_reducible refine Keep.drewN ?_ _) | (with_reducible refine Keep.setCell ?_ (.inl (by first | omega | (simp; done) | (simp; omega) | fail)) _)))⟩
        · have ex2 : ((s1 : Int) == (s2 : Int)) = false := by
            have : (s1 : Int) ≠ (s2 : Int) := by omega
            simpa using this
          have ez : (zo == 0) = false := by
            have : zo ≠ 0 := fun e => by have := OZ.out.1 e; injection this with e1 e2 e3; exact h2 e2
            simpa using this
          clear h1 h2
          go_region_held3 (fun W' => ((W'.cell? ⟨W.heap.size, 0, none⟩ = some (.int .i64 k1) ∧ W'.cell? ⟨W.heap.size, 1, none⟩ = some (.int .u64 (s1 : Int)) ∧ W'.cell? ⟨W.heap.size, 2, none⟩ = some (.int .i64 c1)) ∧ (W'.cell? ⟨W.heap.size + 1, 0, none⟩ = some (.int .i64 k2) ∧ W'.cell? ⟨W.heap.size + 1, 1, none⟩ = some (.int .u64 (s2 : Int)) ∧ W'.cell? ⟨W.heap.size + 1, 2, none⟩ = some (.int .i64 c2)) ∧ Keep (fun _ => False) w3 W')) (exact CE3.out _ (by exact (by repeat first | (with_reducible assumption) | (with_reducible exact Keep.refl _ _) | (with_reducible refine Keep.alloc ?_ _) | (with_reducible refine Keep.drew ?_) | (with_reducible refine Keep.drewN ?_ _) | (with_reducible refine Keep.setCell ?_ (.inl (by first | omega | (simp; done) | (simp; omega) | fail)) _)))) (first
              | (go_at_call 8; (first | (with_reducible refine (FRA.out _).mono ?_) | (with_reducible refine (FRB.out _).mono ?_)); rintro e w4 ⟨rfl, hk4⟩; have k4 : Keep (fun _ => False) w3 w4 := Keep.trans (T := fun _ => False) (by exact (by repeat first | (with_reducible assumption) | (with_reducible exact Keep.refl _ _) | (with_reducible refine Keep.alloc ?_ _) | (with_reducible refine Keep.drew ?_) | (with_reducible refine Keep.drewN ?_ _) | (with_reducible refine Keep.setCell ?_ (.inl (by first | omega | (simp; done) | (simp; omega) | fail)) _))) hk4 (fun _ _ h => h); clear hk4)
              | (go_at_call 9; (first | (with_reducible refine (RRA.out _).mono ?_) | (with_reducible refine (RRB.out _).mono ?_)); rintro e w4 ⟨rfl, hk4⟩; have k4 : Keep (fun _ => False) w3 w4 := Keep.trans (T := fun _ => False) (by exact (by repeat first | (with_reducible assumption) | (with_reducible exact Keep.refl _ _) | (with_reducible refine Keep.alloc ?_ _) | (with_reducible refine Keep.drew ?_) | (with_reducible refine Keep.drewN ?_ _) | (with_reducible refine Keep.setCell ?_ (.inl (by first | omega | (simp; done) | (simp; omega) | fail)) _))) hk4 (fun _ _ h => h); clear hk4)
              | (go_at_call 10; (with_reducible refine (FO.out _).mono ?_); rintro e w5 ⟨rfl, hk5⟩; have k5 : Keep (fun _ => False) w3 w5 := Keep.trans (T := fun _ => False) (by exact (by repeat first | (with_reducible assumption) | (with_reducible exact Keep.refl _ _) | (with_reducible refine Keep.alloc ?_ _) | (with_reducible refine Keep.drew ?_) | (with_reducible refine Keep.drewN ?_ _) | (with_reducible refine Keep.setCell ?_ (.inl (by first | omega | (simp; done) | (simp; omega) | fail)) _))) hk5 (fun _ _ h => h); clear hk5)
              | (go_at_call 12; (with_reducible refine (RO.out _).mono ?_); rintro e w5 ⟨rfl, hk5⟩; have k5 : Keep (fun _ => False) w3 w5 := Keep.trans (T := fun _ => False) (by exact (by repeat first | (with_reducible assumption) | (with_reducible exact Keep.refl _ _) | (with_reducible refine Keep.alloc ?_ _) | (with_reducible refine Keep.drew ?_) | (with_reducible refine Keep.drewN ?_ _) | (with_reducible refine Keep.setCell ?_ (.inl (by first | omega | (simp; done) | (simp; omega) | fail)) _))) hk5 (fun _ _ h => h); clear hk5)
              | (go_at_call 11; (with_reducible refine (SB.out _ (by exact (by repeat first | (with_reducible assumption) | (with_reducible exact Keep.refl _ _) | (with_reducible refine Keep.alloc ?_ _) | (with_reducible refine Keep.drew ?_) | (with_reducible refine Keep.drewN ?_ _) | (with_reducible refine Keep.setCell ?_ (.inl (by first | omega | (simp; done) | (simp; omega) | fail)) _)))).mono ?_); rintro e w5 ⟨rfl, rfl⟩)
              | (go_at_call 5; (with_reducible refine (LV.out _ (by exact KW3.out.trans (T := fun b => W.heap.size ≤ b) (Keep.mono (S := fun _ => False) (by exact (by repeat first | (with_reducible assumption) | (with_reducible exact Keep.refl _ _) | (with_reducible refine Keep.alloc ?_ _) | (with_reducible refine Keep.drew ?_) | (with_reducible refine Keep.drewN ?_ _) | (with_reducible refine Keep.setCell ?_ (.inl (by first | omega | (simp; done) | (simp; omega) | fail)) _))) (fun _ _ h => h.elim)) (fun _ _ h => h))).mono ?_); rintro e w6 ⟨rfl, hb6⟩; have k6 : Keep (fun _ => False) w3 w6 := Keep.trans (T := fun _ => False) (by exact (by repeat first | (with_reducible assumption) | (with_reducible exact Keep.refl _ _) | (with_reducible refine Keep.alloc ?_ _) | (with_reducible refine Keep.drew ?_) | (with_reducible refine Keep.drewN ?_ _) | (with_reducible refine Keep.setCell ?_ (.inl (by first | omega | (simp; done) | (simp; omega) | fail)) _))) (Keep.of_below' hb6) (fun _ _ h => h); clear hb6)
              | fail)
          go_wp2_with fail
          go_meet
          refine ⟨by rfl, Lib.hid (by exact (by repeat first | (with_reducible assumption) | (with_reducible exact Keep.refl _ _) | (with_reducible refine Keep.alloc ?_ _) | (with_reducible refine Keep.drew ?_) | (with_reducible refine Keep.drewN ?_ _) | (with_reducible refine Keep.setCell ?_ (.inl (by first | omega | (simp; done) | (simp; omega) | fail)) _)))⟩
      · have ex1 : (k1 == k2) = false := by simpa using h1
        have ez : (zo == 0) = false := by
          have : zo ≠ 0 := fun e => by have := OZ.out.1 e; injection this with e1 e2 e3; exact h1 e1
          simpa using this
        clear h1
        go_region_held3 (fun W' => ((W'.cell? ⟨W.heap.size, 0, none⟩ = some (.int .i64 k1) ∧ W'.cell? ⟨W.heap.size, 1, none⟩ = some (.int .u64 (s1 : Int)) ∧ W'.cell? ⟨W.heap.size, 2, none⟩ = some (.int .i64 c1)) ∧ (W'.cell? ⟨W.heap.size + 1, 0, none⟩ = some (.int .i64 k2) ∧ W'.cell? ⟨W.heap.size + 1, 1, none⟩ = some (.int .u64 (s2 : Int)) ∧ W'.cell? ⟨W.heap.size + 1, 2, none⟩ = some (.int .i64 c2)) ∧ Keep (fun _ => False) w3 W')) (exact CE3.out _ (by exact (by repeat first | (with_reducible assumption) | (with_reducible exact Keep.refl _ _) | (with_reducible refine Keep.alloc ?_ _) | (with_reducible refine Keep.drew ?_) | (with_reducible refine Keep.drewN ?_ _) | (with_reducible refine Keep.setCell ?_ (.inl (by first | omega | (simp; done) | (simp; omega) | fail)) _)))) (first
            | (go_at_call 8; (first | (with_reducible refine (FRA.out _).mono ?_) | (with_reducible refine (FRB.out _).mono ?_)); rintro e w4 ⟨rfl, hk4⟩; have k4 : Keep (fun _ => False) w3 w4 := Keep.trans (T := fun _ => False) (by exact (by repeat first | (with_reducible assumption) | (with_reducible exact Keep.refl _ _) | (with_reducible refine Keep.alloc ?_ _) | (with_reducible refine Keep.drew ?_) | (with_reducible refine Keep.drewN ?_ _) | (with_reducible refine Keep.setCell ?_ (.inl (by first | omega | (simp; done) | (simp; omega) | fail)) _))) hk4 (fun _ _ h => h); clear hk4)
            | (go_at_call 9; (first | (with_reducible refine (RRA.out _).mono ?_) | (with_reducible refine (RRB.out _).mono ?_)); rintro e w4 ⟨rfl, hk4⟩; have k4 : Keep (fun _ => False) w3 w4 := Keep.trans (T := fun _ => False) (by exact (by repeat first | (with_reducible assumption) | (with_reducible exact Keep.refl _ _) | (with_reducible refine Keep.alloc ?_ _) | (with_reducible refine Keep.drew ?_) | (with_reducible refine Keep.drewN ?_ _) | (with_reducible refine Keep.setCell ?_ (.inl (by first | omega | (simp; done) | (simp; omega) | fail)) _))) hk4 (fun _ _ h => h); clear hk4)
            | (go_at_call 10; (with_reducible refine (FO.out _).mono ?_); rintro e w5 ⟨rfl, hk5⟩; have k5 : Keep (fun _ => False) w3 w5 := Keep.trans (T := fun _ => False) (by exact (by repeat first | (with_reducible assumption) | (with_reducible exact Keep.refl _ _) | (with_reducible refine Keep.alloc ?_ _) | (with_reducible refine Keep.drew ?_) | (with_reducible refine Keep.drewN ?_ _) | (with_reducible refine Keep.setCell ?_ (.inl (by first | omega | (simp; done) | (simp; omega) | fail)) _))) hk5 (fun _ _ h => h); clear hk5)
            | (go_at_call 12; (with_reducible refine (RO.out _).mono ?_); rintro e w5 ⟨rfl, hk5⟩; have k5 : Keep (fun _ => False) w3 w5 := Keep.trans (T := fun _ => False) (by exact (by repeat first | (with_reducible assumption) | (with_reducible exact Keep.refl _ _) | (with_reducible refine Keep.alloc ?_ _) | (with_reducible refine Keep.drew ?_) | (with_reducible refine Keep.drewN ?_ _) | (with_reducible refine Keep.setCell ?_ (.inl (by first | omega | (simp; done) | (simp; omega) | fail)) _))) hk5 (fun _ _ h => h); clear hk5)
            | (go_at_call 11; (with_reducible refine (SB.out _ (by exact (by repeat first | (with_reducible assumption) | (with_reducible exact Keep.refl _ _) | (with_reducible refine Keep.alloc ?_ _) | (with_reducible refine Keep.drew ?_) | (with_reducible refine Keep.drewN ?_ _) | (with_reducible refine Keep.setCell ?_ (.inl (by first | omega | (simp; done) | (simp; omega) | fail)) _)))).mono ?_); rintro e w5 ⟨rfl, rfl⟩)
            | (go_at_call 5; (with_reducible refine (LV.out _ (by exact KW3.out.trans (T := fun b => W.heap.size ≤ b) (Keep.mono (S := fun _ => False) (by exact (by repeat first | (with_reducible assumption) | (with_reducible exact Keep.refl _ _) | (with_reducible refine Keep.alloc ?_ _) | (with_reducible refine Keep.drew ?_) | (with_reducible refine Keep.drewN ?_ _) | (with_reducible refine Keep.setCell ?_ (.inl (by first | omega | (simp; done) | (simp; omega) | fail)) _))) (fun _ _ h => h.elim)) (fun _ _ h => h))).mono ?_); rintro e w6 ⟨rfl, hb6⟩; have k6 : Keep (fun _ => False) w3 w6 := Keep.trans (T := fun _ => False) (by exact (by repeat first | (with_reducible assumption) | (with_reducible exact Keep.refl _ _) | (with_reducible refine Keep.alloc ?_ _) | (with_reducible refine Keep.drew ?_) | (with_reducible refine Keep.drewN ?_ _) | (with_reducible refine Keep.setCell ?_ (.inl (by first | omega | (simp; done) | (simp; omega) | fail)) _))) (Keep.of_below' hb6) (fun _ _ h => h); clear hb6)
            | fail)
        go_wp2_with fail
        go_meet
        refine ⟨by rfl, Lib.hid (by exact (by repeat first | (with_reducible assumption) | (with_reducible exact Keep.refl _ _) | (with_reducible refine Keep.alloc ?_ _) | (with_reducible refine Keep.drew ?_) | (with_reducible refine Keep.drewN ?_ _) | (with_reducible refine Keep.setCell ?_ (.inl (by first | omega | (simp; done) | (simp; omega) | fail)) _)))⟩
    case rest =>
      obtain ⟨rfl, hend⟩ := hcut
      have hS0 := CE3.out wc hend.out
      obtain ⟨⟨x0, x1, x2⟩, ⟨y0, y1, y2⟩, hkc⟩ := hS0
      have hS0 := CE3.out wc hend.out
      cases ra with
      | false =>
        go_upto_region 7 with fail
        refine wp_region_noPanic ?_
        refine wp_region_held_drew (S := fun W' => ((W'.cell? ⟨W.heap.size, 0, none⟩ = some (.int .i64 k1) ∧ W'.cell? ⟨W.heap.size, 1, none⟩ = some (.int .u64 (s1 : Int)) ∧ W'.cell? ⟨W.heap.size, 2, none⟩ = some (.int .i64 c1)) ∧ (W'.cell? ⟨W.heap.size + 1, 0, none⟩ = some (.int .i64 k2) ∧ W'.cell? ⟨W.heap.size + 1, 1, none⟩ = some (.int .u64 (s2 : Int)) ∧ W'.cell? ⟨W.heap.size + 1, 2, none⟩ = some (.int .i64 c2)) ∧ Keep (fun _ => False) w3 W')) (by kernel_rfl) (by exact CE3.out _ (by exact (by repeat first | (with_reducible assumption) | (with_reducible exact Keep.refl _ _) | (with_reducible refine Keep.alloc ?_ _) | (with_reducible refine Keep.drew ?_) | (with_reducible refine Keep.drewN ?_ _) | (with_reducible refine Keep.setCell ?_ (.inl (by first | omega | (simp; done) | (simp; omega) | fail)) _)))) (fun hHeld => ?_)
        (refine' wpAnyH_take (i := 0) (oi := _) (v := _) ?_ (by kernel_rfl) (by kernel_rfl) (by kernel_rfl) (fun _ _ _ h => h) ?_ (by assumption) ?_; rotate_left; rotate_left; (focus (first | (simp only [List.getElem?_toArray, List.getElem?_cons_succ, List.getElem?_cons_zero]; done) | (simp only [List.getElem?_toArray, List.getElem?_cons_succ, List.getElem?_cons_zero]; rfl))); (focus (refine Or.inl ⟨by rfl, ?_⟩; intro W' hSw; (try dsimp only at hSw); go_simp; try with_reducible rfl)); (try simp only [Act.put, List.setIfInBounds_toArray, List.set_cons_zero, List.set_cons_succ]))
        (refine wpAnyH_ready (rs := [1]) (by kernel_rfl) (by simp) ?_; refine' AllReadyH.cons (o := _) ?_ (fun K hK => ?_) AllReadyH.nil; rotate_left; (focus (first | (simp only [List.getElem?_toArray, List.getElem?_cons_succ, List.getElem?_cons_zero]; done) | (simp only [List.getElem?_toArray, List.getElem?_cons_succ, List.getElem?_cons_zero]; rfl))))
        go_simp
        go_at_call 9
        with_reducible refine (RRA.out _).mono ?_
        rintro e wqA ⟨rfl, hkqA⟩
        go_wp2_with fail
        refine hK.out _ _ ?_ (fun hHeldA => ?_)
        · exact CE3.out _ (hHeld.2.2.trans hkqA (fun _ _ h => h))
        clear hK K
        (try simp only [Act.put, List.setIfInBounds_toArray, List.set_cons_zero, List.set_cons_succ])
        (refine' wpAnyH_take (i := 2) (oi := _) (v := _) ?_ (by kernel_rfl) (by kernel_rfl) (by kernel_rfl) (fun _ _ _ h => h) ?_ (by assumption) ?_; rotate_left; rotate_left; (focus (first | (simp only [List.getElem?_toArray, List.getElem?_cons_succ, List.getElem?_cons_zero]; done) | (simp only [List.getElem?_toArray, List.getElem?_cons_succ, List.getElem?_cons_zero]; rfl))); (focus (refine Or.inl ⟨by rfl, ?_⟩; intro W' hSw; (try dsimp only at hSw); go_simp; try with_reducible rfl)); (try simp only [Act.put, List.setIfInBounds_toArray, List.set_cons_zero, List.set_cons_succ]))
        (refine' wpAnyH_take (i := 3) (oi := _) (v := _) ?_ (by kernel_rfl) (by kernel_rfl) (by kernel_rfl) (fun _ _ _ h => h) ?_ (by assumption) ?_; rotate_left; rotate_left; (focus (first | (simp only [List.getElem?_toArray, List.getElem?_cons_succ, List.getElem?_cons_zero]; done) | (simp only [List.getElem?_toArray, List.getElem?_cons_succ, List.getElem?_cons_zero]; rfl))); (focus (refine Or.inl ⟨by rfl, ?_⟩; intro W' hSw; (try dsimp only at hSw); go_simp; try with_reducible rfl)); (try simp only [Act.put, List.setIfInBounds_toArray, List.set_cons_zero, List.set_cons_succ]))
        (refine' wpAnyH_take (i := 4) (oi := _) (v := undef) ?_ (by kernel_rfl) (by kernel_rfl) (by kernel_rfl) (fun _ _ _ h => h) ?_ (by assumption) ?_; rotate_left; (focus (first | (simp only [List.getElem?_toArray, List.getElem?_cons_succ, List.getElem?_cons_zero]; done) | (simp only [List.getElem?_toArray, List.getElem?_cons_succ, List.getElem?_cons_zero]; rfl))); (focus (exact Or.inr ⟨by rfl, rfl⟩)); (try simp only [Act.put, List.setIfInBounds_toArray, List.set_cons_zero, List.set_cons_succ]))
        (refine' wpAnyH_take (i := 5) (oi := _) (v := undef) ?_ (by kernel_rfl) (by kernel_rfl) (by kernel_rfl) (fun _ _ _ h => h) ?_ (by assumption) ?_; rotate_left; (focus (first | (simp only [List.getElem?_toArray, List.getElem?_cons_succ, List.getElem?_cons_zero]; done) | (simp only [List.getElem?_toArray, List.getElem?_cons_succ, List.getElem?_cons_zero]; rfl))); (focus (exact Or.inr ⟨by rfl, rfl⟩)); (try simp only [Act.put, List.setIfInBounds_toArray, List.set_cons_zero, List.set_cons_succ]))
        (refine' wpAnyH_take (i := 6) (oi := _) (v := undef) ?_ (by kernel_rfl) (by kernel_rfl) (by kernel_rfl) (fun _ _ _ h => h) ?_ (by assumption) ?_; rotate_left; (focus (first | (simp only [List.getElem?_toArray, List.getElem?_cons_succ, List.getElem?_cons_zero]; done) | (simp only [List.getElem?_toArray, List.getElem?_cons_succ, List.getElem?_cons_zero]; rfl))); (focus (exact Or.inr ⟨by rfl, rfl⟩)); (try simp only [Act.put, List.setIfInBounds_toArray, List.set_cons_zero, List.set_cons_succ]))
        (refine' wpAnyH_take (i := 7) (oi := _) (v := _) ?_ (by kernel_rfl) (by kernel_rfl) (by kernel_rfl) (fun _ _ _ h => h) ?_ (by assumption) ?_; rotate_left; rotate_left; (focus (first | (simp only [List.getElem?_toArray, List.getElem?_cons_succ, List.getElem?_cons_zero]; done) | (simp only [List.getElem?_toArray, List.getElem?_cons_succ, List.getElem?_cons_zero]; rfl))); (focus (refine Or.inl ⟨by rfl, ?_⟩; intro W' hSw; (try dsimp only at hSw); go_simp; try with_reducible rfl)); (try simp only [Act.put, List.setIfInBounds_toArray, List.set_cons_zero, List.set_cons_succ]))
        (refine' wpAnyH_take (i := 8) (oi := _) (v := _) ?_ (by kernel_rfl) (by kernel_rfl) (by kernel_rfl) (fun _ _ _ h => h) ?_ (by assumption) ?_; rotate_left; rotate_left; (focus (first | (simp only [List.getElem?_toArray, List.getElem?_cons_succ, List.getElem?_cons_zero]; done) | (simp only [List.getElem?_toArray, List.getElem?_cons_succ, List.getElem?_cons_zero]; rfl))); (focus (refine Or.inl ⟨by rfl, ?_⟩; intro W' hSw; (try dsimp only at hSw); go_simp; try with_reducible rfl)); (try simp only [Act.put, List.setIfInBounds_toArray, List.set_cons_zero, List.set_cons_succ]))
        (refine' wpAnyH_take (i := 9) (oi := _) (v := undef) ?_ (by kernel_rfl) (by kernel_rfl) (by kernel_rfl) (fun _ _ _ h => h) ?_ (by assumption) ?_; rotate_left; (focus (first | (simp only [List.getElem?_toArray, List.getElem?_cons_succ, List.getElem?_cons_zero]; done) | (simp only [List.getElem?_toArray, List.getElem?_cons_succ, List.getElem?_cons_zero]; rfl))); (focus (exact Or.inr ⟨by rfl, rfl⟩)); (try simp only [Act.put, List.setIfInBounds_toArray, List.set_cons_zero, List.set_cons_succ]))
        (refine' wpAnyH_take (i := 10) (oi := _) (v := undef) ?_ (by kernel_rfl) (by kernel_rfl) (by kernel_rfl) (fun _ _ _ h => h) ?_ (by assumption) ?_; rotate_left; (focus (first | (simp only [List.getElem?_toArray, List.getElem?_cons_succ, List.getElem?_cons_zero]; done) | (simp only [List.getElem?_toArray, List.getElem?_cons_succ, List.getElem?_cons_zero]; rfl))); (focus (exact Or.inr ⟨by rfl, rfl⟩)); (try simp only [Act.put, List.setIfInBounds_toArray, List.set_cons_zero, List.set_cons_succ]))
        (refine' wpAnyH_take (i := 11) (oi := _) (v := undef) ?_ (by kernel_rfl) (by kernel_rfl) (by kernel_rfl) (fun _ _ _ h => h) ?_ (by assumption) ?_; rotate_left; (focus (first | (simp only [List.getElem?_toArray, List.getElem?_cons_succ, List.getElem?_cons_zero]; done) | (simp only [List.getElem?_toArray, List.getElem?_cons_succ, List.getElem?_cons_zero]; rfl))); (focus (exact Or.inr ⟨by rfl, rfl⟩)); (try simp only [Act.put, List.setIfInBounds_toArray, List.set_cons_zero, List.set_cons_succ]))
        (refine' wpAnyH_take (i := 12) (oi := _) (v := undef) ?_ (by kernel_rfl) (by kernel_rfl) (by kernel_rfl) (fun _ _ _ h => h) ?_ (by assumption) ?_; rotate_left; (focus (first | (simp only [List.getElem?_toArray, List.getElem?_cons_succ, List.getElem?_cons_zero]; done) | (simp only [List.getElem?_toArray, List.getElem?_cons_succ, List.getElem?_cons_zero]; rfl))); (focus (exact Or.inr ⟨by rfl, rfl⟩)); (try simp only [Act.put, List.setIfInBounds_toArray, List.set_cons_zero, List.set_cons_succ]))
        (refine' wpAnyH_take (i := 13) (oi := _) (v := undef) ?_ (by kernel_rfl) (by kernel_rfl) (by kernel_rfl) (fun _ _ _ h => h) ?_ (by assumption) ?_; rotate_left; (focus (first | (simp only [List.getElem?_toArray, List.getElem?_cons_succ, List.getElem?_cons_zero]; done) | (simp only [List.getElem?_toArray, List.getElem?_cons_succ, List.getElem?_cons_zero]; rfl))); (focus (exact Or.inr ⟨by rfl, rfl⟩)); (try simp only [Act.put, List.setIfInBounds_toArray, List.set_cons_zero, List.set_cons_succ]))
        (refine' wpAnyH_take (i := 14) (oi := _) (v := undef) ?_ (by kernel_rfl) (by kernel_rfl) (by kernel_rfl) (fun _ _ _ h => h) ?_ (by assumption) ?_; rotate_left; (focus (first | (simp only [List.getElem?_toArray, List.getElem?_cons_succ, List.getElem?_cons_zero]; done) | (simp only [List.getElem?_toArray, List.getElem?_cons_succ, List.getElem?_cons_zero]; rfl))); (focus (exact Or.inr ⟨by rfl, rfl⟩)); (try simp only [Act.put, List.setIfInBounds_toArray, List.set_cons_zero, List.set_cons_succ]))
        (refine' wpAnyH_take (i := 15) (oi := _) (v := undef) ?_ (by kernel_rfl) (by kernel_rfl) (by kernel_rfl) (fun _ _ _ h => h) ?_ (by assumption) ?_; rotate_left; (focus (first | (simp only [List.getElem?_toArray, List.getElem?_cons_succ, List.getElem?_cons_zero]; done) | (simp only [List.getElem?_toArray, List.getElem?_cons_succ, List.getElem?_cons_zero]; rfl))); (focus (exact Or.inr ⟨by rfl, rfl⟩)); (try simp only [Act.put, List.setIfInBounds_toArray, List.set_cons_zero, List.set_cons_succ]))
        (refine' wpAnyH_take (i := 16) (oi := _) (v := _) ?_ (by kernel_rfl) (by kernel_rfl) (by kernel_rfl) (fun _ _ _ h => h) ?_ (by assumption) ?_; rotate_left; rotate_left; (focus (first | (simp only [List.getElem?_toArray, List.getElem?_cons_succ, List.getElem?_cons_zero]; done) | (simp only [List.getElem?_toArray, List.getElem?_cons_succ, List.getElem?_cons_zero]; rfl))); (focus (refine Or.inl ⟨by rfl, ?_⟩; intro W' hSw; (try dsimp only at hSw); go_simp; try with_reducible rfl)); (try simp only [Act.put, List.setIfInBounds_toArray, List.set_cons_zero, List.set_cons_succ]))
        (refine' wpAnyH_take (i := 17) (oi := _) (v := _) ?_ (by kernel_rfl) (by kernel_rfl) (by kernel_rfl) (fun _ _ _ h => h) ?_ (by assumption) ?_; rotate_left; rotate_left; (focus (first | (simp only [List.getElem?_toArray, List.getElem?_cons_succ, List.getElem?_cons_zero]; done) | (simp only [List.getElem?_toArray, List.getElem?_cons_succ, List.getElem?_cons_zero]; rfl))); (focus (refine Or.inl ⟨by rfl, ?_⟩; intro W' hSw; (try dsimp only at hSw); go_simp; try with_reducible rfl)); (try simp only [Act.put, List.setIfInBounds_toArray, List.set_cons_zero, List.set_cons_succ]))
        (refine wpAnyH_ready (rs := [18]) (by kernel_rfl) (by simp) ?_; refine' AllReadyH.cons (o := _) ?_ (fun K hK => ?_) AllReadyH.nil; rotate_left; (focus (first | (simp only [List.getElem?_toArray, List.getElem?_cons_succ, List.getElem?_cons_zero]; done) | (simp only [List.getElem?_toArray, List.getElem?_cons_succ, List.getElem?_cons_zero]; rfl))))
        go_simp
        go_at_call 5
        with_reducible refine (LV.out _ (by exact KW3.out.trans hHeldA.2.2 (fun _ _ h => h.elim))).mono ?_
        rintro e wqL ⟨rfl, hkqL⟩
        go_wp2_with fail
        refine hK.out _ _ ?_ (fun hHeldL => ?_)
        · exact CE3.out _ (hHeldA.2.2.trans (Keep.of_below' hkqL) (fun _ _ h => h))
        clear hK K
        (try simp only [Act.put, List.setIfInBounds_toArray, List.set_cons_zero, List.set_cons_succ])
        (refine' wpAnyH_take (i := 19) (oi := _) (v := _) ?_ (by kernel_rfl) (by kernel_rfl) (by kernel_rfl) (fun _ _ _ h => h) ?_ (by assumption) ?_; rotate_left; rotate_left; (focus (first | (simp only [List.getElem?_toArray, List.getElem?_cons_succ, List.getElem?_cons_zero]; done) | (simp only [List.getElem?_toArray, List.getElem?_cons_succ, List.getElem?_cons_zero]; rfl))); (focus (refine Or.inl ⟨by rfl, ?_⟩; intro W' hSw; (try dsimp only at hSw); go_simp; try with_reducible rfl)); (try simp only [Act.put, List.setIfInBounds_toArray, List.set_cons_zero, List.set_cons_succ]))
        (refine' wpAnyH_take (i := 20) (oi := _) (v := _) ?_ (by kernel_rfl) (by kernel_rfl) (by kernel_rfl) (fun _ _ _ h => h) ?_ (by assumption) ?_; rotate_left; rotate_left; (focus (first | (simp only [List.getElem?_toArray, List.getElem?_cons_succ, List.getElem?_cons_zero]; done) | (simp only [List.getElem?_toArray, List.getElem?_cons_succ, List.getElem?_cons_zero]; rfl))); (focus (refine Or.inl ⟨by rfl, ?_⟩; intro W' hSw; (try dsimp only at hSw); go_simp; try with_reducible rfl)); (try simp only [Act.put, List.setIfInBounds_toArray, List.set_cons_zero, List.set_cons_succ]))
        refine wpAnyH_done (by kernel_rfl) ?_ _
        refine NoPanic.normal ?_
        go_wp2
        go_ret
        exact ⟨rfl, (KW3.out.trans hHeldL.2.2 (fun _ _ h => h.elim)).to_below (Nat.le_refl _)⟩
      | true =>
        cases rb with
        | false =>
          go_upto_region 7 with fail
          refine wp_region_noPanic ?_
          refine wp_region_held_drew (S := fun W' => ((W'.cell? ⟨W.heap.size, 0, none⟩ = some (.int .i64 k1) ∧ W'.cell? ⟨W.heap.size, 1, none⟩ = some (.int .u64 (s1 : Int)) ∧ W'.cell? ⟨W.heap.size, 2, none⟩ = some (.int .i64 c1)) ∧ (W'.cell? ⟨W.heap.size + 1, 0, none⟩ = some (.int .i64 k2) ∧ W'.cell? ⟨W.heap.size + 1, 1, none⟩ = some (.int .u64 (s2 : Int)) ∧ W'.cell? ⟨W.heap.size + 1, 2, none⟩ = some (.int .i64 c2)) ∧ Keep (fun _ => False) w3 W')) (by kernel_rfl) (by exact CE3.out _ (by exact (by repeat first | (with_reducible assumption) | (with_reducible exact Keep.refl _ _) | (with_reducible refine Keep.alloc ?_ _) | (with_reducible refine Keep.drew ?_) | (with_reducible refine Keep.drewN ?_ _) | (with_reducible refine Keep.setCell ?_ (.inl (by first | omega | (simp; done) | (simp; omega) | fail)) _)))) (fun hHeld => ?_)
          (refine' wpAnyH_take (i := 0) (oi := _) (v := _) ?_ (by kernel_rfl) (by kernel_rfl) (by kernel_rfl) (fun _ _ _ h => h) ?_ (by assumption) ?_; rotate_left; rotate_left; (focus (first | (simp only [List.getElem?_toArray, List.getElem?_cons_succ, List.getElem?_cons_zero]; done) | (simp only [List.getElem?_toArray, List.getElem?_cons_succ, List.getElem?_cons_zero]; rfl))); (focus (refine Or.inl ⟨by rfl, ?_⟩; intro W' hSw; (try dsimp only at hSw); go_simp; try with_reducible rfl)); (try simp only [Act.put, List.setIfInBounds_toArray, List.set_cons_zero, List.set_cons_succ]))
          (refine wpAnyH_ready (rs := [1]) (by kernel_rfl) (by simp) ?_; refine' AllReadyH.cons (o := _) ?_ (fun K hK => ?_) AllReadyH.nil; rotate_left; (focus (first | (simp only [List.getElem?_toArray, List.getElem?_cons_succ, List.getElem?_cons_zero]; done) | (simp only [List.getElem?_toArray, List.getElem?_cons_succ, List.getElem?_cons_zero]; rfl))))
          go_simp
          go_at_call 9
          with_reducible refine (RRA.out _).mono ?_
          rintro e wqA ⟨rfl, hkqA⟩
          go_wp2_with fail
          refine hK.out _ _ ?_ (fun hHeldA => ?_)
          · exact CE3.out _ (hHeld.2.2.trans hkqA (fun _ _ h => h))
          clear hK K
          (try simp only [Act.put, List.setIfInBounds_toArray, List.set_cons_zero, List.set_cons_succ])
          (refine' wpAnyH_take (i := 2) (oi := _) (v := _) ?_ (by kernel_rfl) (by kernel_rfl) (by kernel_rfl) (fun _ _ _ h => h) ?_ (by assumption) ?_; rotate_left; rotate_left; (focus (first | (simp only [List.getElem?_toArray, List.getElem?_cons_succ, List.getElem?_cons_zero]; done) | (simp only [List.getElem?_toArray, List.getElem?_cons_succ, List.getElem?_cons_zero]; rfl))); (focus (refine Or.inl ⟨by rfl, ?_⟩; intro W' hSw; (try dsimp only at hSw); go_simp; try with_reducible rfl)); (try simp only [Act.put, List.setIfInBounds_toArray, List.set_cons_zero, List.set_cons_succ]))
          (refine' wpAnyH_take (i := 3) (oi := _) (v := _) ?_ (by kernel_rfl) (by kernel_rfl) (by kernel_rfl) (fun _ _ _ h => h) ?_ (by assumption) ?_; rotate_left; rotate_left; (focus (first | (simp only [List.getElem?_toArray, List.getElem?_cons_succ, List.getElem?_cons_zero]; done) | (simp only [List.getElem?_toArray, List.getElem?_cons_succ, List.getElem?_cons_zero]; rfl))); (focus (refine Or.inl ⟨by rfl, ?_⟩; intro W' hSw; (try dsimp only at hSw); go_simp; try with_reducible rfl)); (try simp only [Act.put, List.setIfInBounds_toArray, List.set_cons_zero, List.set_cons_succ]))
          (refine' wpAnyH_take (i := 4) (oi := _) (v := _) ?_ (by kernel_rfl) (by kernel_rfl) (by kernel_rfl) (fun _ _ _ h => h) ?_ (by assumption) ?_; rotate_left; rotate_left; (focus (first | (simp only [List.getElem?_toArray, List.getElem?_cons_succ, List.getElem?_cons_zero]; done) | (simp only [List.getElem?_toArray, List.getElem?_cons_succ, List.getElem?_cons_zero]; rfl))); (focus (refine Or.inl ⟨by rfl, ?_⟩; intro W' hSw; (try dsimp only at hSw); go_simp; try with_reducible rfl)); (try simp only [Act.put, List.setIfInBounds_toArray, List.set_cons_zero, List.set_cons_succ]))
          (refine wpAnyH_ready (rs := [5]) (by kernel_rfl) (by simp) ?_; refine' AllReadyH.cons (o := _) ?_ (fun K hK => ?_) AllReadyH.nil; rotate_left; (focus (first | (simp only [List.getElem?_toArray, List.getElem?_cons_succ, List.getElem?_cons_zero]; done) | (simp only [List.getElem?_toArray, List.getElem?_cons_succ, List.getElem?_cons_zero]; rfl))))
          go_simp
          go_at_call 9
          with_reducible refine (RRB.out _).mono ?_
          rintro e wqB ⟨rfl, hkqB⟩
          go_wp2_with fail
          refine hK.out _ _ ?_ (fun hHeldB => ?_)
          · exact CE3.out _ (hHeldA.2.2.trans hkqB (fun _ _ h => h))
          clear hK K
          (try simp only [Act.put, List.setIfInBounds_toArray, List.set_cons_zero, List.set_cons_succ])
          (refine' wpAnyH_take (i := 6) (oi := _) (v := _) ?_ (by kernel_rfl) (by kernel_rfl) (by kernel_rfl) (fun _ _ _ h => h) ?_ (by assumption) ?_; rotate_left; rotate_left; (focus (first | (simp only [List.getElem?_toArray, List.getElem?_cons_succ, List.getElem?_cons_zero]; done) | (simp only [List.getElem?_toArray, List.getElem?_cons_succ, List.getElem?_cons_zero]; rfl))); (focus (refine Or.inl ⟨by rfl, ?_⟩; intro W' hSw; (try dsimp only at hSw); go_simp; try with_reducible rfl)); (try simp only [Act.put, List.setIfInBounds_toArray, List.set_cons_zero, List.set_cons_succ]))
          (refine' wpAnyH_take (i := 7) (oi := _) (v := _) ?_ (by kernel_rfl) (by kernel_rfl) (by kernel_rfl) (fun _ _ _ h => h) ?_ (by assumption) ?_; rotate_left; rotate_left; (focus (first | (simp only [List.getElem?_toArray, List.getElem?_cons_succ, List.getElem?_cons_zero]; done) | (simp only [List.getElem?_toArray, List.getElem?_cons_succ, List.getElem?_cons_zero]; rfl))); (focus (refine Or.inl ⟨by rfl, ?_⟩; intro W' hSw; (try dsimp only at hSw); go_simp; try with_reducible rfl)); (try simp only [Act.put, List.setIfInBounds_toArray, List.set_cons_zero, List.set_cons_succ]))
          (refine' wpAnyH_take (i := 8) (oi := _) (v := _) ?_ (by kernel_rfl) (by kernel_rfl) (by kernel_rfl) (fun _ _ _ h => h) ?_ (by assumption) ?_; rotate_left; rotate_left; (focus (first | (simp only [List.getElem?_toArray, List.getElem?_cons_succ, List.getElem?_cons_zero]; done) | (simp only [List.getElem?_toArray, List.getElem?_cons_succ, List.getElem?_cons_zero]; rfl))); (focus (refine Or.inl ⟨by rfl, ?_⟩; intro W' hSw; (try dsimp only at hSw); go_simp; try with_reducible rfl)); (try simp only [Act.put, List.setIfInBounds_toArray, List.set_cons_zero, List.set_cons_succ]))
          (refine' wpAnyH_take (i := 9) (oi := _) (v := undef) ?_ (by kernel_rfl) (by kernel_rfl) (by kernel_rfl) (fun _ _ _ h => h) ?_ (by assumption) ?_; rotate_left; (focus (first | (simp only [List.getElem?_toArray, List.getElem?_cons_succ, List.getElem?_cons_zero]; done) | (simp only [List.getElem?_toArray, List.getElem?_cons_succ, List.getElem?_cons_zero]; rfl))); (focus (exact Or.inr ⟨by rfl, rfl⟩)); (try simp only [Act.put, List.setIfInBounds_toArray, List.set_cons_zero, List.set_cons_succ]))
          (refine' wpAnyH_take (i := 10) (oi := _) (v := undef) ?_ (by kernel_rfl) (by kernel_rfl) (by kernel_rfl) (fun _ _ _ h => h) ?_ (by assumption) ?_; rotate_left; (focus (first | (simp only [List.getElem?_toArray, List.getElem?_cons_succ, List.getElem?_cons_zero]; done) | (simp only [List.getElem?_toArray, List.getElem?_cons_succ, List.getElem?_cons_zero]; rfl))); (focus (exact Or.inr ⟨by rfl, rfl⟩)); (try simp only [Act.put, List.setIfInBounds_toArray, List.set_cons_zero, List.set_cons_succ]))
          (refine' wpAnyH_take (i := 11) (oi := _) (v := undef) ?_ (by kernel_rfl) (by kernel_rfl) (by kernel_rfl) (fun _ _ _ h => h) ?_ (by assumption) ?_; rotate_left; (focus (first | (simp only [List.getElem?_toArray, List.getElem?_cons_succ, List.getElem?_cons_zero]; done) | (simp only [List.getElem?_toArray, List.getElem?_cons_succ, List.getElem?_cons_zero]; rfl))); (focus (exact Or.inr ⟨by rfl, rfl⟩)); (try simp only [Act.put, List.setIfInBounds_toArray, List.set_cons_zero, List.set_cons_succ]))
          (refine' wpAnyH_take (i := 12) (oi := _) (v := undef) ?_ (by kernel_rfl) (by kernel_rfl) (by kernel_rfl) (fun _ _ _ h => h) ?_ (by assumption) ?_; rotate_left; (focus (first | (simp only [List.getElem?_toArray, List.getElem?_cons_succ, List.getElem?_cons_zero]; done) | (simp only [List.getElem?_toArray, List.getElem?_cons_succ, List.getElem?_cons_zero]; rfl))); (focus (exact Or.inr ⟨by rfl, rfl⟩)); (try simp only [Act.put, List.setIfInBounds_toArray, List.set_cons_zero, List.set_cons_succ]))
          (refine' wpAnyH_take (i := 13) (oi := _) (v := undef) ?_ (by kernel_rfl) (by kernel_rfl) (by kernel_rfl) (fun _ _ _ h => h) ?_ (by assumption) ?_; rotate_left; (focus (first | (simp only [List.getElem?_toArray, List.getElem?_cons_succ, List.getElem?_cons_zero]; done) | (simp only [List.getElem?_toArray, List.getElem?_cons_succ, List.getElem?_cons_zero]; rfl))); (focus (exact Or.inr ⟨by rfl, rfl⟩)); (try simp only [Act.put, List.setIfInBounds_toArray, List.set_cons_zero, List.set_cons_succ]))
          (refine' wpAnyH_take (i := 14) (oi := _) (v := undef) ?_ (by kernel_rfl) (by kernel_rfl) (by kernel_rfl) (fun _ _ _ h => h) ?_ (by assumption) ?_; rotate_left; (focus (first | (simp only [List.getElem?_toArray, List.getElem?_cons_succ, List.getElem?_cons_zero]; done) | (simp only [List.getElem?_toArray, List.getElem?_cons_succ, List.getElem?_cons_zero]; rfl))); (focus (exact Or.inr ⟨by rfl, rfl⟩)); (try simp only [Act.put, List.setIfInBounds_toArray, List.set_cons_zero, List.set_cons_succ]))
          (refine' wpAnyH_take (i := 15) (oi := _) (v := undef) ?_ (by kernel_rfl) (by kernel_rfl) (by kernel_rfl) (fun _ _ _ h => h) ?_ (by assumption) ?_; rotate_left; (focus (first | (simp only [List.getElem?_toArray, List.getElem?_cons_succ, List.getElem?_cons_zero]; done) | (simp only [List.getElem?_toArray, List.getElem?_cons_succ, List.getElem?_cons_zero]; rfl))); (focus (exact Or.inr ⟨by rfl, rfl⟩)); (try simp only [Act.put, List.setIfInBounds_toArray, List.set_cons_zero, List.set_cons_succ]))
          (refine' wpAnyH_take (i := 16) (oi := _) (v := _) ?_ (by kernel_rfl) (by kernel_rfl) (by kernel_rfl) (fun _ _ _ h => h) ?_ (by assumption) ?_; rotate_left; rotate_left; (focus (first | (simp only [List.getElem?_toArray, List.getElem?_cons_succ, List.getElem?_cons_zero]; done) | (simp only [List.getElem?_toArray, List.getElem?_cons_succ, List.getElem?_cons_zero]; rfl))); (focus (refine Or.inl ⟨by rfl, ?_⟩; intro W' hSw; (try dsimp only at hSw); go_simp; try with_reducible rfl)); (try simp only [Act.put, List.setIfInBounds_toArray, List.set_cons_zero, List.set_cons_succ]))
          (refine' wpAnyH_take (i := 17) (oi := _) (v := _) ?_ (by kernel_rfl) (by kernel_rfl) (by kernel_rfl) (fun _ _ _ h => h) ?_ (by assumption) ?_; rotate_left; rotate_left; (focus (first | (simp only [List.getElem?_toArray, List.getElem?_cons_succ, List.getElem?_cons_zero]; done) | (simp only [List.getElem?_toArray, List.getElem?_cons_succ, List.getElem?_cons_zero]; rfl))); (focus (refine Or.inl ⟨by rfl, ?_⟩; intro W' hSw; (try dsimp only at hSw); go_simp; try with_reducible rfl)); (try simp only [Act.put, List.setIfInBounds_toArray, List.set_cons_zero, List.set_cons_succ]))
          (refine wpAnyH_ready (rs := [18]) (by kernel_rfl) (by simp) ?_; refine' AllReadyH.cons (o := _) ?_ (fun K hK => ?_) AllReadyH.nil; rotate_left; (focus (first | (simp only [List.getElem?_toArray, List.getElem?_cons_succ, List.getElem?_cons_zero]; done) | (simp only [List.getElem?_toArray, List.getElem?_cons_succ, List.getElem?_cons_zero]; rfl))))
          go_simp
          go_at_call 5
          with_reducible refine (LV.out _ (by exact KW3.out.trans hHeldB.2.2 (fun _ _ h => h.elim))).mono ?_
          rintro e wqL ⟨rfl, hkqL⟩
          go_wp2_with fail
          refine hK.out _ _ ?_ (fun hHeldL => ?_)
          · exact CE3.out _ (hHeldB.2.2.trans (Keep.of_below' hkqL) (fun _ _ h => h))
          clear hK K
          (try simp only [Act.put, List.setIfInBounds_toArray, List.set_cons_zero, List.set_cons_succ])
          (refine' wpAnyH_take (i := 19) (oi := _) (v := _) ?_ (by kernel_rfl) (by kernel_rfl) (by kernel_rfl) (fun _ _ _ h => h) ?_ (by assumption) ?_; rotate_left; rotate_left; (focus (first | (simp only [List.getElem?_toArray, List.getElem?_cons_succ, List.getElem?_cons_zero]; done) | (simp only [List.getElem?_toArray, List.getElem?_cons_succ, List.getElem?_cons_zero]; rfl))); (focus (refine Or.inl ⟨by rfl, ?_⟩; intro W' hSw; (try dsimp only at hSw); go_simp; try with_reducible rfl)); (try simp only [Act.put, List.setIfInBounds_toArray, List.set_cons_zero, List.set_cons_succ]))
          (refine' wpAnyH_take (i := 20) (oi := _) (v := _) ?_ (by kernel_rfl) (by kernel_rfl) (by kernel_rfl) (fun _ _ _ h => h) ?_ (by assumption) ?_; rotate_left; rotate_left; (focus (first | (simp only [List.getElem?_toArray, List.getElem?_cons_succ, List.getElem?_cons_zero]; done) | (simp only [List.getElem?_toArray, List.getElem?_cons_succ, List.getElem?_cons_zero]; rfl))); (focus (refine Or.inl ⟨by rfl, ?_⟩; intro W' hSw; (try dsimp only at hSw); go_simp; try with_reducible rfl)); (try simp only [Act.put, List.setIfInBounds_toArray, List.set_cons_zero, List.set_cons_succ]))
          refine wpAnyH_done (by kernel_rfl) ?_ _
          refine NoPanic.normal ?_
          go_wp2
          go_ret
          exact ⟨rfl, (KW3.out.trans hHeldL.2.2 (fun _ _ h => h.elim)).to_below (Nat.le_refl _)⟩
        | true =>
          have ezr : (zo == zr) = true := by
            have := OR.out (by first | rfl | trivial) (by first | rfl | trivial)
            simpa using this
          go_upto_region 7 with fail
          go_region_held3 (fun W' => ((W'.cell? ⟨W.heap.size, 0, none⟩ = some (.int .i64 k1) ∧ W'.cell? ⟨W.heap.size, 1, none⟩ = some (.int .u64 (s1 : Int)) ∧ W'.cell? ⟨W.heap.size, 2, none⟩ = some (.int .i64 c1)) ∧ (W'.cell? ⟨W.heap.size + 1, 0, none⟩ = some (.int .i64 k2) ∧ W'.cell? ⟨W.heap.size + 1, 1, none⟩ = some (.int .u64 (s2 : Int)) ∧ W'.cell? ⟨W.heap.size + 1, 2, none⟩ = some (.int .i64 c2)) ∧ Keep (fun _ => False) w3 W')) (exact CE3.out _ (by exact (by repeat first | (with_reducible assumption) | (with_reducible exact Keep.refl _ _) | (with_reducible refine Keep.alloc ?_ _) | (with_reducible refine Keep.drew ?_) | (with_reducible refine Keep.drewN ?_ _) | (with_reducible refine Keep.setCell ?_ (.inl (by first | omega | (simp; done) | (simp; omega) | fail)) _)))) (first
              | (go_at_call 8; (first | (with_reducible refine (FRA.out _).mono ?_) | (with_reducible refine (FRB.out _).mono ?_)); rintro e w4 ⟨rfl, hk4⟩; have k4 : Keep (fun _ => False) w3 w4 := Keep.trans (T := fun _ => False) (by exact (by repeat first | (with_reducible assumption) | (with_reducible exact Keep.refl _ _) | (with_reducible refine Keep.alloc ?_ _) | (with_reducible refine Keep.drew ?_) | (with_reducible refine Keep.drewN ?_ _) | (with_reducible refine Keep.setCell ?_ (.inl (by first | omega | (simp; done) | (simp; omega) | fail)) _))) hk4 (fun _ _ h => h); clear hk4)
              | (go_at_call 9; (first | (with_reducible refine (RRA.out _).mono ?_) | (with_reducible refine (RRB.out _).mono ?_)); rintro e w4 ⟨rfl, hk4⟩; have k4 : Keep (fun _ => False) w3 w4 := Keep.trans (T := fun _ => False) (by exact (by repeat first | (with_reducible assumption) | (with_reducible exact Keep.refl _ _) | (with_reducible refine Keep.alloc ?_ _) | (with_reducible refine Keep.drew ?_) | (with_reducible refine Keep.drewN ?_ _) | (with_reducible refine Keep.setCell ?_ (.inl (by first | omega | (simp; done) | (simp; omega) | fail)) _))) hk4 (fun _ _ h => h); clear hk4)
              | (go_at_call 10; (with_reducible refine (FO.out _).mono ?_); rintro e w5 ⟨rfl, hk5⟩; have k5 : Keep (fun _ => False) w3 w5 := Keep.trans (T := fun _ => False) (by exact (by repeat first | (with_reducible assumption) | (with_reducible exact Keep.refl _ _) | (with_reducible refine Keep.alloc ?_ _) | (with_reducible refine Keep.drew ?_) | (with_reducible refine Keep.drewN ?_ _) | (with_reducible refine Keep.setCell ?_ (.inl (by first | omega | (simp; done) | (simp; omega) | fail)) _))) hk5 (fun _ _ h => h); clear hk5)
              | (go_at_call 12; (with_reducible refine (RO.out _).mono ?_); rintro e w5 ⟨rfl, hk5⟩; have k5 : Keep (fun _ => False) w3 w5 := Keep.trans (T := fun _ => False) (by exact (by repeat first | (with_reducible assumption) | (with_reducible exact Keep.refl _ _) | (with_reducible refine Keep.alloc ?_ _) | (with_reducible refine Keep.drew ?_) | (with_reducible refine Keep.drewN ?_ _) | (with_reducible refine Keep.setCell ?_ (.inl (by first | omega | (simp; done) | (simp; omega) | fail)) _))) hk5 (fun _ _ h => h); clear hk5)
              | (go_at_call 11; (with_reducible refine (SB.out _ (by exact (by repeat first | (with_reducible assumption) | (with_reducible exact Keep.refl _ _) | (with_reducible refine Keep.alloc ?_ _) | (with_reducible refine Keep.drew ?_) | (with_reducible refine Keep.drewN ?_ _) | (with_reducible refine Keep.setCell ?_ (.inl (by first | omega | (simp; done) | (simp; omega) | fail)) _)))).mono ?_); rintro e w5 ⟨rfl, rfl⟩)
              | (go_at_call 5; (with_reducible refine (LV.out _ (by exact KW3.out.trans (T := fun b => W.heap.size ≤ b) (Keep.mono (S := fun _ => False) (by exact (by repeat first | (with_reducible assumption) | (with_reducible exact Keep.refl _ _) | (with_reducible refine Keep.alloc ?_ _) | (with_reducible refine Keep.drew ?_) | (with_reducible refine Keep.drewN ?_ _) | (with_reducible refine Keep.setCell ?_ (.inl (by first | omega | (simp; done) | (simp; omega) | fail)) _))) (fun _ _ h => h.elim)) (fun _ _ h => h))).mono ?_); rintro e w6 ⟨rfl, hb6⟩; have k6 : Keep (fun _ => False) w3 w6 := Keep.trans (T := fun _ => False) (by exact (by repeat first | (with_reducible assumption) | (with_reducible exact Keep.refl _ _) | (with_reducible refine Keep.alloc ?_ _) | (with_reducible refine Keep.drew ?_) | (with_reducible refine Keep.drewN ?_ _) | (with_reducible refine Keep.setCell ?_ (.inl (by first | omega | (simp; done) | (simp; omega) | fail)) _))) (Keep.of_below' hb6) (fun _ _ h => h); clear hb6)
              | fail)
          all_goals
            go_wp2
            go_ret
            exact ⟨rfl, (KW3.out.trans (T := fun b => W.heap.size ≤ b) (Keep.mono (S := fun _ => False) (by exact (by repeat first | (with_reducible assumption) | (with_reducible exact Keep.refl _ _) | (with_reducible refine Keep.alloc ?_ _) | (with_reducible refine Keep.drew ?_) | (with_reducible refine Keep.drewN ?_ _) | (with_reducible refine Keep.setCell ?_ (.inl (by first | omega | (simp; done) | (simp; omega) | fail)) _))) (fun _ _ h => h.elim)) (fun _ _ h => h)).to_below (Nat.le_refl _)⟩
end Go.Proofs.YtdeifjnhbdkkgaaGreatDoor

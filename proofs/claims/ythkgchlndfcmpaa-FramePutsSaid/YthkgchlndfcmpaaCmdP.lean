/- Contracts of cmd.target, cmd.Put, vivariumlaw13.live. -/
import Derived.Test.YthkgchlndfcmpaaCmd1
import Derived.Test.YthkgchlndfcmpaaLe2
import Derived.Test.YthkgchlndfcmpaaCells
import Derived.Deep.RegionHeld3
namespace Go.Proofs.Ythkgchlndfcmpaa
open Go.RowKit
set_option maxRecDepth 100000
set_option linter.unusedVariables false

/-- What target adds. -/
def targetC (x : Cmd) : List UInt8 := if x.loc then leB (word 1) 1 ++ leB (word x.idx) 8 else leB (word 0) 1 ++ (leB (word x.idx) 8 ++ leB (word x.gen) 8)
/-- A call that leaves bytes of its own. -/
def BytesPost (w : World) (l : List UInt8) (e : Ending) (w' : World) : Prop := ∃ A n c, e = .returned (.slice A n c) ∧ By w' (fun b => w.heap.size ≤ b) (.slice A n c) l ∧ Below w.heap.size w w'
theorem putP (l : List UInt8) (v : Value) (F : Nat → Prop) (width n : Int) (w : World) (hv : By w F v l) (hn : l.length ≤ 35184372088832) :
    Calls Try.prog 95 #[v, .int .i64 width, .int .i64 n] w (BytesPost w (l ++ leB (word n) (wideN width))) :=
  (put_any l v F width n w hv hn).mono fun e w' ⟨u, he, ho, hb⟩ => by
    obtain ⟨A, c, rfl, _⟩ := ho.form
    exact ⟨A, _, c, he, sl_by ho.sl, hb⟩
theorem target_t (d idx gen comp : Int) (B : Option Addr) (m c2 : Nat) (l : List UInt8) (v : Value) (F : Nat → Prop) (w : World) (hv : By w F v l) (hn : l.length ≤ 17592186044416) :
    Calls Try.prog 126 #[v, .agg #[.int .i64 d, .bool true, .int .i64 idx, .int .i64 gen, .int .i64 comp, .slice B m c2]] w (BytesPost w (l ++ (leB (word 1) 1 ++ leB (word idx) 8))) := by
  have P1 := Lib.hid (fun W (hk : Keep (fun _ => False) w W) => putP l v F 1 1 W (hv.keep hk (fun _ _ _ h => h)) (by omega))
  have E := Lib.hid (show ((l ++ leB (word 1) (wideN 1)) ++ leB (word idx) (wideN 8)) = l ++ (leB (word 1) 1 ++ leB (word idx) 8) by rw [show wideN 1 = 1 from rfl, show wideN 8 = 8 from rfl]; simp [List.append_assoc])
  have L1 := Lib.hid (show (l ++ leB (word 1) (wideN 1)).length ≤ 35184372088832 by rw [List.length_append, leB_len]; have := wideN_in 1; omega)
  have L2 := Lib.hid (show ((l ++ leB (word 1) (wideN 1)) ++ leB (word idx) (wideN 8)).length ≤ 35184372088832 by rw [List.length_append, List.length_append, leB_len, leB_len]; have := wideN_in 1; have := wideN_in 8; omega)
  rw [← E.out]
  obtain ⟨A, c, rfl, _, _, _, _⟩ := hv
  generalize l.length = n at *
  clear hn
  go_enter Try.func126, Try.ntmps126
  go_wp2
  go_region_held3 (fun w' => w'.cell? ⟨w.heap.size, 2, none⟩ = some (.int .i64 idx) ∧ w'.cell? ⟨w.heap.size, 3, none⟩ = some (.int .i64 gen)) (go_keep)
    (first
      | (go_at_call 95; refine (P1.out _ (by exact (by repeat first | exact Keep.refl _ _ | refine Keep.alloc ?_ _ | refine Keep.drew ?_ | refine Keep.drewN ?_ _))).mono ?_; rintro e w1 ⟨A1, n1, c1, rfl, hby1, hb1⟩; have b1 : w1.heap[w.heap.size]? = some (.cells #[.int .i64 d, .bool true, .int .i64 idx, .int .i64 gen, .int .i64 comp, .slice B m c2] 39 (0, 0)) := (hb1.block _ (by first | omega | (simp; done) | (simp; omega))).trans (by (try simp only [heap_drew']); (try simp only [World.heap_drewN]); repeat (first | exact heap_alloc_at _ _ _ (by first | rfl | simp) | rw [Below.heap_alloc _ _ _ (by first | (simp; done) | (simp; omega))])); obtain ⟨y0, y1, y2, y3, y4, y5, yf⟩ := cells6 b1; have H1 := Lib.hid (And.intro hby1 (And.intro b1 (And.intro (show Keep (fun _ => False) w w1 from Keep.trans (T := fun _ => False) (by repeat first | exact Keep.refl _ _ | refine Keep.alloc ?_ _ | refine Keep.drew ?_ | refine Keep.drewN ?_ _) (Keep.of_below' hb1) (fun _ _ h => h)) (show w.heap.size < w1.heap.size from (Array.getElem?_eq_some_iff.1 b1).1)))); clear hby1 b1 hb1 P1)
      | (go_at_call 95; refine (putP _ _ _ 8 idx _ H1.out.1 L1.out).mono ?_; rintro e w2 ⟨A2, n2, c2', rfl, hby2, hb2⟩; have b2 := (hb2.block _ H1.out.2.2.2).trans H1.out.2.1; clear y0 y1 y2 y3 y4 y5 yf; obtain ⟨y0, y1, y2, y3, y4, y5, yf⟩ := cells6 b2; have H2 := Lib.hid (And.intro hby2 (And.intro b2 (show Keep (fun _ => False) w w2 from H1.out.2.2.1.trans (Keep.of_below' hb2) (fun _ _ h => h)))); have Z2 := Lib.hid (And.intro H1.out.2.2.1.size hb2.size); clear hby2 b2 hb2 L1)
      | fail)
  go_wp2
  go_ret
  exact ⟨A2, n2, c2', rfl, H2.out.1.mono (fun b _ h => by have := Z2.out; omega), H2.out.2.2.to_below'⟩
theorem target_f (d idx gen comp : Int) (B : Option Addr) (m c2 : Nat) (l : List UInt8) (v : Value) (F : Nat → Prop) (w : World) (hv : By w F v l) (hn : l.length ≤ 17592186044416) :
    Calls Try.prog 126 #[v, .agg #[.int .i64 d, .bool false, .int .i64 idx, .int .i64 gen, .int .i64 comp, .slice B m c2]] w (BytesPost w (l ++ (leB (word 0) 1 ++ (leB (word idx) 8 ++ leB (word gen) 8)))) := by
  have P1 := Lib.hid (fun W (hk : Keep (fun _ => False) w W) => putP l v F 1 0 W (hv.keep hk (fun _ _ _ h => h)) (by omega))
  have E := Lib.hid (show (((l ++ leB (word 0) (wideN 1)) ++ leB (word idx) (wideN 8)) ++ leB (word gen) (wideN 8)) = l ++ (leB (word 0) 1 ++ (leB (word idx) 8 ++ leB (word gen) 8)) by rw [show wideN 1 = 1 from rfl, show wideN 8 = 8 from rfl]; simp [List.append_assoc])
  have L1 := Lib.hid (show (l ++ leB (word 0) (wideN 1)).length ≤ 35184372088832 by rw [List.length_append, leB_len]; have := wideN_in 1; omega)
  have L2 := Lib.hid (show ((l ++ leB (word 0) (wideN 1)) ++ leB (word idx) (wideN 8)).length ≤ 35184372088832 by rw [List.length_append, List.length_append, leB_len, leB_len]; have := wideN_in 1; have := wideN_in 8; omega)
  rw [← E.out]
  obtain ⟨A, c, rfl, _, _, _, _⟩ := hv
  generalize l.length = n at *
  clear hn
  go_enter Try.func126, Try.ntmps126
  go_wp2
  go_region_held3 (fun w' => w'.cell? ⟨w.heap.size, 2, none⟩ = some (.int .i64 idx) ∧ w'.cell? ⟨w.heap.size, 3, none⟩ = some (.int .i64 gen)) (go_keep)
    (first
      | (go_at_call 95; refine (P1.out _ (by exact (by repeat first | exact Keep.refl _ _ | refine Keep.alloc ?_ _ | refine Keep.drew ?_ | refine Keep.drewN ?_ _))).mono ?_; rintro e w1 ⟨A1, n1, c1, rfl, hby1, hb1⟩; have b1 : w1.heap[w.heap.size]? = some (.cells #[.int .i64 d, .bool false, .int .i64 idx, .int .i64 gen, .int .i64 comp, .slice B m c2] 39 (0, 0)) := (hb1.block _ (by first | omega | (simp; done) | (simp; omega))).trans (by (try simp only [heap_drew']); (try simp only [World.heap_drewN]); repeat (first | exact heap_alloc_at _ _ _ (by first | rfl | simp) | rw [Below.heap_alloc _ _ _ (by first | (simp; done) | (simp; omega))])); obtain ⟨y0, y1, y2, y3, y4, y5, yf⟩ := cells6 b1; have H1 := Lib.hid (And.intro hby1 (And.intro b1 (And.intro (show Keep (fun _ => False) w w1 from Keep.trans (T := fun _ => False) (by repeat first | exact Keep.refl _ _ | refine Keep.alloc ?_ _ | refine Keep.drew ?_ | refine Keep.drewN ?_ _) (Keep.of_below' hb1) (fun _ _ h => h)) (show w.heap.size < w1.heap.size from (Array.getElem?_eq_some_iff.1 b1).1)))); clear hby1 b1 hb1 P1)
      | (go_at_call 95; refine (putP _ _ _ 8 idx _ H1.out.1 L1.out).mono ?_; rintro e w2 ⟨A2, n2, c2', rfl, hby2, hb2⟩; have b2 := (hb2.block _ H1.out.2.2.2).trans H1.out.2.1; clear y0 y1 y2 y3 y4 y5 yf; obtain ⟨y0, y1, y2, y3, y4, y5, yf⟩ := cells6 b2; have H2 := Lib.hid (And.intro hby2 (And.intro b2 (show Keep (fun _ => False) w w2 from H1.out.2.2.1.trans (Keep.of_below' hb2) (fun _ _ h => h)))); have Z2 := Lib.hid (And.intro H1.out.2.2.1.size hb2.size); clear hby2 b2 hb2 L1)
      | (go_at_call 95; refine (putP _ _ _ 8 gen _ H2.out.1 L2.out).mono ?_; rintro e w3 ⟨A3, n3, c3', rfl, hby3, hb3⟩; have b3 := (hb3.block _ (Array.getElem?_eq_some_iff.1 H2.out.2.1).1).trans H2.out.2.1; clear y0 y1 y2 y3 y4 y5 yf; obtain ⟨y0, y1, y2, y3, y4, y5, yf⟩ := cells6 b3; have H3 := Lib.hid (And.intro hby3 (show Keep (fun _ => False) w w3 from H2.out.2.2.trans (Keep.of_below' hb3) (fun _ _ h => h))); have Z3 := Lib.hid hb3.size; clear hby3 b3 hb3 L2)
      | fail)
  go_wp2
  go_ret
  exact ⟨A3, n3, c3', rfl, H3.out.1.mono (fun b _ h => by have := Z2.out; have := H2.out.2.2.size; omega), H3.out.2.to_below'⟩
end Go.Proofs.Ythkgchlndfcmpaa
namespace Go.Proofs.Ythkgchlndfcmpaa
open Go.RowKit
set_option maxRecDepth 100000
set_option linter.unusedVariables false

theorem cput_not (d idx gen comp : Int) (loc : Bool) (B : Option Addr) (m c2 : Nat) (l : List UInt8) (v : Value) (F : Nat → Prop) (w : World) (hv : By w F v l) (hn : l.length ≤ 1099511627776) (hd : knownC d = false) :
    Calls Try.prog 105 #[v, .agg #[.int .i64 d, .bool loc, .int .i64 idx, .int .i64 gen, .int .i64 comp, .slice B m c2]] w (BytesPost w (l ++ [255])) := by
  have K := Lib.hid (known_any d)
  rw [hd] at K
  have P1 := Lib.hid (fun W (hk : Keep (fun _ => False) w W) => putP l v F 1 255 W (hv.keep hk (fun _ _ _ h => h)) (by omega))
  rw [show leB (word 255) (wideN 1) = [255] from rfl] at P1
  clear hd
  obtain ⟨A, c, rfl, _, _, _, _⟩ := hv
  generalize l.length = n at *
  clear hn
  go_enter Try.func105, Try.ntmps105
  go_wp2_with fail
  refine (K.out _).mono ?_
  rintro e w1 ⟨rfl, rfl⟩
  go_wp2_with fail
  refine (P1.out _ (by exact (by repeat first | exact Keep.refl _ _ | refine Keep.alloc ?_ _ | refine Keep.drew ?_ | refine Keep.drewN ?_ _))).mono ?_
  rintro e w1 ⟨A1, n1, c1, rfl, hby1, hb1⟩
  have H1 := Lib.hid (And.intro (hby1.mono (G := fun b => w.heap.size ≤ b) (fun b _ h => by simp at h; omega)) (show Keep (fun _ => False) w w1 from Keep.trans (T := fun _ => False) (by repeat first | exact Keep.refl _ _ | refine Keep.alloc ?_ _ | refine Keep.drew ?_ | refine Keep.drewN ?_ _) (Keep.of_below' hb1) (fun _ _ h => h)))
  clear hby1 hb1
  go_wp2
  go_ret
  exact ⟨A1, n1, c1, rfl, H1.out.1, H1.out.2.to_below'⟩

theorem cput_0 (idx gen comp : Int) (loc : Bool) (B : Option Addr) (m c2 : Nat) (l : List UInt8) (v : Value) (F : Nat → Prop) (w : World) (hv : By w F v l) (hn : l.length ≤ 1099511627776) :
    Calls Try.prog 105 #[v, .agg #[.int .i64 0, .bool loc, .int .i64 idx, .int .i64 gen, .int .i64 comp, .slice B m c2]] w (BytesPost w (l ++ [0])) := by
  have K := Lib.hid (known_any 0)
  rw [show knownC 0 = true from rfl] at K
  have P1 := Lib.hid (fun W (hk : Keep (fun _ => False) w W) => putP l v F 1 0 W (hv.keep hk (fun _ _ _ h => h)) (by omega))
  rw [show leB (word 0) (wideN 1) = [0] from rfl] at P1
  obtain ⟨A, c, rfl, _, _, _, _⟩ := hv
  generalize l.length = n at *
  clear hn
  go_enter Try.func105, Try.ntmps105
  go_wp2_with fail
  refine (K.out _).mono ?_
  rintro e w1 ⟨rfl, rfl⟩
  go_wp2_with fail
  refine (P1.out _ (by exact (by repeat first | exact Keep.refl _ _ | refine Keep.alloc ?_ _ | refine Keep.drew ?_ | refine Keep.drewN ?_ _))).mono ?_
  rintro e w1 ⟨A1, n1, c1, rfl, hby1, hb1⟩
  have b1 : w1.heap[w.heap.size]? = some (.cells #[.int .i64 0, .bool loc, .int .i64 idx, .int .i64 gen, .int .i64 comp, .slice B m c2] 39 (0, 0)) := (hb1.block _ (by first | omega | (simp; done) | (simp; omega))).trans (by (try simp only [heap_drew']); (try simp only [World.heap_drewN]); repeat (first | exact heap_alloc_at _ _ _ (by first | rfl | simp) | rw [Below.heap_alloc _ _ _ (by first | (simp; done) | (simp; omega))]))
  obtain ⟨y0, y1, y2, y3, y4, y5, yf⟩ := cells6 b1
  have H1 := Lib.hid (And.intro (hby1.mono (G := fun b => w.heap.size ≤ b) (fun b _ h => by simp at h; omega)) (show Keep (fun _ => False) w w1 from Keep.trans (T := fun _ => False) (by repeat first | exact Keep.refl _ _ | refine Keep.alloc ?_ _ | refine Keep.drew ?_ | refine Keep.drewN ?_ _) (Keep.of_below' hb1) (fun _ _ h => h)))
  clear hby1 hb1 b1
  go_wp2
  go_ret
  exact ⟨A1, n1, c1, rfl, H1.out.1, H1.out.2.to_below'⟩

theorem cput_1t (idx gen comp : Int) (B : Option Addr) (m c2 : Nat) (l : List UInt8) (v : Value) (F : Nat → Prop) (w : World) (hv : By w F v l) (hn : l.length ≤ 1099511627776) :
    Calls Try.prog 105 #[v, .agg #[.int .i64 1, .bool true, .int .i64 idx, .int .i64 gen, .int .i64 comp, .slice B m c2]] w (BytesPost w (l ++ (leB (word 1) 1 ++ (leB (word 1) 1 ++ leB (word idx) 8)))) := by
  have K := Lib.hid (known_any 1)
  rw [show knownC 1 = true from rfl] at K
  have P1 := Lib.hid (fun W (hk : Keep (fun _ => False) w W) => putP l v F 1 1 W (hv.keep hk (fun _ _ _ h => h)) (by omega))
  have E := Lib.hid (show ((l ++ leB (word 1) (wideN 1)) ++ (leB (word 1) 1 ++ leB (word idx) 8)) = l ++ (leB (word 1) 1 ++ (leB (word 1) 1 ++ leB (word idx) 8)) by rw [show wideN 1 = 1 from rfl]; simp [List.append_assoc])
  rw [← E.out]
  have LA := Lib.hid (show (l ++ leB (word 1) (wideN 1)).length ≤ 17592186044416 by have := wideN_in 1; simp only [List.length_append, leB_len]; omega)
  have LB := Lib.hid (show ((l ++ leB (word 1) (wideN 1)) ++ (leB (word 1) 1 ++ leB (word idx) 8)).length ≤ 35184372088832 by have := wideN_in 1; simp only [List.length_append, leB_len]; omega)
  have LX := Lib.hid (show (((l ++ leB (word 1) (wideN 1)) ++ (leB (word 1) 1 ++ leB (word idx) 8)) ++ leB (word comp) (wideN 8)).length ≤ 35184372088832 by have := wideN_in 1; have := wideN_in 8; simp only [List.length_append, leB_len]; omega)
  have L4 := Lib.hid (show ((((l ++ leB (word 1) (wideN 1)) ++ (leB (word 1) 1 ++ leB (word idx) 8)) ++ leB (word comp) (wideN 8)) ++ leB (word (m : Nat)) (wideN 2)).length ≤ 1099511627876 by have := wideN_in 1; have := wideN_in 8; have := wideN_in 2; simp only [List.length_append, leB_len]; omega)
  obtain ⟨A, c, rfl, _, _, _, _⟩ := hv
  generalize l.length = n at *
  clear hn
  go_enter Try.func105, Try.ntmps105
  go_wp2_with fail
  refine (K.out _).mono ?_
  rintro e w1 ⟨rfl, rfl⟩
  go_wp2_with fail
  refine (P1.out _ (by exact (by repeat first | exact Keep.refl _ _ | refine Keep.alloc ?_ _ | refine Keep.drew ?_ | refine Keep.drewN ?_ _))).mono ?_
  rintro e w1 ⟨A1, n1, c1, rfl, hby1, hb1⟩
  have b1 : w1.heap[w.heap.size]? = some (.cells #[.int .i64 1, .bool true, .int .i64 idx, .int .i64 gen, .int .i64 comp, .slice B m c2] 39 (0, 0)) := (hb1.block _ (by first | omega | (simp; done) | (simp; omega))).trans (by (try simp only [heap_drew']); (try simp only [World.heap_drewN]); repeat (first | exact heap_alloc_at _ _ _ (by first | rfl | simp) | rw [Below.heap_alloc _ _ _ (by first | (simp; done) | (simp; omega))]))
  obtain ⟨y0, y1, y2, y3, y4, y5, yf⟩ := cells6 b1
  have H1 := Lib.hid (And.intro hby1 (And.intro b1 (And.intro (show Keep (fun _ => False) w w1 from Keep.trans (T := fun _ => False) (by repeat first | exact Keep.refl _ _ | refine Keep.alloc ?_ _ | refine Keep.drew ?_ | refine Keep.drewN ?_ _) (Keep.of_below' hb1) (fun _ _ h => h)) (show w.heap.size < w1.heap.size from (Array.getElem?_eq_some_iff.1 b1).1))))
  clear hby1 b1 hb1
  go_wp2_with fail
  refine (target_t 1 idx gen comp B m c2 _ _ _ _ H1.out.1 LA.out).mono ?_
  rintro e w2 ⟨A2, n2, c12, rfl, hby, hb⟩
  have b1 := (hb.block _ (Array.getElem?_eq_some_iff.1 H1.out.2.1).1).trans H1.out.2.1
  clear y0 y1 y2 y3 y4 y5 yf
  obtain ⟨y0, y1, y2, y3, y4, y5, yf⟩ := cells6 b1
  have H2 := Lib.hid (And.intro hby (And.intro b1 (And.intro (show Keep (fun _ => False) w w2 from H1.out.2.2.1.trans (Keep.of_below' hb) (fun _ _ h => h)) (Nat.lt_of_lt_of_le H1.out.2.2.2 hb.size))))
  have Z2 := Lib.hid hb.size
  clear hby b1 hb
  go_wp2
  go_ret
  exact ⟨A2, n2, c12, rfl, H2.out.1.mono (fun b _ h => by have := H2.out.2.2.1.size; have := Z2.out; have := H1.out.2.2.1.size; omega), H2.out.2.2.1.to_below'⟩

theorem cput_1f (idx gen comp : Int) (B : Option Addr) (m c2 : Nat) (l : List UInt8) (v : Value) (F : Nat → Prop) (w : World) (hv : By w F v l) (hn : l.length ≤ 1099511627776) :
    Calls Try.prog 105 #[v, .agg #[.int .i64 1, .bool false, .int .i64 idx, .int .i64 gen, .int .i64 comp, .slice B m c2]] w (BytesPost w (l ++ (leB (word 1) 1 ++ (leB (word 0) 1 ++ (leB (word idx) 8 ++ leB (word gen) 8))))) := by
  have K := Lib.hid (known_any 1)
  rw [show knownC 1 = true from rfl] at K
  have P1 := Lib.hid (fun W (hk : Keep (fun _ => False) w W) => putP l v F 1 1 W (hv.keep hk (fun _ _ _ h => h)) (by omega))
  have E := Lib.hid (show ((l ++ leB (word 1) (wideN 1)) ++ (leB (word 0) 1 ++ (leB (word idx) 8 ++ leB (word gen) 8))) = l ++ (leB (word 1) 1 ++ (leB (word 0) 1 ++ (leB (word idx) 8 ++ leB (word gen) 8))) by rw [show wideN 1 = 1 from rfl]; simp [List.append_assoc])
  rw [← E.out]
  have LA := Lib.hid (show (l ++ leB (word 1) (wideN 1)).length ≤ 17592186044416 by have := wideN_in 1; simp only [List.length_append, leB_len]; omega)
  have LB := Lib.hid (show ((l ++ leB (word 1) (wideN 1)) ++ (leB (word 0) 1 ++ (leB (word idx) 8 ++ leB (word gen) 8))).length ≤ 35184372088832 by have := wideN_in 1; simp only [List.length_append, leB_len]; omega)
  have LX := Lib.hid (show (((l ++ leB (word 1) (wideN 1)) ++ (leB (word 0) 1 ++ (leB (word idx) 8 ++ leB (word gen) 8))) ++ leB (word comp) (wideN 8)).length ≤ 35184372088832 by have := wideN_in 1; have := wideN_in 8; simp only [List.length_append, leB_len]; omega)
  have L4 := Lib.hid (show ((((l ++ leB (word 1) (wideN 1)) ++ (leB (word 0) 1 ++ (leB (word idx) 8 ++ leB (word gen) 8))) ++ leB (word comp) (wideN 8)) ++ leB (word (m : Nat)) (wideN 2)).length ≤ 1099511627876 by have := wideN_in 1; have := wideN_in 8; have := wideN_in 2; simp only [List.length_append, leB_len]; omega)
  obtain ⟨A, c, rfl, _, _, _, _⟩ := hv
  generalize l.length = n at *
  clear hn
  go_enter Try.func105, Try.ntmps105
  go_wp2_with fail
  refine (K.out _).mono ?_
  rintro e w1 ⟨rfl, rfl⟩
  go_wp2_with fail
  refine (P1.out _ (by exact (by repeat first | exact Keep.refl _ _ | refine Keep.alloc ?_ _ | refine Keep.drew ?_ | refine Keep.drewN ?_ _))).mono ?_
  rintro e w1 ⟨A1, n1, c1, rfl, hby1, hb1⟩
  have b1 : w1.heap[w.heap.size]? = some (.cells #[.int .i64 1, .bool false, .int .i64 idx, .int .i64 gen, .int .i64 comp, .slice B m c2] 39 (0, 0)) := (hb1.block _ (by first | omega | (simp; done) | (simp; omega))).trans (by (try simp only [heap_drew']); (try simp only [World.heap_drewN]); repeat (first | exact heap_alloc_at _ _ _ (by first | rfl | simp) | rw [Below.heap_alloc _ _ _ (by first | (simp; done) | (simp; omega))]))
  obtain ⟨y0, y1, y2, y3, y4, y5, yf⟩ := cells6 b1
  have H1 := Lib.hid (And.intro hby1 (And.intro b1 (And.intro (show Keep (fun _ => False) w w1 from Keep.trans (T := fun _ => False) (by repeat first | exact Keep.refl _ _ | refine Keep.alloc ?_ _ | refine Keep.drew ?_ | refine Keep.drewN ?_ _) (Keep.of_below' hb1) (fun _ _ h => h)) (show w.heap.size < w1.heap.size from (Array.getElem?_eq_some_iff.1 b1).1))))
  clear hby1 b1 hb1
  go_wp2_with fail
  refine (target_f 1 idx gen comp B m c2 _ _ _ _ H1.out.1 LA.out).mono ?_
  rintro e w2 ⟨A2, n2, c12, rfl, hby, hb⟩
  have b1 := (hb.block _ (Array.getElem?_eq_some_iff.1 H1.out.2.1).1).trans H1.out.2.1
  clear y0 y1 y2 y3 y4 y5 yf
  obtain ⟨y0, y1, y2, y3, y4, y5, yf⟩ := cells6 b1
  have H2 := Lib.hid (And.intro hby (And.intro b1 (And.intro (show Keep (fun _ => False) w w2 from H1.out.2.2.1.trans (Keep.of_below' hb) (fun _ _ h => h)) (Nat.lt_of_lt_of_le H1.out.2.2.2 hb.size))))
  have Z2 := Lib.hid hb.size
  clear hby b1 hb
  go_wp2
  go_ret
  exact ⟨A2, n2, c12, rfl, H2.out.1.mono (fun b _ h => by have := H2.out.2.2.1.size; have := Z2.out; have := H1.out.2.2.1.size; omega), H2.out.2.2.1.to_below'⟩

theorem cput_3t (idx gen comp : Int) (B : Option Addr) (m c2 : Nat) (l : List UInt8) (v : Value) (F : Nat → Prop) (w : World) (hv : By w F v l) (hn : l.length ≤ 1099511627776) :
    Calls Try.prog 105 #[v, .agg #[.int .i64 3, .bool true, .int .i64 idx, .int .i64 gen, .int .i64 comp, .slice B m c2]] w (BytesPost w (l ++ (leB (word 3) 1 ++ ((leB (word 1) 1 ++ leB (word idx) 8) ++ leB (word comp) 8)))) := by
  have K := Lib.hid (known_any 3)
  rw [show knownC 3 = true from rfl] at K
  have P1 := Lib.hid (fun W (hk : Keep (fun _ => False) w W) => putP l v F 1 3 W (hv.keep hk (fun _ _ _ h => h)) (by omega))
  have E := Lib.hid (show (((l ++ leB (word 3) (wideN 1)) ++ (leB (word 1) 1 ++ leB (word idx) 8)) ++ leB (word comp) (wideN 8)) = l ++ (leB (word 3) 1 ++ ((leB (word 1) 1 ++ leB (word idx) 8) ++ leB (word comp) 8)) by rw [show wideN 1 = 1 from rfl, show wideN 8 = 8 from rfl]; simp [List.append_assoc])
  rw [← E.out]
  have LA := Lib.hid (show (l ++ leB (word 3) (wideN 1)).length ≤ 17592186044416 by have := wideN_in 1; simp only [List.length_append, leB_len]; omega)
  have LB := Lib.hid (show ((l ++ leB (word 3) (wideN 1)) ++ (leB (word 1) 1 ++ leB (word idx) 8)).length ≤ 35184372088832 by have := wideN_in 1; simp only [List.length_append, leB_len]; omega)
  have LX := Lib.hid (show (((l ++ leB (word 3) (wideN 1)) ++ (leB (word 1) 1 ++ leB (word idx) 8)) ++ leB (word comp) (wideN 8)).length ≤ 35184372088832 by have := wideN_in 1; have := wideN_in 8; simp only [List.length_append, leB_len]; omega)
  have L4 := Lib.hid (show ((((l ++ leB (word 3) (wideN 1)) ++ (leB (word 1) 1 ++ leB (word idx) 8)) ++ leB (word comp) (wideN 8)) ++ leB (word (m : Nat)) (wideN 2)).length ≤ 1099511627876 by have := wideN_in 1; have := wideN_in 8; have := wideN_in 2; simp only [List.length_append, leB_len]; omega)
  obtain ⟨A, c, rfl, _, _, _, _⟩ := hv
  generalize l.length = n at *
  clear hn
  go_enter Try.func105, Try.ntmps105
  go_wp2_with fail
  refine (K.out _).mono ?_
  rintro e w1 ⟨rfl, rfl⟩
  go_wp2_with fail
  refine (P1.out _ (by exact (by repeat first | exact Keep.refl _ _ | refine Keep.alloc ?_ _ | refine Keep.drew ?_ | refine Keep.drewN ?_ _))).mono ?_
  rintro e w1 ⟨A1, n1, c1, rfl, hby1, hb1⟩
  have b1 : w1.heap[w.heap.size]? = some (.cells #[.int .i64 3, .bool true, .int .i64 idx, .int .i64 gen, .int .i64 comp, .slice B m c2] 39 (0, 0)) := (hb1.block _ (by first | omega | (simp; done) | (simp; omega))).trans (by (try simp only [heap_drew']); (try simp only [World.heap_drewN]); repeat (first | exact heap_alloc_at _ _ _ (by first | rfl | simp) | rw [Below.heap_alloc _ _ _ (by first | (simp; done) | (simp; omega))]))
  obtain ⟨y0, y1, y2, y3, y4, y5, yf⟩ := cells6 b1
  have H1 := Lib.hid (And.intro hby1 (And.intro b1 (And.intro (show Keep (fun _ => False) w w1 from Keep.trans (T := fun _ => False) (by repeat first | exact Keep.refl _ _ | refine Keep.alloc ?_ _ | refine Keep.drew ?_ | refine Keep.drewN ?_ _) (Keep.of_below' hb1) (fun _ _ h => h)) (show w.heap.size < w1.heap.size from (Array.getElem?_eq_some_iff.1 b1).1))))
  clear hby1 b1 hb1
  go_wp2_with fail
  refine (target_t 3 idx gen comp B m c2 _ _ _ _ H1.out.1 LA.out).mono ?_
  rintro e w2 ⟨A2, n2, c12, rfl, hby, hb⟩
  have b1 := (hb.block _ (Array.getElem?_eq_some_iff.1 H1.out.2.1).1).trans H1.out.2.1
  clear y0 y1 y2 y3 y4 y5 yf
  obtain ⟨y0, y1, y2, y3, y4, y5, yf⟩ := cells6 b1
  have H2 := Lib.hid (And.intro hby (And.intro b1 (And.intro (show Keep (fun _ => False) w w2 from H1.out.2.2.1.trans (Keep.of_below' hb) (fun _ _ h => h)) (Nat.lt_of_lt_of_le H1.out.2.2.2 hb.size))))
  have Z2 := Lib.hid hb.size
  clear hby b1 hb
  go_wp2_with fail
  refine (putP _ _ _ 8 comp _ H2.out.1 LB.out).mono ?_
  rintro e w3 ⟨A3, n3, c13, rfl, hby, hb⟩
  have b1 := (hb.block _ (Array.getElem?_eq_some_iff.1 H2.out.2.1).1).trans H2.out.2.1
  clear y0 y1 y2 y3 y4 y5 yf
  obtain ⟨y0, y1, y2, y3, y4, y5, yf⟩ := cells6 b1
  have H3 := Lib.hid (And.intro hby (And.intro b1 (And.intro (show Keep (fun _ => False) w w3 from H2.out.2.2.1.trans (Keep.of_below' hb) (fun _ _ h => h)) (Nat.lt_of_lt_of_le H2.out.2.2.2 hb.size))))
  have Z3 := Lib.hid hb.size
  clear hby b1 hb
  go_wp2
  go_ret
  exact ⟨A3, n3, c13, rfl, H3.out.1.mono (fun b _ h => by have := H3.out.2.2.1.size; have := Z2.out; have := H1.out.2.2.1.size; omega), H3.out.2.2.1.to_below'⟩

theorem cput_3f (idx gen comp : Int) (B : Option Addr) (m c2 : Nat) (l : List UInt8) (v : Value) (F : Nat → Prop) (w : World) (hv : By w F v l) (hn : l.length ≤ 1099511627776) :
    Calls Try.prog 105 #[v, .agg #[.int .i64 3, .bool false, .int .i64 idx, .int .i64 gen, .int .i64 comp, .slice B m c2]] w (BytesPost w (l ++ (leB (word 3) 1 ++ ((leB (word 0) 1 ++ (leB (word idx) 8 ++ leB (word gen) 8)) ++ leB (word comp) 8)))) := by
  have K := Lib.hid (known_any 3)
  rw [show knownC 3 = true from rfl] at K
  have P1 := Lib.hid (fun W (hk : Keep (fun _ => False) w W) => putP l v F 1 3 W (hv.keep hk (fun _ _ _ h => h)) (by omega))
  have E := Lib.hid (show (((l ++ leB (word 3) (wideN 1)) ++ (leB (word 0) 1 ++ (leB (word idx) 8 ++ leB (word gen) 8))) ++ leB (word comp) (wideN 8)) = l ++ (leB (word 3) 1 ++ ((leB (word 0) 1 ++ (leB (word idx) 8 ++ leB (word gen) 8)) ++ leB (word comp) 8)) by rw [show wideN 1 = 1 from rfl, show wideN 8 = 8 from rfl]; simp [List.append_assoc])
  rw [← E.out]
  have LA := Lib.hid (show (l ++ leB (word 3) (wideN 1)).length ≤ 17592186044416 by have := wideN_in 1; simp only [List.length_append, leB_len]; omega)
  have LB := Lib.hid (show ((l ++ leB (word 3) (wideN 1)) ++ (leB (word 0) 1 ++ (leB (word idx) 8 ++ leB (word gen) 8))).length ≤ 35184372088832 by have := wideN_in 1; simp only [List.length_append, leB_len]; omega)
  have LX := Lib.hid (show (((l ++ leB (word 3) (wideN 1)) ++ (leB (word 0) 1 ++ (leB (word idx) 8 ++ leB (word gen) 8))) ++ leB (word comp) (wideN 8)).length ≤ 35184372088832 by have := wideN_in 1; have := wideN_in 8; simp only [List.length_append, leB_len]; omega)
  have L4 := Lib.hid (show ((((l ++ leB (word 3) (wideN 1)) ++ (leB (word 0) 1 ++ (leB (word idx) 8 ++ leB (word gen) 8))) ++ leB (word comp) (wideN 8)) ++ leB (word (m : Nat)) (wideN 2)).length ≤ 1099511627876 by have := wideN_in 1; have := wideN_in 8; have := wideN_in 2; simp only [List.length_append, leB_len]; omega)
  obtain ⟨A, c, rfl, _, _, _, _⟩ := hv
  generalize l.length = n at *
  clear hn
  go_enter Try.func105, Try.ntmps105
  go_wp2_with fail
  refine (K.out _).mono ?_
  rintro e w1 ⟨rfl, rfl⟩
  go_wp2_with fail
  refine (P1.out _ (by exact (by repeat first | exact Keep.refl _ _ | refine Keep.alloc ?_ _ | refine Keep.drew ?_ | refine Keep.drewN ?_ _))).mono ?_
  rintro e w1 ⟨A1, n1, c1, rfl, hby1, hb1⟩
  have b1 : w1.heap[w.heap.size]? = some (.cells #[.int .i64 3, .bool false, .int .i64 idx, .int .i64 gen, .int .i64 comp, .slice B m c2] 39 (0, 0)) := (hb1.block _ (by first | omega | (simp; done) | (simp; omega))).trans (by (try simp only [heap_drew']); (try simp only [World.heap_drewN]); repeat (first | exact heap_alloc_at _ _ _ (by first | rfl | simp) | rw [Below.heap_alloc _ _ _ (by first | (simp; done) | (simp; omega))]))
  obtain ⟨y0, y1, y2, y3, y4, y5, yf⟩ := cells6 b1
  have H1 := Lib.hid (And.intro hby1 (And.intro b1 (And.intro (show Keep (fun _ => False) w w1 from Keep.trans (T := fun _ => False) (by repeat first | exact Keep.refl _ _ | refine Keep.alloc ?_ _ | refine Keep.drew ?_ | refine Keep.drewN ?_ _) (Keep.of_below' hb1) (fun _ _ h => h)) (show w.heap.size < w1.heap.size from (Array.getElem?_eq_some_iff.1 b1).1))))
  clear hby1 b1 hb1
  go_wp2_with fail
  refine (target_f 3 idx gen comp B m c2 _ _ _ _ H1.out.1 LA.out).mono ?_
  rintro e w2 ⟨A2, n2, c12, rfl, hby, hb⟩
  have b1 := (hb.block _ (Array.getElem?_eq_some_iff.1 H1.out.2.1).1).trans H1.out.2.1
  clear y0 y1 y2 y3 y4 y5 yf
  obtain ⟨y0, y1, y2, y3, y4, y5, yf⟩ := cells6 b1
  have H2 := Lib.hid (And.intro hby (And.intro b1 (And.intro (show Keep (fun _ => False) w w2 from H1.out.2.2.1.trans (Keep.of_below' hb) (fun _ _ h => h)) (Nat.lt_of_lt_of_le H1.out.2.2.2 hb.size))))
  have Z2 := Lib.hid hb.size
  clear hby b1 hb
  go_wp2_with fail
  refine (putP _ _ _ 8 comp _ H2.out.1 LB.out).mono ?_
  rintro e w3 ⟨A3, n3, c13, rfl, hby, hb⟩
  have b1 := (hb.block _ (Array.getElem?_eq_some_iff.1 H2.out.2.1).1).trans H2.out.2.1
  clear y0 y1 y2 y3 y4 y5 yf
  obtain ⟨y0, y1, y2, y3, y4, y5, yf⟩ := cells6 b1
  have H3 := Lib.hid (And.intro hby (And.intro b1 (And.intro (show Keep (fun _ => False) w w3 from H2.out.2.2.1.trans (Keep.of_below' hb) (fun _ _ h => h)) (Nat.lt_of_lt_of_le H2.out.2.2.2 hb.size))))
  have Z3 := Lib.hid hb.size
  clear hby b1 hb
  go_wp2
  go_ret
  exact ⟨A3, n3, c13, rfl, H3.out.1.mono (fun b _ h => by have := H3.out.2.2.1.size; have := Z2.out; have := H1.out.2.2.1.size; omega), H3.out.2.2.1.to_below'⟩

end Go.Proofs.Ythkgchlndfcmpaa

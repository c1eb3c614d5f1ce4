/- Contract of cmd.Put. Printed by gencmdq.py. -/
import Derived.Test.YthkgchlndfcmpaaCmdP
import Derived.Test.YthkgchlndfcmpaaOb
import Derived.OwnWalk
namespace Go.Proofs.Ythkgchlndfcmpaa
open Go.RowKit
set_option maxRecDepth 100000
set_option linter.unusedVariables false

theorem putOb (l : List UInt8) (v : Value) (F : Nat → Prop) (width n : Int) (w : World) (hv : By w F v l) (hn : l.length ≤ 35184372088832) :
    Calls Try.prog 95 #[v, .int .i64 width, .int .i64 n] w (ObPost w (l ++ leB (word n) (wideN width))) :=
  (put_any l v F width n w hv hn).mono fun e w' ⟨u, he, ho, hb⟩ => by
    obtain ⟨A, c, rfl, _⟩ := ho.form
    exact ⟨A, _, c, he, ⟨_, ho⟩, hb⟩
theorem cput_2t (idx gen comp : Int) (B : Option Addr) (m c2 : Nat) (l : List UInt8) (v : Value) (F : Nat → Prop) (w : World) (hv : By w F v l) (hn : l.length ≤ 1099511627776) (q : List UInt8) (G : Nat → Prop) (hq : By w G (.slice B m c2) q) (hm : m ≤ 1099511627776) :
    Calls Try.prog 105 #[v, .agg #[.int .i64 2, .bool true, .int .i64 idx, .int .i64 gen, .int .i64 comp, .slice B m c2]] w (BytesPost w (l ++ (leB (word 2) 1 ++ ((leB (word 1) 1 ++ leB (word idx) 8) ++ (leB (word comp) 8 ++ (leB (word (m : Nat)) 2 ++ q)))))) := by
  have K := Lib.hid (known_any 2)
  rw [show knownC 2 = true from rfl] at K
  have P1 := Lib.hid (fun W (hk : Keep (fun _ => False) w W) => putP l v F 1 2 W (hv.keep hk (fun _ _ _ h => h)) (by omega))
  have E := Lib.hid (show (((((l ++ leB (word 2) (wideN 1)) ++ (leB (word 1) 1 ++ leB (word idx) 8)) ++ leB (word comp) (wideN 8)) ++ leB (word (m : Nat)) (wideN 2)) ++ q) = l ++ (leB (word 2) 1 ++ ((leB (word 1) 1 ++ leB (word idx) 8) ++ (leB (word comp) 8 ++ (leB (word (m : Nat)) 2 ++ q)))) by rw [show wideN 1 = 1 from rfl, show wideN 8 = 8 from rfl, show wideN 2 = 2 from rfl]; simp [List.append_assoc])
  rw [← E.out]
  have LA := Lib.hid (show (l ++ leB (word 2) (wideN 1)).length ≤ 17592186044416 by have := wideN_in 1; simp only [List.length_append, leB_len]; omega)
  have LB := Lib.hid (show ((l ++ leB (word 2) (wideN 1)) ++ (leB (word 1) 1 ++ leB (word idx) 8)).length ≤ 35184372088832 by have := wideN_in 1; simp only [List.length_append, leB_len]; omega)
  have LX := Lib.hid (show (((l ++ leB (word 2) (wideN 1)) ++ (leB (word 1) 1 ++ leB (word idx) 8)) ++ leB (word comp) (wideN 8)).length ≤ 35184372088832 by have := wideN_in 1; have := wideN_in 8; simp only [List.length_append, leB_len]; omega)
  have L4 := Lib.hid (show ((((l ++ leB (word 2) (wideN 1)) ++ (leB (word 1) 1 ++ leB (word idx) 8)) ++ leB (word comp) (wideN 8)) ++ leB (word (m : Nat)) (wideN 2)).length ≤ 1099511627876 by have := wideN_in 1; have := wideN_in 8; have := wideN_in 2; simp only [List.length_append, leB_len]; omega)
  have QB := Lib.hid (fun W (hk : Keep (fun _ => False) w W) => hq.keep hk (fun _ _ _ h => h))
  have hql : q.length = m := by obtain ⟨_, _, e, _⟩ := hq; injection e with _ e2 _; exact e2.symm
  have QL := Lib.hid hql
  have LS := Lib.hid (show ((((l ++ leB (word 2) (wideN 1)) ++ (leB (word 1) 1 ++ leB (word idx) 8)) ++ leB (word comp) (wideN 8)) ++ leB (word (m : Nat)) (wideN 2)).length + q.length ≤ 140737488355328 by have := L4.out; omega)
  clear hq hql
  obtain ⟨A, c, rfl, _, _, _, _⟩ := hv
  generalize l.length = n at *
  clear hn
  go_enter Try.func105, Try.ntmps105
  go_wp2_with fail
  refine (K.out _).mono ?_
  rintro e w1 ⟨rfl, rfl⟩
  go_wp2_with fail
  refine (P1.out _ (by exact (by repeat first | exact Keep.refl _ _ | refine Keep.alloc ?_ _ | refine Keep.drew ?_ | refine Keep.drewN ?_ _))).mono ?_
  rintro e w1 ⟨A1, n1, c1, rfl, hby1, hb1⟩
  have b1 : w1.heap[w.heap.size]? = some (.cells #[.int .i64 2, .bool true, .int .i64 idx, .int .i64 gen, .int .i64 comp, .slice B m c2] 39 (0, 0)) := (hb1.block _ (by first | omega | (simp; done) | (simp; omega))).trans (by (try simp only [heap_drew']); (try simp only [World.heap_drewN]); repeat (first | exact heap_alloc_at _ _ _ (by first | rfl | simp) | rw [Below.heap_alloc _ _ _ (by first | (simp; done) | (simp; omega))]))
  obtain ⟨y0, y1, y2, y3, y4, y5, yf⟩ := cells6 b1
  have H1 := Lib.hid (And.intro hby1 (And.intro b1 (And.intro (show Keep (fun _ => False) w w1 from Keep.trans (T := fun _ => False) (by repeat first | exact Keep.refl _ _ | refine Keep.alloc ?_ _ | refine Keep.drew ?_ | refine Keep.drewN ?_ _) (Keep.of_below' hb1) (fun _ _ h => h)) (show w.heap.size < w1.heap.size from (Array.getElem?_eq_some_iff.1 b1).1))))
  clear hby1 b1 hb1
  go_wp2_with fail
  refine (target_t 2 idx gen comp B m c2 _ _ _ _ H1.out.1 LA.out).mono ?_
  rintro e w2 ⟨A2, n2, c12, rfl, hby, hb⟩
  have b1 := (hb.block _ (Array.getElem?_eq_some_iff.1 H1.out.2.1).1).trans H1.out.2.1
  clear y0 y1 y2 y3 y4 y5 yf
  obtain ⟨y0, y1, y2, y3, y4, y5, yf⟩ := cells6 b1
  have H2 := Lib.hid (And.intro hby (And.intro b1 (And.intro (show Keep (fun _ => False) w w2 from H1.out.2.2.1.trans (Keep.of_below' hb) (fun _ _ h => h)) (Nat.lt_of_lt_of_le H1.out.2.2.2 hb.size))))
  have Z2 := Lib.hid hb.size
  clear hby b1 hb
  go_wp2_with fail
  refine (putP _ _ _ 8 comp _ H2.out.1 LB.out).mono ?_
  rintro e w3 ⟨A3, n3, c13, rfl, hby, hb⟩
  have b1 := (hb.block _ (Array.getElem?_eq_some_iff.1 H2.out.2.1).1).trans H2.out.2.1
  clear y0 y1 y2 y3 y4 y5 yf
  obtain ⟨y0, y1, y2, y3, y4, y5, yf⟩ := cells6 b1
  have H3 := Lib.hid (And.intro hby (And.intro b1 (And.intro (show Keep (fun _ => False) w w3 from H2.out.2.2.1.trans (Keep.of_below' hb) (fun _ _ h => h)) (Nat.lt_of_lt_of_le H2.out.2.2.2 hb.size))))
  have Z3 := Lib.hid hb.size
  clear hby b1 hb
  go_wp2
  have PQ2 := Lib.hid (fun W (hk : Keep (fun _ => False) w3 W) => putOb _ _ _ 2 (m : Nat) W (H3.out.1.keep hk (fun _ _ _ h => h)) LX.out)
  generalize hX : (((l ++ leB (word 2) (wideN 1)) ++ (leB (word 1) 1 ++ leB (word idx) 8)) ++ leB (word comp) (wideN 8)) = X at *
  clear hX
  have HY := Lib.hid (show ∀ W', Keep (fun _ => False) w3 W' → By W' G (.slice B m c2) q from fun W' hk => QB.out W' (H3.out.2.2.1.trans hk (fun _ _ h => h)))
  have CE := Lib.hid (show ∀ W', Keep (fun _ => False) w3 W' → W'.cell? ⟨w.heap.size, 5, none⟩ = some (.slice B m c2) ∧ Keep (fun _ => False) w3 W' from fun W' hk => ⟨hk.cell (fun h => h) (cells6 H3.out.2.1).2.2.2.2.2.1, hk⟩)
  have hm40 := QL.out
  go_region_held3 (fun w' => w'.cell? ⟨w.heap.size, 5, none⟩ = some (.slice B m c2) ∧ Keep (fun _ => False) w3 w') (exact CE.out _ (by exact (by repeat first | assumption | exact Keep.refl _ _ | refine Keep.alloc ?_ _ | refine Keep.drew ?_ | refine Keep.drewN ?_ _ | refine Keep.setCell ?_ (.inl (by first | omega | (simp; done) | (simp; omega))) _)))
    (first
      | (go_at_call 95; (with_reducible refine (PQ2.out _ (by exact (by repeat first | assumption | exact Keep.refl _ _ | refine Keep.alloc ?_ _ | refine Keep.drew ?_ | refine Keep.drewN ?_ _ | refine Keep.setCell ?_ (.inl (by first | omega | (simp; done) | (simp; omega))) _))).mono ?_); rintro e w4 ⟨A4, n4, c4, rfl, ho4, hb4⟩; have hk4 : Keep (fun _ => False) w3 w4 := Keep.trans (by exact (by repeat first | assumption | exact Keep.refl _ _ | refine Keep.alloc ?_ _ | refine Keep.drew ?_ | refine Keep.drewN ?_ _ | refine Keep.setCell ?_ (.inl (by first | omega | (simp; done) | (simp; omega))) _)) (Keep.of_below' hb4) (fun _ _ h => h); have HO := Lib.hid (show Ob w4 w3.heap.size (.slice A4 n4 c4) _ from ho4); clear ho4 hb4)
      | (go_loud (refine step_app (by rfl) _ _ rfl w3.heap.size _ _ (by rfl) HO.out _ _ _ (by rfl) (HY.out _ (by exact (by repeat first | assumption | exact Keep.refl _ _ | refine Keep.alloc ?_ _ | refine Keep.drew ?_ | refine Keep.drewN ?_ _ | refine Keep.setCell ?_ (.inl (by first | omega | (simp; done) | (simp; omega))) _))) LS.out (by exact Keep.size (by exact (by repeat first | assumption | exact Keep.refl _ _ | refine Keep.alloc ?_ _ | refine Keep.drew ?_ | refine Keep.drewN ?_ _ | refine Keep.setCell ?_ (.inl (by first | omega | (simp; done) | (simp; omega))) _) : Keep (fun _ => False) w3 _)) ?_); intro A5 n5 c5 w5 ho5 hk5; have hk5' : Keep (fun _ => False) w3 w5 := Keep.trans (show Keep (fun _ => False) w3 _ from (by repeat first | assumption | exact Keep.refl _ _ | refine Keep.alloc ?_ _ | refine Keep.drew ?_ | refine Keep.drewN ?_ _ | refine Keep.setCell ?_ (.inl (by first | omega | (simp; done) | (simp; omega))) _)) hk5 (fun x hx e => by have := (HO.out.ownB_ x e).1; omega); have HF := Lib.hid (And.intro ho5 hk5'); clear ho5 hk5)
      | fail)
  go_wp2
  go_ret
  exact ⟨A5, _, c5, rfl, HF.out.1.by_.mono (fun b _ h => by have := H3.out.2.2.1.size; omega), (H3.out.2.2.1.trans HF.out.2 (fun _ _ h => h)).to_below'⟩


theorem cput_2f (idx gen comp : Int) (B : Option Addr) (m c2 : Nat) (l : List UInt8) (v : Value) (F : Nat → Prop) (w : World) (hv : By w F v l) (hn : l.length ≤ 1099511627776) (q : List UInt8) (G : Nat → Prop) (hq : By w G (.slice B m c2) q) (hm : m ≤ 1099511627776) :
    Calls Try.prog 105 #[v, .agg #[.int .i64 2, .bool false, .int .i64 idx, .int .i64 gen, .int .i64 comp, .slice B m c2]] w (BytesPost w (l ++ (leB (word 2) 1 ++ ((leB (word 0) 1 ++ (leB (word idx) 8 ++ leB (word gen) 8)) ++ (leB (word comp) 8 ++ (leB (word (m : Nat)) 2 ++ q)))))) := by
  have K := Lib.hid (known_any 2)
  rw [show knownC 2 = true from rfl] at K
  have P1 := Lib.hid (fun W (hk : Keep (fun _ => False) w W) => putP l v F 1 2 W (hv.keep hk (fun _ _ _ h => h)) (by omega))
  have E := Lib.hid (show (((((l ++ leB (word 2) (wideN 1)) ++ (leB (word 0) 1 ++ (leB (word idx) 8 ++ leB (word gen) 8))) ++ leB (word comp) (wideN 8)) ++ leB (word (m : Nat)) (wideN 2)) ++ q) = l ++ (leB (word 2) 1 ++ ((leB (word 0) 1 ++ (leB (word idx) 8 ++ leB (word gen) 8)) ++ (leB (word comp) 8 ++ (leB (word (m : Nat)) 2 ++ q)))) by rw [show wideN 1 = 1 from rfl, show wideN 8 = 8 from rfl, show wideN 2 = 2 from rfl]; simp [List.append_assoc])
  rw [← E.out]
  have LA := Lib.hid (show (l ++ leB (word 2) (wideN 1)).length ≤ 17592186044416 by have := wideN_in 1; simp only [List.length_append, leB_len]; omega)
  have LB := Lib.hid (show ((l ++ leB (word 2) (wideN 1)) ++ (leB (word 0) 1 ++ (leB (word idx) 8 ++ leB (word gen) 8))).length ≤ 35184372088832 by have := wideN_in 1; simp only [List.length_append, leB_len]; omega)
  have LX := Lib.hid (show (((l ++ leB (word 2) (wideN 1)) ++ (leB (word 0) 1 ++ (leB (word idx) 8 ++ leB (word gen) 8))) ++ leB (word comp) (wideN 8)).length ≤ 35184372088832 by have := wideN_in 1; have := wideN_in 8; simp only [List.length_append, leB_len]; omega)
  have L4 := Lib.hid (show ((((l ++ leB (word 2) (wideN 1)) ++ (leB (word 0) 1 ++ (leB (word idx) 8 ++ leB (word gen) 8))) ++ leB (word comp) (wideN 8)) ++ leB (word (m : Nat)) (wideN 2)).length ≤ 1099511627876 by have := wideN_in 1; have := wideN_in 8; have := wideN_in 2; simp only [List.length_append, leB_len]; omega)
  have QB := Lib.hid (fun W (hk : Keep (fun _ => False) w W) => hq.keep hk (fun _ _ _ h => h))
  have hql : q.length = m := by obtain ⟨_, _, e, _⟩ := hq; injection e with _ e2 _; exact e2.symm
  have QL := Lib.hid hql
  have LS := Lib.hid (show ((((l ++ leB (word 2) (wideN 1)) ++ (leB (word 0) 1 ++ (leB (word idx) 8 ++ leB (word gen) 8))) ++ leB (word comp) (wideN 8)) ++ leB (word (m : Nat)) (wideN 2)).length + q.length ≤ 140737488355328 by have := L4.out; omega)
  clear hq hql
  obtain ⟨A, c, rfl, _, _, _, _⟩ := hv
  generalize l.length = n at *
  clear hn
  go_enter Try.func105, Try.ntmps105
  go_wp2_with fail
  refine (K.out _).mono ?_
  rintro e w1 ⟨rfl, rfl⟩
  go_wp2_with fail
  refine (P1.out _ (by exact (by repeat first | exact Keep.refl _ _ | refine Keep.alloc ?_ _ | refine Keep.drew ?_ | refine Keep.drewN ?_ _))).mono ?_
  rintro e w1 ⟨A1, n1, c1, rfl, hby1, hb1⟩
  have b1 : w1.heap[w.heap.size]? = some (.cells #[.int .i64 2, .bool false, .int .i64 idx, .int .i64 gen, .int .i64 comp, .slice B m c2] 39 (0, 0)) := (hb1.block _ (by first | omega | (simp; done) | (simp; omega))).trans (by (try simp only [heap_drew']); (try simp only [World.heap_drewN]); repeat (first | exact heap_alloc_at _ _ _ (by first | rfl | simp) | rw [Below.heap_alloc _ _ _ (by first | (simp; done) | (simp; omega))]))
  obtain ⟨y0, y1, y2, y3, y4, y5, yf⟩ := cells6 b1
  have H1 := Lib.hid (And.intro hby1 (And.intro b1 (And.intro (show Keep (fun _ => False) w w1 from Keep.trans (T := fun _ => False) (by repeat first | exact Keep.refl _ _ | refine Keep.alloc ?_ _ | refine Keep.drew ?_ | refine Keep.drewN ?_ _) (Keep.of_below' hb1) (fun _ _ h => h)) (show w.heap.size < w1.heap.size from (Array.getElem?_eq_some_iff.1 b1).1))))
  clear hby1 b1 hb1
  go_wp2_with fail
  refine (target_f 2 idx gen comp B m c2 _ _ _ _ H1.out.1 LA.out).mono ?_
  rintro e w2 ⟨A2, n2, c12, rfl, hby, hb⟩
  have b1 := (hb.block _ (Array.getElem?_eq_some_iff.1 H1.out.2.1).1).trans H1.out.2.1
  clear y0 y1 y2 y3 y4 y5 yf
  obtain ⟨y0, y1, y2, y3, y4, y5, yf⟩ := cells6 b1
  have H2 := Lib.hid (And.intro hby (And.intro b1 (And.intro (show Keep (fun _ => False) w w2 from H1.out.2.2.1.trans (Keep.of_below' hb) (fun _ _ h => h)) (Nat.lt_of_lt_of_le H1.out.2.2.2 hb.size))))
  have Z2 := Lib.hid hb.size
  clear hby b1 hb
  go_wp2_with fail
  refine (putP _ _ _ 8 comp _ H2.out.1 LB.out).mono ?_
  rintro e w3 ⟨A3, n3, c13, rfl, hby, hb⟩
  have b1 := (hb.block _ (Array.getElem?_eq_some_iff.1 H2.out.2.1).1).trans H2.out.2.1
  clear y0 y1 y2 y3 y4 y5 yf
  obtain ⟨y0, y1, y2, y3, y4, y5, yf⟩ := cells6 b1
  have H3 := Lib.hid (And.intro hby (And.intro b1 (And.intro (show Keep (fun _ => False) w w3 from H2.out.2.2.1.trans (Keep.of_below' hb) (fun _ _ h => h)) (Nat.lt_of_lt_of_le H2.out.2.2.2 hb.size))))
  have Z3 := Lib.hid hb.size
  clear hby b1 hb
  go_wp2
  have PQ2 := Lib.hid (fun W (hk : Keep (fun _ => False) w3 W) => putOb _ _ _ 2 (m : Nat) W (H3.out.1.keep hk (fun _ _ _ h => h)) LX.out)
  generalize hX : (((l ++ leB (word 2) (wideN 1)) ++ (leB (word 0) 1 ++ (leB (word idx) 8 ++ leB (word gen) 8))) ++ leB (word comp) (wideN 8)) = X at *
  clear hX
  have HY := Lib.hid (show ∀ W', Keep (fun _ => False) w3 W' → By W' G (.slice B m c2) q from fun W' hk => QB.out W' (H3.out.2.2.1.trans hk (fun _ _ h => h)))
  have CE := Lib.hid (show ∀ W', Keep (fun _ => False) w3 W' → W'.cell? ⟨w.heap.size, 5, none⟩ = some (.slice B m c2) ∧ Keep (fun _ => False) w3 W' from fun W' hk => ⟨hk.cell (fun h => h) (cells6 H3.out.2.1).2.2.2.2.2.1, hk⟩)
  have hm40 := QL.out
  go_region_held3 (fun w' => w'.cell? ⟨w.heap.size, 5, none⟩ = some (.slice B m c2) ∧ Keep (fun _ => False) w3 w') (exact CE.out _ (by exact (by repeat first | assumption | exact Keep.refl _ _ | refine Keep.alloc ?_ _ | refine Keep.drew ?_ | refine Keep.drewN ?_ _ | refine Keep.setCell ?_ (.inl (by first | omega | (simp; done) | (simp; omega))) _)))
    (first
      | (go_at_call 95; (with_reducible refine (PQ2.out _ (by exact (by repeat first | assumption | exact Keep.refl _ _ | refine Keep.alloc ?_ _ | refine Keep.drew ?_ | refine Keep.drewN ?_ _ | refine Keep.setCell ?_ (.inl (by first | omega | (simp; done) | (simp; omega))) _))).mono ?_); rintro e w4 ⟨A4, n4, c4, rfl, ho4, hb4⟩; have hk4 : Keep (fun _ => False) w3 w4 := Keep.trans (by exact (by repeat first | assumption | exact Keep.refl _ _ | refine Keep.alloc ?_ _ | refine Keep.drew ?_ | refine Keep.drewN ?_ _ | refine Keep.setCell ?_ (.inl (by first | omega | (simp; done) | (simp; omega))) _)) (Keep.of_below' hb4) (fun _ _ h => h); have HO := Lib.hid (show Ob w4 w3.heap.size (.slice A4 n4 c4) _ from ho4); clear ho4 hb4)
      | (go_loud (refine step_app (by rfl) _ _ rfl w3.heap.size _ _ (by rfl) HO.out _ _ _ (by rfl) (HY.out _ (by exact (by repeat first | assumption | exact Keep.refl _ _ | refine Keep.alloc ?_ _ | refine Keep.drew ?_ | refine Keep.drewN ?_ _ | refine Keep.setCell ?_ (.inl (by first | omega | (simp; done) | (simp; omega))) _))) LS.out (by exact Keep.size (by exact (by repeat first | assumption | exact Keep.refl _ _ | refine Keep.alloc ?_ _ | refine Keep.drew ?_ | refine Keep.drewN ?_ _ | refine Keep.setCell ?_ (.inl (by first | omega | (simp; done) | (simp; omega))) _) : Keep (fun _ => False) w3 _)) ?_); intro A5 n5 c5 w5 ho5 hk5; have hk5' : Keep (fun _ => False) w3 w5 := Keep.trans (show Keep (fun _ => False) w3 _ from (by repeat first | assumption | exact Keep.refl _ _ | refine Keep.alloc ?_ _ | refine Keep.drew ?_ | refine Keep.drewN ?_ _ | refine Keep.setCell ?_ (.inl (by first | omega | (simp; done) | (simp; omega))) _)) hk5 (fun x hx e => by have := (HO.out.ownB_ x e).1; omega); have HF := Lib.hid (And.intro ho5 hk5'); clear ho5 hk5)
      | fail)
  go_wp2
  go_ret
  exact ⟨A5, _, c5, rfl, HF.out.1.by_.mono (fun b _ h => by have := H3.out.2.2.1.size; omega), (H3.out.2.2.1.trans HF.out.2 (fun _ _ h => h)).to_below'⟩


end Go.Proofs.Ythkgchlndfcmpaa

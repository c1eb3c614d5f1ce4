/- Contracts of vivariumref11.Sig, Query. -/
import Derived.Test.YtglliendhbkkhaaGreatDoorRf1
namespace Go.Proofs.YtglliendhbkkhaaGreatDoor
open Go.RowKit
set_option maxRecDepth 100000
set_option linter.unusedVariables false
set_option linter.unusedSimpArgs false

theorem take_snocQ {α β : Type} (f : α → β) {l : List α} {j : Nat} {x : α} (h : l[j]? = some x) : (l.take (j + 1)).map f = (l.take j).map f ++ [f x] := by
  rw [List.take_add_one, h, List.map_append]; rfl
theorem filt_snocQ {α β : Type} (p : α → Bool) (f : α → β) {l : List α} {j : Nat} {x : α} (h : l[j]? = some x) : ((l.take (j + 1)).filter p).map f = ((l.take j).filter p).map f ++ (if p x = true then [f x] else []) := by
  rw [List.take_add_one, h, List.filter_append, List.map_append]
  by_cases e : p x = true
  · rw [if_pos e]; simp [e]
  · rw [if_neg e]; simp [e]
theorem wpList_nameQ {ops : Array Oper} {o : Oper} {rest : List Oper} {a : Act} {w : World} {Q : Exit → Act → World → Prop} (hgd : Region.wanted o (yielded ops a.tmps) = true) (s x : Operand)
    (ho : o.op = .call { callee := .builtin .append, args := #[s, x], argTypes := #[67, 67] }) (B : Nat) (v : Value) (n : Nat) (ids : List IdZ) (hn : ids.length = n) (hv : a.eval s = v) (hown : Own w B 40 2 v n (ids.flatMap idC)) (g c : Nat) (y : IdZ)
    (hy : a.eval x = .slice (some ⟨g, 0, none⟩) 1 c) (h0 : w.cell? ⟨g, 0, none⟩ = some (.int .i64 y.ix)) (h1 : w.cell? ⟨g, 1, none⟩ = some (.int .i64 y.gen)) (hk : n ≤ 1099511627776) (hB : B ≤ w.heap.size)
    (h : ∀ A c w', Own w' B 40 2 (.slice A (n + 1) c) (n + 1) ((ids ++ [y]).flatMap idC) → Keep (fun k => ownB v = some k) w w' → wpList Tryz.prog ops Q rest (a.put o.dst (.slice A (n + 1) c)) w') :
    wpList Tryz.prog ops Q (o :: rest) a w := by
  obtain ⟨is, his, hs0, hs1, hs2⟩ := info_parts info_id
  have hsrc : Src Tryz.prog 2 67 (.slice (some ⟨g, 0, none⟩) 1 c) 1 (idC y) w := Src.ofSlice _ Tryz.underlying67 _ 1 c (idC y) rfl (fun j u hu => by
    match j, hu with
    | 0, hu => cases hu; simpa [Addr.add] using h0
    | 1, hu => cases hu; simpa [Addr.add] using h1) (fun u hu => by
    simp only [idC, List.mem_cons, List.not_mem_nil, or_false] at hu
    rcases hu with rfl | rfl <;> rfl)
  refine wpList_append_gen w hgd s x _ _ ho B 40 is _ 2 16 Tryz.underlying67 his hs0 hs1 hs2 rfl v n _ hv hown _ 1 _ hy hsrc (by unfold maxLen; omega) (by omega) hB ?_
  intro v' w' ho' hk' hn'
  obtain ⟨A, c', rfl, _⟩ := ho'.form
  refine h A c' w' ?_ hk'
  rw [List.flatMap_append]
  simpa using ho'
set_option maxHeartbeats 1000000 in
theorem r11_sig (x : EnZ) (pv : Value) (F : Nat → Prop) (w : World) (hp : NS parN w F pv x.parts) (h24 : x.parts.length ≤ 1000000) :
    Calls Tryz.prog 74 #[.agg #[.int .i64 x.id.ix, .int .i64 x.id.gen, pv]] w fun e w' => e = .returned (.int .u64 (sigE x : Nat)) ∧ Keep (fun _ => False) w w' := by
  have HP := Lib.hid hp
  obtain ⟨A, c, rfl, h2, h1⟩ := hp.form
  unfold maxLen at h2
  obtain ⟨sg, hsg⟩ : ∃ sg, sigE x = sg := ⟨_, rfl⟩
  rw [hsg]
  have HSG := Lib.hid (show ofTo (x.parts.map (·.comp)) 64 = sg from hsg)
  obtain ⟨⟨ix, gn⟩, parts⟩ := x
  simp only at *
  clear hp hsg
  obtain ⟨n, hn⟩ : ∃ n, parts.length = n := ⟨_, rfl⟩
  have HN := Lib.hid hn
  rw [hn] at HP h1 h24 ⊢
  clear hn
  have XB := Lib.hid (heap_alloc_new w (.cells #[.int .i64 ix, .int .i64 gn, .slice A n c] 89 (0, 0)))
  go_enter Tryz.func74, Tryz.ntmps74
  go_upto_region 1 with fail
  refine wp_world (S := fun X => X.heap[w.heap.size]? = some (.cells #[.int .i64 ix, .int .i64 gn, .slice A n c] 89 (0, 0)) ∧ Below w.heap.size w X) ⟨XB.out, (by repeat first | exact Below.refl _ _ | refine Below.setCell ?_ (by first | omega | (simp; done) | (simp; omega)) _ | refine Below.alloc ?_ (by first | omega | (simp; done) | (simp; omega)) _ | refine Below.drew ?_ | refine below_drewN ?_ _ | assumption)⟩ ?_
  intro X hX
  have HX := Lib.hid hX
  have hsX : w.heap.size < X.heap.size := (Array.getElem?_eq_some_iff.1 hX.1).1
  clear hX XB
  obtain ⟨x0, x1, x2, xf⟩ := cells3 HX.out.1
  go_wp2
  go_loopw [3, 4] (fun y i wr => ∃ (j : Nat) (A3 : Option Addr) (c3 : Nat), j ≤ n ∧ i = .int .i64 (j : Int) ∧ y = .slice A3 j c3 ∧ Hid (Own wr X.heap.size 3 1 (.slice A3 j c3) j (iv ((parts.take j).map (·.comp))) ∧ Below X.heap.size X wr)) (fun _ i _ => n - (intOf i).toNat)
  case atStart => exact ⟨0, none, 0, by omega, rfl, rfl, Lib.hid ⟨by simpa [iv] using Own.none_ _ _ _ _ _, Below.refl _ _⟩⟩
  case round =>
    obtain ⟨j, A3, c3, hj, rfl, rfl, hst⟩ := hrel
    have K := Lib.hid ((Keep.of_below' HX.out.2).trans (Keep.of_below' hst.out.2) (fun _ _ h => h))
    clear x0 x1 x2 xf
    obtain ⟨x0, x1, x2, xf⟩ := cells3 ((hst.out.2.block _ hsX).trans HX.out.1)
    by_cases hlt : j < n
    · have f1 : (j : Int) < (n : Int) := by omega
      have f0 : (0 : Int) ≤ (j : Int) := by omega
      obtain ⟨b, off, x, v, rfl, -, hx, hin, hc⟩ := NS.at_ (HP.out.same K.out) hlt
      have e0 := hc 0 _ rfl
      simp only [show parN.m = 2 from rfl, Nat.add_zero] at e0
      have TS := Lib.hid (take_snocQ (·.comp) hx)
      clear hin hc hx
      go_wp2_with (at_builtin; refine wpList_intA (by rfl) _ _ (by rfl) X.heap.size _ j _ (by rfl) (hst.out.1.keep (S := fun _ => False) (by exact (by repeat first | (with_reducible assumption) | (with_reducible exact Keep.refl _ _) | (with_reducible refine Keep.alloc ?_ _) | (with_reducible refine Keep.drew ?_) | (with_reducible refine Keep.drewN ?_ _) | (with_reducible refine Keep.setCell ?_ (.inl (by first | omega | (simp; done) | (simp; omega) | fail)) _))) (fun _ _ h => h)) _ 1 (iv [x.comp]) (by rfl) (src_at Tryz.underlying25 (x := .int .i64 x.comp) rfl (by first | exact lit_cells _ _ _ 0 _ rfl | (rw [World.cell?_drew]; exact lit_cells _ _ _ 0 _ rfl))) (by omega) (by have := hst.out.2.size; simp; omega) ?_)
      intro A5 c5 w5 ho5 hk5 hn5
      have H5 := Lib.hid (show Own w5 X.heap.size 3 1 (.slice A5 (j + 1) c5) (j + 1) (iv ((parts.take (j + 1)).map (·.comp))) ∧ Below X.heap.size X w5 from ⟨by rw [TS.out]; simpa [iv] using ho5, ((Keep.of_below hst.out.2).trans (((Keep.refl (fun x => X.heap.size ≤ x) wr).alloc _).trans hk5 (fun x _ e => (hst.out.1.ownB x e).1)) (fun x _ h => h)).to_below (Nat.le_refl _)⟩)
      clear ho5 hk5 hn5
      go_wp2
      go_roundw
      case rel => exact ⟨j + 1, A5, c5, by omega, by go_num, rfl, H5⟩
      case measure => simp [intOf]; omega
    · obtain rfl : j = n := by omega
      have f1 : ¬ (j : Int) < (j : Int) := by omega
      have TT := Lib.hid (show parts.take j = parts from List.take_of_length_le (by rw [HN.out]; exact Nat.le_refl _))
      have OF := Lib.hid (show Calls Tryz.prog 127 #[.slice A3 j c3] wr fun e w' => e = .returned (.int .u64 (sg : Nat)) ∧ wr = w' from by
        have := hst.out.1.sl
        rw [TT.out] at this
        obtain ⟨A', c', e, g1, g2, g3, hr⟩ := this
        injection e with e1 e2 e3
        subst e1 e3
        rw [Nat.mul_one] at hr
        rw [← HSG.out]
        exact refOf_any _ _ _ _ _ _ hr (by omega))
      go_wp2_with (first | (go_at_call 127; (with_reducible refine OF.out.mono ?_); rintro e w4 ⟨rfl, rfl⟩) | fail)
      go_ret
      exact ⟨rfl, K.out⟩
set_option maxHeartbeats 1000000 in
theorem r11_query (s : SZ) (x y' : Nat) (hx : x < 18446744073709551616) (hy : y' < 18446744073709551616) (u : Value) (F : Nat → Prop) (w : World) (hu : StM w F u s) (h24 : s.ents.length ≤ 1000000) (hp : ∀ e ∈ s.ents, e.parts.length ≤ 1000000) :
    Calls Tryz.prog 29 #[u, .int .u64 (x : Int), .int .u64 (y' : Int)] w fun e w' => ∃ A c, e = .returned (.slice A (queryR s x y').length c) ∧ Sl w' (fun b => w.heap.size ≤ b) 2 (.slice A (queryR s x y').length c) (queryR s x y').length ((queryR s x y').flatMap idC) ∧ Keep (fun _ => False) w w' := by
  obtain ⟨A1, c1, A2, c2, A3, c3, rfl, h1, h2, h3, h4, h5, h6, g1, g2, g3⟩ := hu.form
  have HU := Lib.hid g3
  unfold maxLen at *
  clear hu g1 g2 g3 h1 h2 h3 h4
  obtain ⟨gens, free, ents⟩ := s
  simp only at *
  generalize gens.length = n1 at *
  generalize free.length = n2 at *
  have FT := Lib.hid (fun (e : EnZ) X => rgFits (sigE e) x y' (show sigE e < 18446744073709551616 from ofTo_lt _ 64) hx hy X)
  have HPP := Lib.hid hp
  clear hp
  obtain ⟨Q, hQ⟩ : ∃ Q, queryR ⟨gens, free, ents⟩ x y' = Q := ⟨_, rfl⟩
  rw [hQ]
  have HQ := Lib.hid (show (ents.filter fun e => fitsB (sigE e) x y').map (·.id) = Q from hQ)
  clear hQ
  obtain ⟨n, hn⟩ : ∃ n, ents.length = n := ⟨_, rfl⟩
  have HN := Lib.hid hn
  rw [hn] at HU h5 h24 ⊢
  clear hn
  have XB := Lib.hid (heap_alloc_new w (.cells #[.slice A1 n1 c1, .slice A2 n2 c2, .slice A3 n c3] 28 (0, 0)))
  go_enter Tryz.func29, Tryz.ntmps29
  go_upto_region 1 with fail
  refine wp_world (S := fun X => X.heap[w.heap.size]? = some (.cells #[.slice A1 n1 c1, .slice A2 n2 c2, .slice A3 n c3] 28 (0, 0)) ∧ Below w.heap.size w X) ⟨XB.out, (by repeat first | exact Below.refl _ _ | refine Below.setCell ?_ (by first | omega | (simp; done) | (simp; omega)) _ | refine Below.alloc ?_ (by first | omega | (simp; done) | (simp; omega)) _ | refine Below.drew ?_ | refine below_drewN ?_ _ | assumption)⟩ ?_
  intro X hX
  have HX := Lib.hid hX
  have hsX : w.heap.size < X.heap.size := (Array.getElem?_eq_some_iff.1 hX.1).1
  clear hX XB
  obtain ⟨x0, x1, x2, xf⟩ := cells3 HX.out.1
  go_wp2
  go_loopw [7, 8] (fun y i wr => ∃ (j m : Nat) (A3 : Option Addr) (c3 : Nat), j ≤ n ∧ m ≤ j ∧ i = .int .i64 (j : Int) ∧ y = .slice A3 m c3 ∧ Hid ((((ents.take j).filter fun e => fitsB (sigE e) x y').map (·.id)).length = m) ∧ Hid (Own wr X.heap.size 40 2 (.slice A3 m c3) m ((((ents.take j).filter fun e => fitsB (sigE e) x y').map (·.id)).flatMap idC) ∧ Below X.heap.size X wr)) (fun _ i _ => n - (intOf i).toNat)
  case atStart => exact ⟨0, 0, none, 0, by omega, by omega, rfl, rfl, Lib.hid (by simp), Lib.hid ⟨by simpa using Own.none_ _ _ _ _ _, Below.refl _ _⟩⟩
  case round =>
    obtain ⟨j, m, A3, c3, hj, hmj, rfl, rfl, hlen, hst⟩ := hrel
    have K := Lib.hid ((Keep.of_below' HX.out.2).trans (Keep.of_below' hst.out.2) (fun _ _ h => h))
    clear x0 x1 x2 xf
    obtain ⟨x0, x1, x2, xf⟩ := cells3 ((hst.out.2.block _ hsX).trans HX.out.1)
    by_cases hlt : j < n
    · have f1 : (j : Int) < (n : Int) := by omega
      have f0 : (0 : Int) ≤ (j : Int) := by omega
      obtain ⟨b, off, e, v, rfl, -, hxe, hin, hc⟩ := NS.at_ (HU.out.same K.out) hlt
      have e0 := hc 0 _ rfl
      have e1 := hc 1 _ rfl
      have e2 := hc 2 _ rfl
      simp only [show entN.m = 3 from rfl, Nat.add_zero] at e0 e1 e2
      have TS := Lib.hid (filt_snocQ (fun e => fitsB (sigE e) x y') (·.id) hxe)
      have PE := HPP.out e (List.mem_of_getElem? hxe)
      have SG := Lib.hid (fun X (hk : Keep (fun _ => False) wr X) => r11_sig e v F X (NS.same hin hk) PE)
      have FE := Lib.hid (FT.out e)
      obtain ⟨A7, c7, rfl, -, -⟩ := NS.form hin
      obtain ⟨⟨ix, gn⟩, parts⟩ := e
      simp only at e0 e1 e2 SG FE TS
      generalize sigE ⟨⟨ix, gn⟩, parts⟩ = sg at *
      clear hin hc hxe PE
      generalize parts.length = np at *
      go_wp2_with fail
      with_reducible refine (SG.out wr (Keep.refl _ _)).mono ?_
      rintro e w4 ⟨rfl, hk4⟩
      have K4 := Lib.hid hk4
      have x2' := hk4.cell (fun h => h) x2
      have e0' := hk4.cell (fun h => h) e0
      have e1' := hk4.cell (fun h => h) e1
      have e2' := hk4.cell (fun h => h) e2
      have B4 := Lib.hid (show Below X.heap.size X w4 ∧ Own w4 X.heap.size 40 2 (.slice A3 m c3) m ((((ents.take j).filter fun e => fitsB (sigE e) x y').map (·.id)).flatMap idC) from ⟨((Keep.of_below hst.out.2).trans (hk4.mono (fun _ _ h => h.elim)) (fun _ _ h => h)).to_below (Nat.le_refl _), hst.out.1.keep hk4 (fun _ _ h => h)⟩)
      clear x0 x1 x2 xf e0 e1 e2 hk4
      go_wp2_with fail
      with_reducible refine (FE.out _).mono ?_
      rintro e w5 ⟨rfl, rfl⟩
      cases hft : fitsB sg x y' with
      | true =>
        rw [hft, if_pos rfl] at TS
        go_wp2_with (at_builtin; refine wpList_nameQ (by rfl) _ _ (by rfl) X.heap.size _ m _ hlen.out (by rfl) (B4.out.2.keep (S := fun _ => False) (by exact (by repeat first | (with_reducible assumption) | (with_reducible exact Keep.refl _ _) | (with_reducible refine Keep.alloc ?_ _) | (with_reducible refine Keep.drew ?_) | (with_reducible refine Keep.drewN ?_ _) | (with_reducible refine Keep.setCell ?_ (.inl (by first | omega | (simp; done) | (simp; omega) | fail)) _))) (fun _ _ h => h)) _ _ ⟨ix, gn⟩ (by rfl) (by first | exact lit_cells _ _ _ 0 _ rfl | (rw [World.cell?_drew]; exact lit_cells _ _ _ 0 _ rfl)) (by first | exact lit_cells _ _ _ 1 _ rfl | (rw [World.cell?_drew]; exact lit_cells _ _ _ 1 _ rfl)) (by omega) (by have := B4.out.1.size; simp; omega) ?_)
        intro A5 c5 w5 ho5 hk5
        have H5 := Lib.hid (show Own w5 X.heap.size 40 2 (.slice A5 (m + 1) c5) (m + 1) ((((ents.take (j + 1)).filter fun e => fitsB (sigE e) x y').map (·.id)).flatMap idC) ∧ Below X.heap.size X w5 from ⟨by rw [TS.out]; simpa using ho5, ((Keep.of_below B4.out.1).trans (((Keep.refl (fun x => X.heap.size ≤ x) w4).alloc _).trans hk5 (fun x _ e => (B4.out.2.ownB x e).1)) (fun x _ h => h)).to_below (Nat.le_refl _)⟩)
        have L5 := Lib.hid (show ((((ents.take (j + 1)).filter fun e => fitsB (sigE e) x y').map (·.id)).length = m + 1) by rw [TS.out, List.length_append, hlen.out]; rfl)
        clear ho5 hk5
        go_wp2
        go_roundw
        case rel => exact ⟨j + 1, m + 1, A5, c5, by omega, by omega, by go_num, rfl, L5, H5⟩
        case measure => simp [intOf]; omega
      | false =>
        rw [hft, if_neg (by decide), List.append_nil] at TS
        go_wp2
        go_roundw
        case rel => exact ⟨j + 1, m, A3, c3, by omega, by omega, by go_num, rfl, by rw [TS.out]; exact hlen, Lib.hid (by rw [TS.out]; exact ⟨B4.out.2.keep (S := fun _ => False) (by exact (by repeat first | (with_reducible assumption) | (with_reducible exact Keep.refl _ _) | (with_reducible refine Keep.alloc ?_ _) | (with_reducible refine Keep.drew ?_) | (with_reducible refine Keep.drewN ?_ _) | (with_reducible refine Keep.setCell ?_ (.inl (by first | omega | (simp; done) | (simp; omega) | fail)) _))) (fun _ _ h => h), B4.out.1.trans (by exact (by repeat first | exact Below.refl _ _ | refine Below.setCell ?_ (by first | omega | (simp; done) | (simp; omega)) _ | refine Below.alloc ?_ (by first | omega | (simp; done) | (simp; omega)) _ | refine Below.drew ?_ | refine below_drewN ?_ _ | assumption))⟩)⟩
        case measure => simp [intOf]; omega
    · obtain rfl : j = n := by omega
      have f1 : ¬ (j : Int) < (j : Int) := by omega
      have TT := Lib.hid (show ents.take j = ents from List.take_of_length_le (by rw [HN.out]; exact Nat.le_refl _))
      have hs1 := HX.out.2.size
      have QE := Lib.hid (show (((ents.take j).filter fun e => fitsB (sigE e) x y').map (·.id)) = Q by rw [TT.out]; exact HQ.out)
      have QL := Lib.hid (show Q.length = m by rw [← QE.out]; exact hlen.out)
      go_wp2
      go_ret
      exact ⟨A3, c3, by rw [QL.out]; rfl, by rw [QL.out]; have := hst.out.1.sl; rw [QE.out] at this; exact this.mono (fun b _ h => by omega), K.out⟩
end Go.Proofs.YtglliendhbkkhaaGreatDoor

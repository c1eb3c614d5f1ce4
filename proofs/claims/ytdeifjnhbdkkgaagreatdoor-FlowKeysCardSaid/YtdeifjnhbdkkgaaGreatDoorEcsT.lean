/- Contract of ecs.State. -/
import Derived.Test.YtdeifjnhbdkkgaaGreatDoorEcsP
import Derived.Test.YtdeifjnhbdkkgaaGreatDoorEcsN
import Derived.Deep.DeepCutAuto
namespace Go.Proofs.YtdeifjnhbdkkgaaGreatDoor
open Go.RowKit
set_option maxRecDepth 100000
set_option linter.unusedVariables false
set_option linter.unusedSimpArgs false

section
variable {α β : Type} {P : Program} {ops : Array Oper} {rest : List Oper} {o : Oper} {a : Act} {w : World} {K : Act → World → Prop} {Q : Exit → Act → World → Prop} {E : Prop}
theorem wpList_pushY (hgd : Region.wanted o (yielded ops a.tmps) = true) (s x : Operand) (t : TypeId) (ho : o.op = .call { callee := .builtin .append, args := #[s, x], argTypes := #[t, t] })
    (N : Nst α β) (X : Nat → Prop) (B : Nat) (e : TypeId) (i : TypeInfo) (z : Value) (bytes : Nat) (ht : P.underlying t = some (.slice e)) (hi : P.info? e = some i) (hz : i.zero = some z) (hsize : i.size = N.m) (hby : i.bytes = bytes) (hzs : z.cells.size = N.m)
    (v : Value) (R : List α) (n : Nat) (hn : R.length = n) (hv : a.eval s = v) (hnb : NBX N X B e w v R) (g c : Nat) (y : α) (q : β) (hy : a.eval x = .slice (some ⟨g, 0, none⟩) 1 c) (hc : ∀ j u, (N.cells (y, q))[j]? = some u → w.cell? ⟨g, j, none⟩ = some u) (hx : N.inn w (fun b => X b ∧ ownB v ≠ some b) y q)
    (h63 : n + 1 ≤ maxLen) (hbytes : (n + 1) * bytes ≤ 140737488355328) (hB : B ≤ w.heap.size)
    (h : ∀ A c w', NBX N X B e w' (.slice A (n + 1) c) (R ++ [y]) → Keep (fun k => ownB v = some k) w w' → (∀ k, ownB (.slice A (n + 1) c) = some k → ownB v = some k ∨ w.heap.size ≤ k) → wpList P ops Q rest (a.put o.dst (.slice A (n + 1) c)) w') : wpList P ops Q (o :: rest) a w :=
  wpList_step fun _ hK => step_pushY hgd s x t ho N X B e i z bytes ht hi hz hsize hby hzs v R n hn hv hnb g c y q hy hc hx h63 hbytes hB fun A c w' h1 h2 h3 => hK _ _ (h A c w' h1 h2 h3)
end
theorem slO {w : World} {base n size : Nat} {e : TypeId} {v : Value} {xs : List Value} (h : Own w base e size v n xs) : Sl w (fun b => ownB v = some b) size v n xs := by
  obtain ⟨A, c, e1, h1, h2, h3, h4⟩ := h.sl
  obtain ⟨A', c', e2, h5⟩ := h.formO
  rw [e1] at e2
  injection e2 with e3 _ e4
  subst e3 e4
  exact ⟨A, c, e1, h1, h2, h3, h5⟩
def AlS (W : World) (p : Nat) : Prop := W.heap[p]? = some (.cells #[.slice none 0 0, .slice none 0 0, .slice none 0 0] 53 (0, 0))
theorem AlS.new (W : World) : AlS (W.alloc (.cells #[.slice none 0 0, .slice none 0 0, .slice none 0 0] 53 (0, 0))) W.heap.size := heap_alloc_new W _
theorem AlS.lt {W : World} {p : Nat} (h : AlS W p) : p < W.heap.size := (Array.getElem?_eq_some_iff.1 h).1
theorem AlS.drew {W : World} {p : Nat} (h : AlS W p) : AlS W.drew p := h
theorem AlS.keep {W W' : World} {p : Nat} (h : AlS W p) (hk : Keep (fun _ => False) W W') : AlS W' p ∧ p < W.heap.size := ⟨(hk.block _ h.lt (fun h => h)).trans h, h.lt⟩
/-- What stands behind the first statement. -/
structure StCut (w : World) (a : Co) (p3 : Nat) (vg vf : Value) (X : World) : Prop where
  box : X.heap[p3]? = some (.cells #[vg, vf, .slice none 0 0] 53 (0, 0))
  res : X.heap[w.heap.size]? = some (.cells #[.slice none 0 0, .slice none 0 0, .slice none 0 0] 53 (0, 0))
  og : Own X (w.heap.size + 1) 3 1 vg a.na.sl.length (iv (ints (gensI a.na)))
  of : Own X (w.heap.size + 1) 3 1 vf a.na.free.length (iv (ints a.na.free))
  keep : Keep (fun _ => False) w X
  hp : w.heap.size + 1 ≤ p3
theorem StCut.mk1 {w X0 w4 w5 : World} {a : Co} {vg vf : Value} (h0 : X0.heap[w.heap.size]? = some (.cells #[.slice none 0 0, .slice none 0 0, .slice none 0 0] 53 (0, 0)) ∧ Keep (fun _ => False) w X0) (hz : w.heap.size + 1 ≤ X0.heap.size) (k5 : Keep (fun _ => False) X0 w5) (k45 : Keep (fun _ => False) w4 w5)
    (o4 : Own w4 X0.heap.size 3 1 vg a.na.sl.length (iv (ints (gensI a.na)))) (o5 : Own w5 X0.heap.size 3 1 vf a.na.free.length (iv (ints a.na.free))) : StCut w a w5.heap.size vg vf (w5.alloc (.cells #[vg, vf, .slice none 0 0] 53 (0, 0))) :=
  have ka : Keep (fun _ => False) w5 (w5.alloc (.cells #[vg, vf, .slice none 0 0] 53 (0, 0))) := (Keep.refl _ w5).alloc _
  ⟨heap_alloc_new w5 _, ((k5.trans ka (fun _ _ h => h)).block _ (by omega) (fun h => h)).trans h0.1, ((o4.keep k45 (fun _ _ h => h)).keep ka (fun _ _ h => h)).mono hz, (o5.keep ka (fun _ _ h => h)).mono hz, h0.2.trans (k5.trans ka (fun _ _ h => h)) (fun _ _ h => h), Nat.le_trans hz k5.size⟩
theorem StCut.mk2 {w X0 w4 w5 : World} {a : Co} {vg vf : Value} {p3 : Nat} (h0 : X0.heap[w.heap.size]? = some (.cells #[.slice none 0 0, .slice none 0 0, .slice none 0 0] 53 (0, 0)) ∧ Keep (fun _ => False) w X0) (hz : w.heap.size + 1 ≤ X0.heap.size) (k5 : Keep (fun _ => False) X0 w5) (k45 : Keep (fun _ => False) w4 w5)
    (o4 : Own w4 X0.heap.size 3 1 vg a.na.sl.length (iv (ints (gensI a.na)))) (o5 : Own w5 X0.heap.size 3 1 vf a.na.free.length (iv (ints a.na.free))) (al : AlS w5 p3) (hp : X0.heap.size ≤ p3) : StCut w a p3 vg vf (((w5.setCell ⟨p3, 0, none⟩ vg).setCell ⟨p3, 1, none⟩ vf).setCell ⟨p3, 2, none⟩ (.slice none 0 0)) :=
  have ka : Keep (fun b => b = p3) w5 (((w5.setCell ⟨p3, 0, none⟩ vg).setCell ⟨p3, 1, none⟩ vf).setCell ⟨p3, 2, none⟩ (.slice none 0 0)) := Keep.setCell (p := ⟨p3, 2, none⟩) (Keep.setCell (p := ⟨p3, 1, none⟩) (Keep.setCell (p := ⟨p3, 0, none⟩) (Keep.refl (fun b => b = p3) w5) (.inr rfl) _) (.inr rfl) _) (.inr rfl) _
  ⟨heap_3J al _ _ _, (ka.block _ (by have := k5.size; omega) (fun h => by omega)).trans ((k5.block _ (by omega) (fun h => h)).trans h0.1), ((o4.keep k45 (fun _ _ h => h)).keep ka (fun k e h => (o4.keep k45 (fun _ _ h => h)).ne_cells al (by decide) (by rw [← h]; exact e))).mono hz, (o5.keep ka (fun k e h => o5.ne_cells al (by decide) (by rw [← h]; exact e))).mono hz, h0.2.trans ((k5.mono (T := fun b => b = p3) (fun _ _ h => h.elim)).trans ka (fun _ _ h => h)) (fun b hb h => by have : b = p3 := h; omega), by omega⟩
section
variable {w : World} {c : Cf} {xp q : Nat} {B : CoB} {a : Co}
def StPost (w : World) (c : Cf) (xp : Nat) (B : CoB) (q : Nat) (a : Co) (e : Ending) (w' : World) : Prop :=
  ∃ u m B', e = .returned u ∧ StM w' (fun b => w.heap.size ≤ b ∧ ¬ CoF xp B' (growC a m) b) u (absC a) ∧ m ≤ a.sigs.length ∧ CoAt w c xp (CoF xp B a) q (growC a m) w' B'
set_option maxHeartbeats 4000000 in
theorem e_state (h : CoM w c xp B q a) (hl : c.l.length ≤ 1000) (hT : Tab w) (hG : ¬ CoF xp B a 0) (hs : ∀ s ∈ a.sigs, s < 18446744073709551616 ∧ s &&& allOf c.l = s) (hok : CoOk c.l a (stN a.na)) :
    Calls Tryz.prog 23 #[.pointer (some ⟨xp, 0, none⟩)] w (StPost w c xp B q a) := by
  have H := Lib.hid h
  have HT := Lib.hid hT
  have HG := Lib.hid hG
  have HS := Lib.hid hs
  have HK := Lib.hid hok
  have GN := Lib.hid (fun X (hk : Keep (fun _ => False) w X) => id_gens (h.names.same hk))
  have FR := Lib.hid (fun X (hk : Keep (fun _ => False) w X) => id_free (h.names.same hk))
  have LT := Lib.hid (fun k (hk : CoF xp B a k) => h.lt k hk)
  have c5 : w.cell? ⟨xp, 5, none⟩ = some (.pointer (some ⟨B.ip, 0, none⟩)) := (cells_of_row' h.box).1 5 _ rfl
  have HB := Lib.hid (heap_alloc_new w (.cells #[.slice none 0 0, .slice none 0 0, .slice none 0 0] 53 (0, 0)))
  clear h hT hG hs hok
  go_enter Tryz.func23, Tryz.ntmps23
  go_upto_region 3 with fail
  refine wp_world (S := fun X => X.heap[w.heap.size]? = some (.cells #[.slice none 0 0, .slice none 0 0, .slice none 0 0] 53 (0, 0)) ∧ Keep (fun _ => False) w X ∧ w.heap.size + 1 ≤ X.heap.size) ⟨HB.out, by exact (by repeat first | (with_reducible assumption) | (with_reducible exact Keep.refl _ _) | (with_reducible refine Keep.alloc ?_ _) | (with_reducible refine Keep.drew ?_) | (with_reducible refine Keep.drewN ?_ _) | (with_reducible refine Keep.setCell ?_ (.inl (by first | omega | (simp; done) | (simp; omega) | fail)) _)), by simp⟩ ?_
  rintro X0 ⟨hx1, hx2, hx3⟩
  have HX0 := Lib.hid (And.intro hx1 hx2)
  clear hx1 hx2
  have CE := Lib.hid (show ∀ W', Keep (fun _ => False) X0 W' → (W'.cell? ⟨xp, 5, none⟩ = some (.pointer (some ⟨B.ip, 0, none⟩))) ∧ Keep (fun _ => False) X0 W' from fun W' hk => ⟨(HX0.out.2.trans hk (fun _ _ h => h)).cell (fun h => h) c5, hk⟩)
  clear c5
  go_cut [3] (fun t wx => ∃ p3 vg vf, t = .pointer (some ⟨p3, 0, none⟩) ∧ Hid (StCut w a p3 vg vf wx))
  case first =>
    go_region_held3 (fun W' => (W'.cell? ⟨xp, 5, none⟩ = some (.pointer (some ⟨B.ip, 0, none⟩))) ∧ Keep (fun _ => False) X0 W') (exact CE.out _ (by exact (by repeat first | (with_reducible assumption) | (with_reducible exact Keep.refl _ _) | (with_reducible refine Keep.alloc ?_ _) | (with_reducible refine Keep.drew ?_) | (with_reducible refine Keep.drewN ?_ _) | (with_reducible refine Keep.setCell ?_ (.inl (by first | omega | (simp; done) | (simp; omega) | fail)) _)))) (first
      | (go_at_call 38; (with_reducible refine (GN.out _ (by exact HX0.out.2.trans (T := fun _ => False) (by exact (by repeat first | (with_reducible assumption) | (with_reducible exact Keep.refl _ _) | (with_reducible refine Keep.alloc ?_ _) | (with_reducible refine Keep.drew ?_) | (with_reducible refine Keep.drewN ?_ _) | (with_reducible refine Keep.setCell ?_ (.inl (by first | omega | (simp; done) | (simp; omega) | fail)) _))) (fun _ _ h => h))).mono ?_); rintro e w4 ⟨A4, c4, rfl, ho4, hk4⟩; have k4 : Keep (fun _ => False) X0 w4 := Keep.trans (T := fun _ => False) (by exact (by repeat first | (with_reducible assumption) | (with_reducible exact Keep.refl _ _) | (with_reducible refine Keep.alloc ?_ _) | (with_reducible refine Keep.drew ?_) | (with_reducible refine Keep.drewN ?_ _) | (with_reducible refine Keep.setCell ?_ (.inl (by first | omega | (simp; done) | (simp; omega) | fail)) _))) hk4 (fun _ _ h => h); (first | (have k54 : Keep (fun _ => False) w5 w4 := Keep.trans (T := fun _ => False) (by exact (by repeat first | (with_reducible assumption) | (with_reducible exact Keep.refl _ _) | (with_reducible refine Keep.alloc ?_ _) | (with_reducible refine Keep.drew ?_) | (with_reducible refine Keep.drewN ?_ _) | (with_reducible refine Keep.setCell ?_ (.inl (by first | omega | (simp; done) | (simp; omega) | fail)) _))) hk4 (fun _ _ h => h)) | skip); have O4 := Lib.hid (ho4.mono (base' := X0.heap.size) (show Keep (fun _ => False) X0 _ by exact (by repeat first | (with_reducible assumption) | (with_reducible exact Keep.refl _ _) | (with_reducible refine Keep.alloc ?_ _) | (with_reducible refine Keep.drew ?_) | (with_reducible refine Keep.drewN ?_ _) | (with_reducible refine Keep.setCell ?_ (.inl (by first | omega | (simp; done) | (simp; omega) | fail)) _))).size); have z4 := k4.size; (first | (have aa := AlS.keep AL5 k54; obtain ⟨AL4, al4⟩ := aa) | (have aa := AlS.keep (AlS.new _) hk4; obtain ⟨AL4, al4⟩ := aa) | (have aa := AlS.keep (AlS.drew (AlS.new _)) hk4; obtain ⟨AL4, al4⟩ := aa) | skip); (first | (have cc := cells3 AL4; obtain ⟨q0, q1, q2, qf⟩ := cc) | skip); clear ho4 hk4)
      | (go_at_call 39; (with_reducible refine (FR.out _ (by exact HX0.out.2.trans (T := fun _ => False) (by exact (by repeat first | (with_reducible assumption) | (with_reducible exact Keep.refl _ _) | (with_reducible refine Keep.alloc ?_ _) | (with_reducible refine Keep.drew ?_) | (with_reducible refine Keep.drewN ?_ _) | (with_reducible refine Keep.setCell ?_ (.inl (by first | omega | (simp; done) | (simp; omega) | fail)) _))) (fun _ _ h => h))).mono ?_); rintro e w5 ⟨A5, c5, rfl, ho5, hb5⟩; have hk5 := Keep.of_below' hb5; have k5 : Keep (fun _ => False) X0 w5 := Keep.trans (T := fun _ => False) (by exact (by repeat first | (with_reducible assumption) | (with_reducible exact Keep.refl _ _) | (with_reducible refine Keep.alloc ?_ _) | (with_reducible refine Keep.drew ?_) | (with_reducible refine Keep.drewN ?_ _) | (with_reducible refine Keep.setCell ?_ (.inl (by first | omega | (simp; done) | (simp; omega) | fail)) _))) hk5 (fun _ _ h => h); (first | (have k45 : Keep (fun _ => False) w4 w5 := Keep.trans (T := fun _ => False) (by exact (by repeat first | (with_reducible assumption) | (with_reducible exact Keep.refl _ _) | (with_reducible refine Keep.alloc ?_ _) | (with_reducible refine Keep.drew ?_) | (with_reducible refine Keep.drewN ?_ _) | (with_reducible refine Keep.setCell ?_ (.inl (by first | omega | (simp; done) | (simp; omega) | fail)) _))) hk5 (fun _ _ h => h)) | skip); have O5 := Lib.hid (ho5.mono (base' := X0.heap.size) (show Keep (fun _ => False) X0 _ by exact (by repeat first | (with_reducible assumption) | (with_reducible exact Keep.refl _ _) | (with_reducible refine Keep.alloc ?_ _) | (with_reducible refine Keep.drew ?_) | (with_reducible refine Keep.drewN ?_ _) | (with_reducible refine Keep.setCell ?_ (.inl (by first | omega | (simp; done) | (simp; omega) | fail)) _))).size); have z5 := k5.size; (first | (have aa := AlS.keep AL4 k45; obtain ⟨AL5, al5⟩ := aa) | (have aa := AlS.keep (AlS.new _) hk5; obtain ⟨AL5, al5⟩ := aa) | (have aa := AlS.keep (AlS.drew (AlS.new _)) hk5; obtain ⟨AL5, al5⟩ := aa) | skip); (first | (have cc := cells3 AL5; obtain ⟨r0, r1, r2, rf⟩ := cc) | skip); clear ho5 hk5 hb5)
      | fail)
    all_goals
      go_wp2_with fail
      go_meet
      first
        | exact ⟨_, _, _, rfl, Lib.hid (StCut.mk1 HX0.out hx3 k5 k45 O4.out O5.out)⟩
        | exact ⟨_, _, _, rfl, Lib.hid (StCut.mk2 HX0.out hx3 k5 k45 O4.out O5.out AL5 (by first | omega | exact Nat.le_refl _))⟩
  case rest =>
    obtain ⟨p3, vg, vf, rfl, hst⟩ := hcut
    clear CE GN FR
    go_upto_region 4 with fail
    refine wp_world (S := fun X => StCut w a p3 vg vf X) hst.out ?_
    rintro X1 hX1
    clear hst
    obtain ⟨Ag, cg, rfl, -⟩ := hX1.og.form
    obtain ⟨Af, cf, rfl, -⟩ := hX1.of.form
    have HX1 := Lib.hid hX1
    clear hX1
    generalize hvg : Value.slice Ag a.na.sl.length cg = vg at *
    generalize hvf : Value.slice Af a.na.free.length cf = vf at *
    have HVV := Lib.hid (And.intro hvg hvf)
    clear hvg hvf
    have TG1 := Lib.hid (And.intro (HT.out.same HX1.out.keep) HG.out)
    have QY := Lib.hid (show ∀ X, Keep (fun _ => False) X1 X → Calls Tryz.prog 40 #[.pointer (some ⟨xp, 0, none⟩), .int .u64 0, .int .u64 0] X (QyPost X c xp B q a (List.range a.sigs.length)) from fun X hk =>
      e_query sort_ids (H.out.same (HX1.out.keep.trans hk (fun _ _ h => h))) hl (TG1.out.1.same hk) TG1.out.2 HS.out 0 0 (by decide) (by decide) (List.range a.sigs.length) (sgTo_all _ _))
    go_wp2_with fail
    with_reducible refine (QY.out _ (by exact (by repeat first | (with_reducible assumption) | (with_reducible exact Keep.refl _ _) | (with_reducible refine Keep.alloc ?_ _) | (with_reducible refine Keep.drew ?_) | (with_reducible refine Keep.drewN ?_ _) | (with_reducible refine Keep.setCell ?_ (.inl (by first | omega | (simp; done) | (simp; omega) | fail)) _)))).mono ?_
    rintro e w4 ⟨A4, c4, R, m, B4, rfl, ho4, hnf4, hp4, hs4, hm4, hat4⟩
    have hR := (query_is HK.out (fun k g h => stN_lt h) List.nodup_range hp4 hs4).trans (names_all HK.out H.out.few)
    obtain ⟨E, hE⟩ : ∃ E, entsC a (stN a.na) a.na.sl.length = E := ⟨_, rfl⟩
    rw [hE] at hR
    obtain ⟨N, hN⟩ : ∃ N, R.length = N := ⟨_, rfl⟩
    have hEN : E.length = N := by rw [← hN, hR, List.length_map]
    have hN4 : N ≤ 1024 := by
      rw [← hEN, ← hE]
      have h1 : (entsC a (stN a.na) a.na.sl.length).length ≤ a.na.sl.length := by
        have := List.length_filterMap_le (fun i => (stN a.na i).map fun (g : Nat) => (⟨⟨(i : Int), (g : Int)⟩, entP a i⟩ : EnZ)) (List.range a.na.sl.length)
        rw [List.length_range] at this
        exact this
      have h2 := H.out.names.ok.few
      have h3 := H.out.names.ok.ents
      omega
    have VW := Lib.hid (show ∀ k, k < N → ∃ i g : Nat, E[k]? = some ⟨⟨(i : Int), (g : Int)⟩, entP a i⟩ ∧ R.getD k default = ⟨(i : Int), (g : Int)⟩ ∧ Stands a i from fun k hk => by
      have hk2 : k < E.length := by omega
      have hm : E[k] ∈ entsC a (stN a.na) a.na.sl.length := by rw [hE]; exact List.getElem_mem hk2
      obtain ⟨i, g, hi, hL, he⟩ := entsC_mem.1 hm
      refine ⟨i, g, by rw [List.getElem?_eq_getElem hk2, he], ?_, HK.out.stands hL⟩
      rw [hR, List.getD_eq_getElem?_getD, List.getElem?_map, List.getElem?_eq_getElem hk2, he]
      rfl)
    have p3n : ¬ CoF xp B4 (growC a m) p3 := fun e => by
      have hp := HX1.out.hp
      rcases hat4.2.2 _ e with e | e
      · have := LT.out _ e; omega
      · have := (Array.getElem?_eq_some_iff.1 HX1.out.box).1; omega
    have w2n : ¬ CoF xp B4 (growC a m) w.heap.size := fun e => by
      rcases hat4.2.2 _ e with e | e
      · have := LT.out _ e; omega
      · have := (Array.getElem?_eq_some_iff.1 HX1.out.res).1; omega
    have kf : ∀ b, w.heap.size ≤ b → ¬ CoF xp B a b := fun b hb e => by have := LT.out _ e; omega
    have hb3 := (hat4.2.1.block p3 (Array.getElem?_eq_some_iff.1 HX1.out.box).1 (kf p3 (by have := HX1.out.hp; omega))).trans HX1.out.box
    have hbr := (hat4.2.1.block w.heap.size (Array.getElem?_eq_some_iff.1 HX1.out.res).1 (kf _ (Nat.le_refl _))).trans HX1.out.res
    have OG := Lib.hid (HX1.out.og.keep hat4.2.1 (fun b e h => kf b (by have := (HX1.out.og.ownB b e).1; omega) h))
    have OF := Lib.hid (HX1.out.of.keep hat4.2.1 (fun b e h => kf b (by have := (HX1.out.of.ownB b e).1; omega) h))
    have NG := Lib.hid (show ∀ b, (ownB vg = some b ∨ ownB vf = some b) → w.heap.size ≤ b ∧ ¬ CoF xp B4 (growC a m) b from fun b hb => by
      have h2 : w.heap.size + 1 ≤ b ∧ b < X1.heap.size := hb.elim (fun e => HX1.out.og.ownB b e) (fun e => HX1.out.of.ownB b e)
      refine ⟨by omega, fun e => ?_⟩
      rcases hat4.2.2 _ e with e | e
      · have := LT.out _ e; omega
      · omega)
    rw [hN] at ho4
    have O4 := Lib.hid ho4
    have HB4 := Lib.hid (And.intro hb3 hbr)
    have HAT := Lib.hid hat4
    have TG4 := Lib.hid (hat4.tab TG1.out.1 TG1.out.2)
    have PN := Lib.hid (And.intro p3n w2n)
    have HR := Lib.hid (And.intro hN (And.intro hEN hE))
    have hp3 := HX1.out.hp
    rw [hN]
    have z14 := hat4.2.1.size
    clear hb3 hbr ho4 hnf4 hp4 hs4 hat4 hR hE hN hEN p3n w2n kf QY
    go_wp2
    go_loopw [26] (fun i wr => ∃ (k : Nat) (A3 : Option Addr) (c3 : Nat), k ≤ N ∧ i = .int .i64 (k : Int) ∧ Hid (wr.heap[p3]? = some (.cells #[vg, vf, .slice A3 k c3] 53 (0, 0))) ∧ Hid (NBX entN (fun b => w4.heap.size ≤ b) w4.heap.size 94 wr (.slice A3 k c3) (E.take k)) ∧ Hid (Keep (fun b => b = p3) w4 wr)) (fun i _ => N - (intOf i).toNat)
    case atStart => exact ⟨0, none, 0, by omega, rfl, Lib.hid HB4.out.1, Lib.hid (NBX.nil _ _ _ _ _), Lib.hid (Keep.refl _ _)⟩
    case round =>
      obtain ⟨k, A3, c3, hk, rfl, hbox, hnb, hkw⟩ := hrel
      have hzw := hkw.out.size
      by_cases hlt : k < N
      · have hi : (k : Int) < (N : Int) := by omega
        have hi0 : (0 : Int) ≤ (k : Int) := by omega
        obtain ⟨i, g, hEk, hRk, ST⟩ := VW.out k hlt
        have HC := Lib.hid (HAT.out.1.keep hkw.out (fun b hb e => PN.out.1 (by rw [← show b = p3 from e]; exact hb)))
        obtain ⟨bb, off, rfl, -, i0, i1⟩ := ids_at (O4.out.keep hkw.out (fun b e h => O4.out.ne_cells HB4.out.1 (by decide) (by rw [← show b = p3 from h]; exact e))).sl HR.out.1 hlt
        rw [hRk] at i0 i1
        simp only at i0 i1
        have hnd4 : (spAt a i).node < (growC a m).tabs.length := by have := ST.nd; unfold growC; simp; omega
        obtain ⟨gT, cT, hcT1, hcT2, VT⟩ := HC.out.viewT hnd4
        obtain ⟨gS, cS, -, -, gSx, hgS, hcS1, hcS2, VS⟩ := HC.out.viewS (by have := ST.sp; show 0 < a.spots.length; omega)
        have hsp := ST.sp
        have hnd := hnd4
        have TD := Lib.hid (show Tb wr (B4.tp (spAt a i).node) (B4.mb (spAt a i).node) (B4.tv (spAt a i).node) (B4.cp (spAt a i).node) (B4.FC (spAt a i).node) (sgAt a (spAt a i).node) (szOf c.l) (tbAt a (spAt a i).node).ids (tbAt a (spAt a i).node).col ∧ ∀ d, d ∈ bl (sgAt a (spAt a i).node) 64 → ((tbAt a (spAt a i).node).col d).length = (tbAt a (spAt a i).node).ids.length from by
          have h1 := HC.out.tab (spAt a i).node (tbAt (growC a m) (spAt a i).node) (getD_at tz0 hnd4)
          rw [tbAt_grow] at h1
          exact h1)
        have TW := Lib.hid (TG4.out.1.keep hkw.out (fun e => by have h1 := TG1.out.1.lt; have h2 := hp3; have h3 := HT.out.lt; omega))
        have PT := Lib.hid (show ∀ X, Keep (fun _ => False) wr X → Calls Tryz.prog 41 #[.pointer (some ⟨B4.tp (spAt a i).node, 0, none⟩), .int .i64 ((spAt a i).row : Int)] X fun e w' => ∃ A n cc, e = .returned (.tuple #[.slice A n cc, .int .i64 0]) ∧ NBX parN (fun b => X.heap.size ≤ b) X.heap.size 136 w' (.slice A n cc) (entP a i) ∧ Below X.heap.size X w' from fun X hk2 => by
          have := tb_partsX (TD.out.1.same hk2) TD.out.2 (TW.out.same hk2) ((spAt a i).row : Int)
          rw [rowC_in ST.rw_, if_pos rfl, Int.toNat_natCast] at this
          exact this)
        have SX := Lib.hid (show ∀ W', Keep (fun _ => False) wr W' → W'.cell? ⟨xp, 7, none⟩ = some (.slice (some ⟨gT, 0, none⟩) (growC a m).tabs.length cT) ∧ W'.cell? ⟨xp, 8, none⟩ = some (.slice (some ⟨gS, 0, none⟩) a.spots.length cS) ∧ W'.cell? ⟨gS, i * 3, none⟩ = some (.int .i64 ((spAt a i).node : Int)) ∧ W'.cell? ⟨gS, i * 3 + 1, none⟩ = some (.int .i64 ((spAt a i).row : Int)) ∧ W'.cell? ⟨gS, i * 3 + 2, none⟩ = some (.bool (spAt a i).there) ∧ W'.cell? ⟨gT, (spAt a i).node, none⟩ = some (.pointer (some ⟨B4.tp (spAt a i).node, 0, none⟩)) from fun W' hk => ⟨(VT W' hk).1, (VS W' hk).1, ((VS W' hk).2.1 i hsp).1, ((VS W' hk).2.1 i hsp).2.1, ((VS W' hk).2.1 i hsp).2.2, (VT W' hk).2⟩)
        have HEK := Lib.hid hEk
        clear ST VT VS hEk hRk hnd4
        generalize entP a i = PP at *
        generalize (spAt a i).node = j at *
        generalize (spAt a i).row = r at *
        generalize (spAt a i).there = th at *
        generalize a.spots.length = ns at *
        generalize (growC a m).tabs.length = nt at *
        have i2 : (i : Int) < (ns : Int) := by omega
        have j0 : (j : Int) < (nt : Int) := by omega
        go_upto_region 7 with fail
        refine wp_world (S := fun Y => Y.heap[wr.heap.size]? = some (.cells #[.int .i64 (i : Int), .int .i64 (g : Int)] 85 (0, 0)) ∧ Keep (fun _ => False) wr Y) ⟨heap_alloc_new wr _, by exact (by repeat first | (with_reducible assumption) | (with_reducible exact Keep.refl _ _) | (with_reducible refine Keep.alloc ?_ _) | (with_reducible refine Keep.drew ?_) | (with_reducible refine Keep.drewN ?_ _) | (with_reducible refine Keep.setCell ?_ (.inl (by first | omega | (simp; done) | (simp; omega) | fail)) _))⟩ ?_
        rintro Y1 ⟨hy1, hy2⟩
        have HY1 := Lib.hid (And.intro hy1 hy2)
        clear hy1 hy2
        have zY1 : wr.heap.size < Y1.heap.size := (Array.getElem?_eq_some_iff.1 HY1.out.1).1
        obtain ⟨d0, d1, df⟩ := cells2 HY1.out.1
        have SY := Lib.hid (show ∀ W', Keep (fun _ => False) Y1 W' → ((W'.cell? ⟨xp, 8, none⟩ = some (.slice (some ⟨gS, 0, none⟩) ns cS) ∧ W'.cell? ⟨wr.heap.size, 0, none⟩ = some (.int .i64 (i : Int)) ∧ W'.cell? ⟨gS, i * 3, none⟩ = some (.int .i64 (j : Int)) ∧ W'.cell? ⟨gS, i * 3 + 1, none⟩ = some (.int .i64 (r : Int)) ∧ W'.cell? ⟨gS, i * 3 + 2, none⟩ = some (.bool th)) ∧ Keep (fun _ => False) Y1 W') from fun W' hk => ⟨by
          obtain ⟨a1, a2, a3, a4, a5, a6⟩ := SX.out W' (HY1.out.2.trans hk (fun _ _ h => h))
          exact ⟨a2, hk.cell (fun h => h) d0, a3, a4, a5⟩, hk⟩)
        go_region_held3 (fun W' => (W'.cell? ⟨xp, 8, none⟩ = some (.slice (some ⟨gS, 0, none⟩) ns cS) ∧ W'.cell? ⟨wr.heap.size, 0, none⟩ = some (.int .i64 (i : Int)) ∧ W'.cell? ⟨gS, i * 3, none⟩ = some (.int .i64 (j : Int)) ∧ W'.cell? ⟨gS, i * 3 + 1, none⟩ = some (.int .i64 (r : Int)) ∧ W'.cell? ⟨gS, i * 3 + 2, none⟩ = some (.bool th)) ∧ Keep (fun _ => False) Y1 W') (exact SY.out _ (by exact (by repeat first | (with_reducible assumption) | (with_reducible exact Keep.refl _ _) | (with_reducible refine Keep.alloc ?_ _) | (with_reducible refine Keep.drew ?_) | (with_reducible refine Keep.drewN ?_ _) | (with_reducible refine Keep.setCell ?_ (.inl (by first | omega | (simp; done) | (simp; omega) | fail)) _)))) (fail)
        go_upto_region 8 with fail
        refine wp_world (S := fun X => Keep (fun _ => False) Y1 X ∧ X.heap[Y1.heap.size]? = some (.cells #[.int .i64 (j : Int), .int .i64 (r : Int), .bool th] 89 (0, 0))) ⟨by exact (by repeat first | (with_reducible assumption) | (with_reducible exact Keep.refl _ _) | (with_reducible refine Keep.alloc ?_ _) | (with_reducible refine Keep.drew ?_) | (with_reducible refine Keep.drewN ?_ _) | (with_reducible refine Keep.setCell ?_ (.inl (by first | omega | (simp; done) | (simp; omega) | fail)) _)), heap_alloc_at _ _ _ (by simp)⟩ ?_
        rintro Y2 ⟨hk2, hs2⟩
        have KY2 := Lib.hid (HY1.out.2.trans hk2 (fun _ _ h => h))
        have HI2 := Lib.hid ((hk2.block wr.heap.size zY1 (fun h => h)).trans HY1.out.1)
        have zY2 : Y1.heap.size < Y2.heap.size := (Array.getElem?_eq_some_iff.1 hs2).1
        obtain ⟨s0, s1, s2, sf⟩ := cells3 hs2
        obtain ⟨a1, a2, a3, a4, a5, a6⟩ := SX.out Y2 KY2.out
        clear hk2 hs2 SY d0 d1 df
        go_cut [7, 8] (fun t7 t8 wx => ∃ A6 n6 c6, t7 = .slice A6 n6 c6 ∧ t8 = .int .i64 0 ∧ Hid (Keep (fun _ => False) Y2 wx ∧ NS parN wx (fun b => wr.heap.size ≤ b) (.slice A6 n6 c6) PP))
        case first =>
          go_region_law (first
            | (go_simp; go_at_call 41; (with_reducible refine (PT.out _ (by exact KY2.out.trans (T := fun _ => False) (by exact (by repeat first | (with_reducible assumption) | (with_reducible exact Keep.refl _ _) | (with_reducible refine Keep.alloc ?_ _) | (with_reducible refine Keep.drew ?_) | (with_reducible refine Keep.drewN ?_ _) | (with_reducible refine Keep.setCell ?_ (.inl (by first | omega | (simp; done) | (simp; omega) | fail)) _))) (fun _ _ h => h))).mono ?_); rintro e w6 ⟨A6, n6, c6, rfl, hn6, hb6⟩; have K6 := Lib.hid (show Keep (fun _ => False) Y2 w6 from Keep.trans (T := fun _ => False) (by exact (by repeat first | (with_reducible assumption) | (with_reducible exact Keep.refl _ _) | (with_reducible refine Keep.alloc ?_ _) | (with_reducible refine Keep.drew ?_) | (with_reducible refine Keep.drewN ?_ _) | (with_reducible refine Keep.setCell ?_ (.inl (by first | omega | (simp; done) | (simp; omega) | fail)) _))) (Keep.of_below' hb6) (fun _ _ h => h)); have P6 := Lib.hid (show NS parN w6 (fun b => wr.heap.size ≤ b) (.slice A6 n6 c6) PP from hn6.nsO.mono (fun b _ h => by have hz := KY2.out.size; rcases h with h | h; exact (by (try simp at h); omega); exact (by have h1 := (hn6.own_lt h).1; (try simp at h1); omega))); clear hn6 hb6)
            | fail)
          all_goals
            go_wp2_with fail
            go_meet
            first
              | exact ⟨A6, n6, c6, rfl, rfl, Lib.hid ⟨K6.out, P6.out⟩⟩
              | exact ⟨A6, n6, c6, rfl, rfl, Lib.hid ⟨K6.out.drew, P6.out⟩⟩
        case rest =>
          obtain ⟨A6, n6, c6, rfl, rfl, hcc⟩ := hcut
          clear s0 s1 s2 sf a1 a2 a3 a4 a5 a6
          go_upto_region 9 with fail
          refine wp_world (S := fun X => Keep (fun _ => False) Y2 X ∧ NS parN X (fun b => wr.heap.size ≤ b) (.slice A6 n6 c6) PP) hcc.out ?_
          rintro w6 ⟨hk6, hn6⟩
          have K6 := Lib.hid hk6
          have P6 := Lib.hid hn6
          clear hcc hk6 hn6
          have hb6 := ((KY2.out.trans K6.out (fun _ _ h => h)).block p3 (Array.getElem?_eq_some_iff.1 hbox.out).1 (fun h => h)).trans hbox.out
          obtain ⟨t0, t1, t2, tf⟩ := cells3 hb6
          obtain ⟨d0, d1, df⟩ := cells2 ((K6.out.block wr.heap.size (Array.getElem?_eq_some_iff.1 HI2.out).1 (fun h => h)).trans HI2.out)
          have N6 := Lib.hid (show NBX entN (fun b => w4.heap.size ≤ b) w4.heap.size 94 w6 (.slice A3 k c3) (E.take k) from hnb.out.keep (KY2.out.trans K6.out (fun _ _ h => h)) (fun _ _ h => h) (fun _ _ _ _ h => h))
          have HB6 := Lib.hid hb6
          clear hb6
          have zz6 := (KY2.out.trans K6.out (fun _ _ h => h)).size
          obtain ⟨ie, hie, he0, he1, he2⟩ := info_parts info_ent
          go_wp2_with (first
            | (at_builtin; refine wpList_pushY (by rfl) _ _ _ (by rfl) entN (fun b => w4.heap.size ≤ b) w4.heap.size 94 ie _ 40 Tryz.underlying51 hie he0 he1 he2 rfl _ (E.take k) k (by rw [List.length_take, HR.out.2.1]; omega) (by rfl) (N6.out.keep ((Keep.refl (fun _ => False) w6).alloc _) (fun _ _ h => h) (fun _ _ _ _ h => h)) w6.heap.size 1 ⟨⟨(i : Int), (g : Int)⟩, PP⟩ (.slice A6 n6 c6) (by rfl) (fun j u hu => cells_of_row' (heap_alloc_new w6 _) |>.1 j u (by simpa [entN] using hu)) (NS.mono (NS.same P6.out ((Keep.refl (fun _ => False) w6).alloc _)) (fun b _ h => ⟨by omega, fun e => by have := (hnb.out.own_lt e).2; omega⟩)) (by unfold maxLen; omega) (by omega) (by simp; omega) ?_)
            | fail)
          intro A7 c7 w7 hn7 hk7 ho7
          have k67 : Keep (fun b => ownB (Value.slice A3 k c3) = some b) w6 w7 := Keep.trans (T := fun b => ownB (Value.slice A3 k c3) = some b) (S := fun b => ownB (Value.slice A3 k c3) = some b) (by exact (by repeat first | (with_reducible assumption) | (with_reducible exact Keep.refl _ _) | (with_reducible refine Keep.alloc ?_ _) | (with_reducible refine Keep.drew ?_) | (with_reducible refine Keep.drewN ?_ _) | (with_reducible refine Keep.setCell ?_ (.inl (by first | omega | (simp; done) | (simp; omega) | fail)) _))) hk7 (fun _ _ h => h)
          have hb7 := (k67.block p3 (Array.getElem?_eq_some_iff.1 HB6.out).1 (fun e => by have := (hnb.out.own_lt e).1; have := (Array.getElem?_eq_some_iff.1 HX1.out.box).1; omega)).trans HB6.out
          have kw7 : Keep (fun b => b = p3) w4 w7 := hkw.out.trans ((KY2.out.trans K6.out (fun _ _ h => h)).mono (T := fun b => ownB (Value.slice A3 k c3) = some b) (fun _ _ h => h.elim) |>.trans k67 (fun _ _ h => h)) (fun b hb e => by have := (hnb.out.own_lt e).1; omega)
          have HB7 := Lib.hid hb7
          have KW7 := Lib.hid kw7
          have N7 := Lib.hid (show NBX entN (fun b => w4.heap.size ≤ b) w4.heap.size 94 w7 (.slice A7 (k + 1) c7) (E.take (k + 1)) from by rw [List.take_add_one, HEK.out]; exact hn7)
          clear hn7 hk7 ho7 k67 kw7 t0 t1 t2 tf d0 d1 df
          obtain ⟨t0, t1, t2, tf⟩ := cells3 hb7
          clear hb7
          have zp : p3 < w4.heap.size := by have := (Array.getElem?_eq_some_iff.1 HX1.out.box).1; omega
          have R1 := Lib.hid (show (w7.setCell ⟨p3, 2, none⟩ (.slice A7 (k + 1) c7)).heap[p3]? = some (.cells #[vg, vf, .slice A7 (k + 1) c7] 53 (0, 0)) from heap_setCell_same w7 p3 2 _ _ _ HB7.out)
          have R2 := Lib.hid (show NBX entN (fun b => w4.heap.size ≤ b) w4.heap.size 94 (w7.setCell ⟨p3, 2, none⟩ (.slice A7 (k + 1) c7)) (.slice A7 (k + 1) c7) (E.take (k + 1)) from N7.out.keep (Keep.setCell (p := ⟨p3, 2, none⟩) (Keep.refl (fun b => b = p3) w7) (.inr rfl) _) (fun b e h => by have := (N7.out.own_lt e).1; have : b = p3 := h; omega) (fun b _ hb _ h => by have : b = p3 := h; omega))
          have R3 := Lib.hid (show Keep (fun b => b = p3) w4 (w7.setCell ⟨p3, 2, none⟩ (.slice A7 (k + 1) c7)) from Keep.setCell (p := ⟨p3, 2, none⟩) KW7.out (.inr rfl) _)
          go_wp2
          go_roundw
          case rel => exact ⟨k + 1, A7, c7, by omega, by go_num, R1, R2, R3⟩
          case measure => simp [intOf]; omega
      · obtain rfl : k = N := by omega
        have f1 : ¬ (k : Int) < (k : Int) := by omega
        obtain ⟨t0, t1, t2, tf⟩ := cells3 hbox.out
        have hbr := (hkw.out.block w.heap.size (Array.getElem?_eq_some_iff.1 HB4.out.2).1 (fun h => by omega)).trans HB4.out.2
        obtain ⟨v0, v1, v2, vff⟩ := cells3 hbr
        obtain ⟨hvg, hvf⟩ := HVV.out
        subst hvg hvf
        have KF := Lib.hid (show Keep (fun b => b = w.heap.size) wr (((wr.setCell ⟨w.heap.size, 0, none⟩ (.slice Ag a.na.sl.length cg)).setCell ⟨w.heap.size, 1, none⟩ (.slice Af a.na.free.length cf)).setCell ⟨w.heap.size, 2, none⟩ (.slice A3 k c3)) from Keep.setCell (p := ⟨w.heap.size, 2, none⟩) (Keep.setCell (p := ⟨w.heap.size, 1, none⟩) (Keep.setCell (p := ⟨w.heap.size, 0, none⟩) (Keep.refl (fun b => b = w.heap.size) wr) (.inr rfl) _) (.inr rfl) _) (.inr rfl) _)
        have HBR := Lib.hid hbr
        have EK := Lib.hid (show E.take k = (absC a).ents from by rw [List.take_of_length_le (by rw [HR.out.2.1]; exact Nat.le_refl _), ← HR.out.2.2]; rfl)
        have zr : w.heap.size < w4.heap.size := (Array.getElem?_eq_some_iff.1 HB4.out.2).1
        go_wp2
        refine bodyPost_ret (results_stE Tryz.results23 _ _ w.heap.size (.slice Ag a.na.sl.length cg) (.slice Af a.na.free.length cf) (.slice A3 k c3) ?_ ?_) ?_ ?_
        · rfl
        · exact heap_3J HBR.out _ _ _
        · rfl
        · refine ⟨_, m, B4, rfl, ⟨_, _, _, rfl, ?_, ?_, ?_⟩, hm4, ?_⟩
          · rw [show (absC a).gens.length = a.na.sl.length by simp [absC, ints, gensI]]
            exact (slO ((OG.out.keep hkw.out (fun b e h => OG.out.ne_cells HB4.out.1 (by decide) (by rw [← show b = p3 from h]; exact e))).keep KF.out (fun b e h => by have := (OG.out.ownB b e).1; have : b = w.heap.size := h; omega))).mono (fun b _ e => NG.out b (.inl e))
          · rw [show (absC a).free.length = a.na.free.length by simp [absC, ints]]
            exact (slO ((OF.out.keep hkw.out (fun b e h => OF.out.ne_cells HB4.out.1 (by decide) (by rw [← show b = p3 from h]; exact e))).keep KF.out (fun b e h => by have := (OF.out.ownB b e).1; have : b = w.heap.size := h; omega))).mono (fun b _ e => NG.out b (.inr e))
          · rw [← EK.out]
            refine (hnb.out.keep KF.out (fun b e h => by have := (hnb.out.own_lt e).1; have : b = w.heap.size := h; omega) (fun b _ hb _ h => by have : b = w.heap.size := h; omega)).nsO.mono (fun b _ hb => ?_)
            have hb2 : w4.heap.size ≤ b := hb.elim id (fun e => (hnb.out.own_lt e).1)
            exact ⟨by omega, fun e => by have := HAT.out.1.lt b e; omega⟩
          · have hk6 : Keep (fun b => b = p3 ∨ b = w.heap.size) w4 (((wr.setCell ⟨w.heap.size, 0, none⟩ (.slice Ag a.na.sl.length cg)).setCell ⟨w.heap.size, 1, none⟩ (.slice Af a.na.free.length cf)).setCell ⟨w.heap.size, 2, none⟩ (.slice A3 k c3)) := (hkw.out.mono (T := fun b => b = p3 ∨ b = w.heap.size) (fun _ _ h => .inl h)).trans KF.out (fun _ _ h => .inr h)
            exact (CoAt.from_ HX1.out.keep HAT.out).besides hk6 (fun b hb e => e.elim (fun e => PN.out.1 (by rw [← e]; exact hb)) (fun e => PN.out.2 (by rw [← e]; exact hb))) (fun b e => e.elim (fun e => by omega) (fun e => by omega))
end
end Go.Proofs.YtdeifjnhbdkkgaaGreatDoor

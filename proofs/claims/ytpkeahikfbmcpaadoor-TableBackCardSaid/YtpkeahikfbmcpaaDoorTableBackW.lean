/- The walk of vivariumlaw09.TableBack: it returns true, old memory unchanged. -/
import Derived.Test.YtpkeahikfbmcpaaDoorTabY
import Derived.Test.YtpkeahikfbmcpaaDoorTabA
namespace Go.Proofs.YtpkeahikfbmcpaaDoor
open Go.RowKit
set_option maxRecDepth 100000
set_option linter.unusedVariables false
set_option linter.unusedSimpArgs false

theorem CL.mono {w : World} {F G : Nat → Prop} {u : Value} {l : List Cp} (h : CL w F u l) (hf : ∀ b, b < w.heap.size → F b → G b) : CL w G u l := by
  obtain ⟨A, c, h1, h2, h3, h4, h5⟩ := h
  exact ⟨A, c, h1, h2, h3, h4.mono hf, h5⟩
theorem flatten_drop {z : Nat} : ∀ (R : List (List UInt8)) (i : Nat), (∀ x ∈ R, x.length = z) → R.flatten.drop (i * z) = (R.drop i).flatten
  | [], i, _ => by simp
  | a :: R, 0, _ => by simp
  | a :: R, i + 1, h => by
    have ha : a.length = z := h a (by simp)
    rw [List.flatten_cons, List.drop_succ_cons, ← flatten_drop R i (fun x hx => h x (by simp [hx])), show (i + 1) * z = a.length + i * z by rw [Nat.succ_mul, ha]; omega, List.drop_append]
    simp
theorem rowsOf_of {z : Nat} (R : List (List UInt8)) (h : ∀ x ∈ R, x.length = z) : rowsOf R.flatten R.length z = R := by
  apply List.ext_getElem?
  intro i
  unfold rowsOf
  rw [List.getElem?_map]
  by_cases hi : i < R.length
  · rw [List.getElem?_range hi, List.getElem?_eq_getElem hi]
    show some ((R.flatten.drop (i * z)).take z) = _
    rw [flatten_drop R i h, List.drop_eq_getElem_cons hi, List.flatten_cons, List.take_append_of_le_length (by rw [h _ (List.getElem_mem hi)]; exact Nat.le_refl _), List.take_of_length_le (by rw [h _ (List.getElem_mem hi)]; exact Nat.le_refl _)]
  · rw [List.getElem?_eq_none (by simpa using hi), List.getElem?_eq_none (by omega)]; rfl
theorem flat_width {z : Nat} : ∀ (R : List (List UInt8)), (∀ x ∈ R, x.length = z) → R.flatten.length = R.length * z
  | [], _ => by simp
  | a :: R, h => by
    rw [List.flatten_cons, List.length_append, flat_width R (fun x hx => h x (by simp [hx])), h a (by simp), List.length_cons, Nat.succ_mul]
    omega
theorem wpList_bytes1 {ops : Array Oper} {o : Oper} {rest : List Oper} {a : Act} {w : World} {Q : Exit → Act → World → Prop} (hgd : Region.wanted o (yielded ops a.tmps) = true) (s x : Operand)
    (ho : o.op = .call { callee := .builtin .append, args := #[s, x], argTypes := #[52, 52] }) (B : Nat) (v : Value) (n : Nat) (cs : List Value) (hv : a.eval s = v) (hown : Own w B 37 1 v n cs) (g : Nat) (A : Option Addr) (m d : Nat)
    (hy : a.eval x = .slice (some ⟨g, 0, none⟩) 1 1) (h0 : w.cell? ⟨g, 0, none⟩ = some (.slice A m d)) (hk : n ≤ 1099511627776) (hB : B ≤ w.heap.size)
    (h : ∀ A' c w', Own w' B 37 1 (.slice A' (n + 1) c) (n + 1) (cs ++ [.slice A m d]) → Keep (fun k => ownB v = some k) w w' → (∀ k, ownB (.slice A' (n + 1) c) = some k → ownB v = some k ∨ w.heap.size ≤ k) → wpList Tryd.prog ops Q rest (a.put o.dst (.slice A' (n + 1) c)) w') :
    wpList Tryd.prog ops Q (o :: rest) a w := by
  obtain ⟨is, his, hs0, hs1, hs2⟩ := info_parts info_bytes
  refine wpList_append_gen w hgd s x _ _ ho B 37 is _ 1 24 Tryd.underlying52 his hs0 hs1 hs2 rfl v n _ hv hown _ 1 _ hy (src_at Tryd.underlying52 (x := .slice A m d) rfl h0) (by unfold maxLen; omega) (by omega) hB ?_
  intro v' w' ho' hk' hn'
  obtain ⟨A', c', rfl, _⟩ := ho'.form
  exact h A' c' w' ho' hk' hn'
/-- Behind some steps: the table at tp. -/
def TOne (W : World) (tp sg : Nat) (sz : Nat → Nat) (w : World) : Prop :=
  ∃ mb vs cp FC ids col, Tb w tp mb vs cp FC sg sz ids col ∧ (∀ c, c ∈ bl sg 64 → (col c).length = ids.length) ∧ (∀ k, TF tp mb vs FC sg k → W.heap.size ≤ k) ∧ Keep (fun b => W.heap.size ≤ b) W w
theorem TOne.same {W w w' : World} {tp sg : Nat} {sz : Nat → Nat} (h : TOne W tp sg sz w) (hk : Keep (fun _ => False) w w') : TOne W tp sg sz w' := by
  obtain ⟨mb, vs, cp, FC, ids, col, h1, h2, h3, h4⟩ := h
  exact ⟨mb, vs, cp, FC, ids, col, h1.same hk, h2, h3, h4.trans hk (fun _ _ h => h.elim)⟩
theorem TOne.do_ {W wr : World} {tp sg : Nat} {sz : Nat → Nat} (h : TOne W tp sg sz wr) (hT : Tab W) (x : StZ) (p d : Value) (hp : NS parN W (fun _ => True) p x.parts) (hd : By W (fun _ => True) d x.data) (hP : x.parts.length ≤ 1000) (hr : -9223372036854775808 ≤ x.comp ∧ x.comp ≤ 9223372036854775807) :
    Calls Tryd.prog 11 #[.pointer (some ⟨tp, 0, none⟩), stV x p d] wr fun e w1 => ∃ v, e = .returned v ∧ TOne W tp sg sz w1 := by
  obtain ⟨mb, vs, cp, FC, ids, col, h1, h2, h3, h8⟩ := h
  have hp1 := (hp.mono (G := fun b => b < W.heap.size) (fun b hb _ => hb)).keep h8 (fun b hb _ h => by omega)
  have hd1 := By.keep (By.mono hd (G := fun b => b < W.heap.size) (fun b hb _ => hb)) h8 (fun b hb _ h => by omega)
  obtain ⟨L1, L2⟩ := do_law (sz := sz) h2 x
  refine (tdo_any h1 h2 (hT.keep h8 (by have := hT.lt; omega)) x p d (fun b => b < W.heap.size) hp1 hd1 hP (fun b hb hF => by have := h3 b hF; omega) hr).mono ?_
  rintro e w1 ⟨v, rfl, htl, mb', vs', cp', FC', g1, g2, g3⟩
  exact ⟨v, rfl, mb', vs', cp', FC', _, _, g1, L2, fun k hk => by rcases g3 k hk with e | e; exact h3 k e; have := h8.size; omega, h8.trans g2 (fun b _ h => h3 b h)⟩
/-- What it tells may be loaded. -/
theorem back_ok {w : World} {tp mb : Nat} {vs : Value} {cp : Nat → Nat} {FC : Nat → Nat → Prop} {sg : Nat} {l : List Cp} {ids : List IdZ} {col : Nat → List (List UInt8)} (h : Tb w tp mb vs cp FC sg (szOf l) ids col) (hl : ∀ c, c ∈ bl sg 64 → (col c).length = ids.length) (ha : sg &&& allOf l = sg) :
    loadOk l sg ids.length ((bl sg 64).map fun c => (col c).flatten) ∧ (∀ c, c ∈ bl sg 64 → colL (bl sg 64) (szOf l) ids.length ((bl sg 64).map fun c => (col c).flatten) (bl sg 64) c = col c) ∧ ∀ x ∈ (bl sg 64).map fun c => (col c).flatten, x.length ≤ 1099511627776 := by
  have hg : ∀ i, i < (bl sg 64).length → (((bl sg 64).map fun c => (col c).flatten).getD i []) = (col ((bl sg 64).getD i 0)).flatten := fun i hi => by
    rw [List.getD_eq_getElem?_getD, List.getElem?_map, List.getD_eq_getElem?_getD, List.getElem?_eq_getElem hi]; rfl
  have hw : ∀ c, c ∈ bl sg 64 → (col c).flatten.length = ids.length * szOf l c := fun c hc => by
    rw [flat_width _ (h.cols c hc).wide, hl c hc]
  refine ⟨⟨ha, by rw [List.length_map], h.few, fun i hi => ?_⟩, fun c hc => ?_, fun x hx => ?_⟩
  · rw [List.length_map] at hi
    unfold goodL
    rw [hg i hi, hw _ (getD_mem hi)]
  · have hi : (bl sg 64).idxOf c < (bl sg 64).length := List.idxOf_lt_length_of_mem hc
    unfold colL
    rw [if_pos hc, hg _ hi]
    have e : (bl sg 64).getD ((bl sg 64).idxOf c) 0 = c := by
      rw [List.getD_eq_getElem?_getD, List.getElem?_eq_getElem hi]
      exact List.getElem_idxOf hi
    rw [e, ← hl c hc]
    exact rowsOf_of _ (h.cols c hc).wide
  · obtain ⟨c, hc, e⟩ := List.mem_map.1 hx
    rw [← e, hw c hc]
    have h1 := h.few
    have h2 := (h.cols c hc).small
    have : ids.length * szOf l c ≤ 1024 * 64 := Nat.mul_le_mul h1 h2
    omega
set_option maxHeartbeats 2000000 in
theorem tableBack_walk (c : Cf) (u : Value) (sig : Nat) (hs : sig < 18446744073709551616) (l : List StZ) (v : Value) (k row : Int) (hkr9 : -9223372036854775808 ≤ k ∧ k ≤ 9223372036854775807) (W : World) (hu : CL W (fun _ => True) u c.l) (hv : NS stN W (fun _ => True) v l) (hR : ∀ x ∈ l, stR x) (hT : Tab W) :
    Calls Tryd.prog 5 #[confV c u, .int .u64 (sig : Int), v, .int .i64 k, .int .i64 row] W fun e w' => e = .returned (.bool true) ∧ Below W.heap.size W w' := by
  have MC := Lib.hid (fun X (hk : Keep (fun _ => False) W X) => rmuch_any c u _ X (hu.same hk))
  have ML := Lib.hid (fun X (hk : Keep (fun _ => False) W X) => much09 l v _ X (hv.same hk))
  have LV := Lib.hid (fun X (hk : Keep (fun b => W.heap.size ≤ b) W X) => live09 X (hT.keep hk (by have := hT.lt; omega)))
  have NW := Lib.hid (fun X (hk : Keep (fun _ => False) W X) (h4 : c.l.length ≤ 1000) => tnew_any c u _ sig hs X (hu.same hk) h4 (hT.same hk))
  have hsga : (sig &&& allOf c.l) &&& allOf c.l = sig &&& allOf c.l := by rw [Nat.and_assoc, Nat.and_self]
  have hsgs : sig &&& allOf c.l < 18446744073709551616 := Nat.lt_of_le_of_lt Nat.and_le_left hs
  have LD := Lib.hid (fun X (hk : Keep (fun b => W.heap.size ≤ b) W X) (h4 : c.l.length ≤ 1000) (ids : List IdZ) vI G cols vC H (hI : Sl X G 2 vI ids.length (ids.flatMap idC)) (hC : Bys X H vC cols) (hw : ∀ x ∈ cols, x.length ≤ 1099511627776) => tload_any c u (fun b => b < W.heap.size) (sig &&& allOf c.l) hsgs ids vI G cols vC H X ((CL.mono hu (G := fun b => b < W.heap.size) (fun b hb _ => hb)).keep hk (fun b hb _ h => by omega)) h4 hI hC hw (hT.keep hk (by have := hT.lt; omega)))
  have BK := Lib.hid (fun (w : World) tp mb vs cp FC ids col (h : Tb w tp mb vs cp FC (sig &&& allOf c.l) (szOf c.l) ids col) hl => back_ok (l := c.l) h hl hsga)
  have HV := Lib.hid (And.intro hv (And.intro hR hT))
  have MB := Lib.hid (show muchB c.l = false → c.l.length ≤ 1000 from fun h => by
    have := of_decide_eq_false (show decide _ = false from h)
    omega)
  obtain ⟨A, cap, rfl, hcm, hnc⟩ := hv.form
  unfold maxLen at hcm
  obtain ⟨A0, cap0, rfl, -⟩ := hu
  clear hv hR hT
  unfold confV at *
  obtain ⟨n, hn⟩ : ∃ n, l.length = n := ⟨_, rfl⟩
  have HN := Lib.hid hn
  have LKK := Lib.hid (show loadOk c.l (sig &&& allOf c.l) = loadOk c.l (sig &&& allOf c.l) from rfl)
  generalize hlk : loadOk c.l (sig &&& allOf c.l) = LOK at *
  generalize hlen0 : c.l.length = n0 at *
  generalize hmb : muchB c.l = b0 at *
  generalize hsg : sig &&& allOf c.l = sg at *
  generalize hsz : szOf c.l = sz at *
  clear hlen0 hmb hsg hsz hlk LKK hsga
  rw [hn] at HV ML hnc ⊢
  clear hn
  go_enter Tryd.func5, Tryd.ntmps5
  go_wp2_with fail
  with_reducible refine (MC.out _ (by exact (by repeat first | (with_reducible assumption) | (with_reducible exact Keep.refl _ _) | (with_reducible refine Keep.alloc ?_ _) | (with_reducible refine Keep.drew ?_) | (with_reducible refine Keep.drewN ?_ _) | (with_reducible refine Keep.setCell ?_ (.inl (by first | omega | (simp; done) | (simp; omega) | fail)) _)))).mono ?_
  rintro e w1 ⟨rfl, hb1⟩
  have K1 := Lib.hid (show Keep (fun _ => False) W w1 ∧ w1.heap[W.heap.size]? = some (.cells #[.int .i64 c.log, .int .i64 c.pages, .int .i64 c.ents, .int .i64 c.gens, .slice A0 n0 cap0] 24 (0, 0)) from ⟨((Keep.refl (fun _ => False) W).alloc _).trans (Keep.of_below' hb1) (fun _ _ h => h), (hb1.block W.heap.size (by simp)).trans (heap_alloc_new W _)⟩)
  clear hb1
  cases b0 with
  | true =>
    go_wp2_with fail
    with_reducible refine (LV.out _ (by exact (K1.out.1.mono (fun _ _ h => h.elim)).trans (T := fun _ => False) (by exact (by repeat first | (with_reducible assumption) | (with_reducible exact Keep.refl _ _) | (with_reducible refine Keep.alloc ?_ _) | (with_reducible refine Keep.drew ?_) | (with_reducible refine Keep.drewN ?_ _) | (with_reducible refine Keep.setCell ?_ (.inl (by first | omega | (simp; done) | (simp; omega) | fail)) _))) (fun _ _ h => h.elim))).mono ?_
    rintro e w2 ⟨rfl, hb2⟩
    have H2 := Lib.hid hb2
    clear hb2
    go_wp2
    go_ret
    exact ⟨rfl, ((K1.out.1.mono (T := fun b => W.heap.size ≤ b) (fun _ _ h => h.elim)).to_below (Nat.le_refl _)).trans (H2.out.mono (by have := K1.out.1.size; omega))⟩
  | false =>
    go_wp2_with fail
    with_reducible refine (ML.out _ K1.out.1).mono ?_
    rintro e w2 ⟨⟨b1, rfl, hb1⟩, rfl⟩
    have HB1 := Lib.hid hb1
    clear hb1
    cases b1 with
    | true =>
      go_wp2_with fail
      with_reducible refine (LV.out _ (K1.out.1.mono (fun _ _ h => h.elim))).mono ?_
      rintro e w3 ⟨rfl, hb2⟩
      have H2 := Lib.hid hb2
      clear hb2
      go_wp2
      go_ret
      exact ⟨rfl, ((K1.out.1.mono (T := fun b => W.heap.size ≤ b) (fun _ _ h => h.elim)).to_below (Nat.le_refl _)).trans (H2.out.mono (by have := K1.out.1.size; omega))⟩
    | false =>
      have h4 := MB.out (by simp)
      obtain ⟨x0, x1, x2, x3, x4, xf⟩ := cells5 K1.out.2
      go_wp2_with fail
      with_reducible refine (NW.out _ (by exact K1.out.1.trans (T := fun _ => False) (by exact (by repeat first | (with_reducible assumption) | (with_reducible exact Keep.refl _ _) | (with_reducible refine Keep.alloc ?_ _) | (with_reducible refine Keep.drew ?_) | (with_reducible refine Keep.drewN ?_ _) | (with_reducible refine Keep.setCell ?_ (.inl (by first | omega | (simp; done) | (simp; omega) | fail)) _))) (fun _ _ h => h)) h4).mono ?_
      rintro e w4 ⟨tp, rfl, hfr⟩
      obtain ⟨mb, vs, cp, FC, htb, hb4, hlo⟩ := hfr.new
      have hz1 := K1.out.1.size
      have H4 := Lib.hid (show TOne w1 tp sg sz w4 from ⟨mb, vs, cp, FC, [], fun _ => [], htb, fun _ _ => rfl, hlo, (Keep.of_below' hb4).mono (fun _ _ h => h.elim)⟩)
      have HV1 := Lib.hid (show NS stN w1 (fun b => b < W.heap.size) (.slice A n cap) l ∧ Tab w1 from ⟨(HV.out.1.mono (G := fun b => b < W.heap.size) (fun b hb _ => hb)).same K1.out.1, HV.out.2.2.same K1.out.1⟩)
      clear htb hb4 hlo hfr x0 x1 x2 x3 x4 xf
      go_wp2
      go_loopw [12] (fun i wr => ∃ j : Nat, j ≤ n ∧ i = .int .i64 j ∧ Hid (TOne w1 tp sg sz wr)) (fun i _ => n - (intOf i).toNat)
      case atStart => exact ⟨0, by omega, rfl, H4⟩
      case round =>
        obtain ⟨j, hj, rfl, hst⟩ := hrel
        by_cases hlt : j < n
        · have f1 : (j : Int) < (n : Int) := by omega
          have f0 : (0 : Int) ≤ (j : Int) := by omega
          obtain ⟨b, off, x, pd, rfl, hbF, hx, hin, hc⟩ := NS.at_ HV1.out.1 hlt
          have hbF : b < W.heap.size := hbF
          have hnb : ¬ w1.heap.size ≤ b := by omega
          obtain ⟨p, d⟩ := pd
          have hxl := List.mem_of_getElem? hx
          have hxr := HV.out.2.1 x hxl
          have hin' : NS parN w1 (fun b => b < W.heap.size) p x.parts ∧ By w1 (fun b => b < W.heap.size) d x.data := hin
          have HDO := Lib.hid (hst.out.do_ HV1.out.2 x p d (hin'.1.mono (fun _ _ _ => trivial)) (By.mono hin'.2 (fun _ _ _ => trivial)) (by have := (HB1.out (by simp)).2 x hxl; omega) hxr.2)
          have hkw : Keep (fun b => w1.heap.size ≤ b) w1 wr := by obtain ⟨_, _, _, _, _, _, _, _, _, h⟩ := hst.out; exact h
          obtain ⟨Ap, cp', rfl, -⟩ := hin'.1.form
          obtain ⟨Ad, cd, rfl, -⟩ := hin'.2
          have c0 := hkw.cell hnb (hc 0 _ rfl)
          have c1 := hkw.cell hnb (hc 1 _ rfl)
          have c2 := hkw.cell hnb (hc 2 _ rfl)
          have c3 := hkw.cell hnb (hc 3 _ rfl)
          have c4 := hkw.cell hnb (hc 4 _ rfl)
          have c5 := hkw.cell hnb (hc 5 _ rfl)
          have c6 := hkw.cell hnb (hc 6 _ rfl)
          simp only [show stN.m = 7 from rfl, Nat.add_zero] at c0 c1 c2 c3 c4 c5 c6
          unfold stV at HDO
          clear hc hx hin hin' hxr hxl hkw
          obtain ⟨do_, ⟨ix, gen⟩, parts, row', comp, data⟩ := x
          generalize parts.length = np at *
          generalize data.length = nd at *
          dsimp only at c0 c1 c2 c3 c4 c5 c6 HDO
          go_wp2_with fail
          with_reducible refine HDO.out.mono ?_
          rintro e w5 ⟨v5, rfl, h5⟩
          have H5 := Lib.hid h5
          go_wp2
          go_roundw
          case rel => exact ⟨j + 1, by omega, by go_num, H5⟩
          case measure => simp [intOf]; omega
        · obtain rfl : j = n := by omega
          have f1 : ¬ (j : Int) < (j : Int) := by omega
          obtain ⟨mb, vs, cp, FC, ids, col, h1, h2, h3, h8⟩ := hst.out
          have hsg64 := h1.lt64
          have HB := Lib.hid (And.intro h1 (And.intro h2 (And.intro h3 h8)))
          have LK := Lib.hid (fun c (hc : c ∈ bl sg 64) => bl_lt hc)
          clear h1 h2 h3 h8 hst
          go_wp2_with fail
          with_reducible refine (tb_sig HB.out.1).mono ?_
          rintro e w5 ⟨rfl, rfl⟩
          go_wp2_with fail
          with_reducible refine (refList_any sg hsg64 wr).mono ?_
          rintro e w6 ⟨v6, rfl, ho6, hb6⟩
          obtain ⟨A6, c6, rfl, -⟩ := ho6.form
          have hm64 := bl_len sg 64
          have KT6 := Lib.hid (show Keep (fun _ => False) wr w6 from Keep.of_below' hb6)
          have z6 := hb6.size
          have H6 := Lib.hid (show Sl w6 (fun b => wr.heap.size ≤ b) 1 (.slice A6 (bl sg 64).length c6) (bl sg 64).length (iv (ints (bl sg 64))) from ho6.sl)
          obtain ⟨m, hm⟩ : ∃ m, (bl sg 64).length = m := ⟨_, rfl⟩
          have HM := Lib.hid hm
          rw [hm] at hm64 H6 ⊢
          have HT6 := Lib.hid (HB.out.1.same KT6.out)
          have LT6 := Lib.hid (fun k hk => Nat.lt_of_lt_of_le (HB.out.1.lt k hk) z6)
          clear hm ho6 hb6
          go_wp2
          go_loopw [14, 15] (fun v i wx => ∃ (k : Nat) (A3 : Option Addr) (c3 : Nat), k ≤ m ∧ i = .int .i64 k ∧ v = .slice A3 k c3 ∧ Hid (ListSt w6.heap.size wx (.slice A3 k c3) (((bl sg 64).take k).map fun c => (col c).flatten)) ∧ Hid (Keep (fun b => w6.heap.size ≤ b) w6 wx)) (fun _ i _ => m - (intOf i).toNat)
          case atStart => exact ⟨0, none, 0, by omega, rfl, rfl, ListSt.nil _ _, Lib.hid (Keep.refl _ _)⟩
          case round =>
            obtain ⟨k', A3, c3, hk', rfl, rfl, hls, hkr⟩ := hrel
            by_cases hlt2 : k' < m
            · have g1 : (k' : Int) < (m : Int) := by omega
              have g0 : (0 : Int) ≤ (k' : Int) := by omega
              obtain ⟨b1, o1, rfl, hcl⟩ := ints_at ((H6.out.mono (G := fun b => b < w6.heap.size) (fun b hb _ => hb)).keep hkr.out (fun b _ h e => by omega)) HM.out hlt2
              have hcm : (bl sg 64).getD k' 0 ∈ bl sg 64 := getD_mem (by rw [HM.out]; exact hlt2)
              have MT := Lib.hid (map_take_next (fun c : Nat => (col c).flatten) (bl sg 64) (show k' < (bl sg 64).length by rw [HM.out]; exact hlt2))
              generalize (bl sg 64).getD k' 0 = cc at *
              have HTr := Lib.hid (HT6.out.keep hkr.out (fun k hk e => by have := LT6.out k hk; omega))
              have CO := Lib.hid (tb_column HTr.out (cc : Int) (by have := LK.out cc hcm; omega))
              rw [hasK_nat, decide_eq_true hcm, if_pos rfl, Int.toNat_natCast] at CO
              have zr := hkr.out.size
              clear hcm
              go_wp2_with fail
              with_reducible refine CO.out.mono ?_
              rintro e w7 ⟨A7, n7, c7, rfl, hby7, hb7⟩
              obtain ⟨cs, hc1, hc2⟩ := hls.out
              have hlen : (((bl sg 64).take k').map fun c => (col c).flatten).length = k' := by rw [List.length_map, List.length_take, HM.out]; omega
              rw [hlen] at hc1
              have K7 := Lib.hid (show Keep (fun _ => False) wr w7 from Keep.of_below' hb7)
              have H7 := Lib.hid (And.intro hby7 (And.intro hc1 (And.intro hc2 hlen)))
              have z7 := hb7.size
              clear hby7 hb7 hc1 hc2 hlen CO
              go_wp2_with (first
                | (at_builtin; refine wpList_bytes1 (by rfl) _ _ (by rfl) w6.heap.size _ k' cs (by rfl) (H7.out.2.1.keep (S := fun _ => False) (K7.out.trans (T := fun _ => False) (by exact (by repeat first | (with_reducible assumption) | (with_reducible exact Keep.refl _ _) | (with_reducible refine Keep.alloc ?_ _) | (with_reducible refine Keep.drew ?_) | (with_reducible refine Keep.drewN ?_ _) | (with_reducible refine Keep.setCell ?_ (.inl (by first | omega | (simp; done) | (simp; omega) | fail)) _))) (fun _ _ h => h)) (fun _ _ h => h)) _ A7 n7 c7 (by rfl) (by simp) (by omega) (by simp; omega) ?_)
                | fail)
              intro A8 c8 w8 ho8 hk8 hn8
              have H8 := Lib.hid (show ListSt w6.heap.size w8 (.slice A8 (k' + 1) c8) (((bl sg 64).take (k' + 1)).map fun c => (col c).flatten) ∧ Keep (fun b => w6.heap.size ≤ b) w6 w8 from by
                have KA : Keep (fun b => wr.heap.size ≤ b) wr (w7.alloc (.cells #[.slice A7 n7 c7] 37 (0, 0))) := (K7.out.mono (T := fun b => wr.heap.size ≤ b) (fun _ _ h => h.elim)).alloc _
                refine ⟨?_, (hkr.out.trans KA (fun b _ e => by omega)).trans hk8 (fun b _ e => (H7.out.2.1.ownB b e).1)⟩
                rw [MT.out]
                refine ListSt.push (w := wr) (by rw [H7.out.2.2.2]; exact H7.out.2.1) H7.out.2.2.1 KA (By.keep H7.out.1 ((Keep.refl (fun _ => False) _).alloc _) (fun _ _ _ h => h)) zr (by rw [H7.out.2.2.2]; exact ho8) hk8 (by simpa using hn8))
              clear ho8 hk8 hn8
              go_wp2
              go_roundw
              case rel => exact ⟨k' + 1, A8, c8, by omega, by go_num, rfl, Lib.hid H8.out.1, Lib.hid H8.out.2⟩
              case measure => simp [intOf]; omega
            · obtain rfl : k' = m := by omega
              have g1 : ¬ (k' : Int) < (k' : Int) := by omega
              have KW1 := Lib.hid (show Keep (fun b => w1.heap.size ≤ b) w1 wr from (HB.out.2.2.2.trans KT6.out (fun _ _ h => h.elim)).trans hkr.out (fun b _ e => by have := HB.out.2.2.2.size; omega))
              obtain ⟨x0, x1, x2, x3, x4, xf⟩ := cells5 ((KW1.out.block W.heap.size (Array.getElem?_eq_some_iff.1 K1.out.2).1 (fun e => by have := (Array.getElem?_eq_some_iff.1 K1.out.2).1; omega)).trans K1.out.2)
              have CE := Lib.hid (show ∀ W', Keep (fun _ => False) wr W' → ((W'.cell? ⟨W.heap.size, 0, none⟩ = some (.int .i64 c.log) ∧ W'.cell? ⟨W.heap.size, 1, none⟩ = some (.int .i64 c.pages) ∧ W'.cell? ⟨W.heap.size, 2, none⟩ = some (.int .i64 c.ents) ∧ W'.cell? ⟨W.heap.size, 3, none⟩ = some (.int .i64 c.gens) ∧ W'.cell? ⟨W.heap.size, 4, none⟩ = some (.slice A0 n0 cap0)) ∧ Keep (fun _ => False) wr W') from fun W' hk => ⟨⟨hk.cell (fun h => h) x0, hk.cell (fun h => h) x1, hk.cell (fun h => h) x2, hk.cell (fun h => h) x3, hk.cell (fun h => h) x4⟩, hk⟩)
              have HTr := Lib.hid (HT6.out.keep hkr.out (fun k hk e => by have := LT6.out k hk; omega))
              have HTab := Lib.hid (show Tab wr from HV1.out.2.keep KW1.out (by have := HV1.out.2.lt; omega))
              have hls2 := hls.out.bys
              rw [List.take_of_length_le (by rw [HM.out]; exact Nat.le_refl _)] at hls2
              have HBK := Lib.hid (BK.out _ _ _ _ _ _ _ _ HB.out.1 HB.out.2.1)
              have KWr := Lib.hid (show Keep (fun b => W.heap.size ≤ b) W wr from (K1.out.1.mono (fun _ _ h => h.elim)).trans KW1.out (fun b _ e => by have := K1.out.1.size; omega))
              have LDX := Lib.hid (show ∀ X, Keep (fun _ => False) wr X → ∀ vI, Sl X (fun b => wr.heap.size ≤ b) 2 vI ids.length (ids.flatMap idC) → Calls Tryd.prog 15 #[.agg #[.int .i64 c.log, .int .i64 c.pages, .int .i64 c.ents, .int .i64 c.gens, .slice A0 n0 cap0], .int .u64 (sg : Int), vI, .slice A3 k' c3] X (fun e w' => ∃ tp2, e = .returned (.tuple #[.pointer (some ⟨tp2, 0, none⟩), .int .i64 0]) ∧ TbNew X sg sz ids col tp2 w') from fun X hk vI hI =>
                (LD.out X (KWr.out.trans hk (fun _ _ h => h.elim)) h4 ids vI _ _ (.slice A3 k' c3) _ hI (hls2.keep hk (fun _ _ _ h => h)) HBK.out.2.2).mono fun e w' h => by
                  rcases h with ⟨hno, -⟩ | ⟨-, tp2, he, mb2, vs2, cp2, FC2, t1, t2, t3⟩
                  · exact absurd HBK.out.1 hno
                  · exact ⟨tp2, he, mb2, vs2, cp2, FC2, t1.congr (fun d hd => (HBK.out.2.1 d hd).symm), t2, t3⟩)
              have TI := Lib.hid (fun Y (hk : Keep (fun _ => False) wr Y) => tb_ids (HTr.out.same hk))
              have TSg := Lib.hid (fun Y (hk : Keep (fun _ => False) wr Y) => tb_sig (HTr.out.same hk))
              clear hls hls2 LD
              go_upto_region 17 with fail
              go_region_held3 (fun W' => (W'.cell? ⟨W.heap.size, 0, none⟩ = some (.int .i64 c.log) ∧ W'.cell? ⟨W.heap.size, 1, none⟩ = some (.int .i64 c.pages) ∧ W'.cell? ⟨W.heap.size, 2, none⟩ = some (.int .i64 c.ents) ∧ W'.cell? ⟨W.heap.size, 3, none⟩ = some (.int .i64 c.gens) ∧ W'.cell? ⟨W.heap.size, 4, none⟩ = some (.slice A0 n0 cap0)) ∧ Keep (fun _ => False) wr W') (exact CE.out _ (by exact (by repeat first | (with_reducible assumption) | (with_reducible exact Keep.refl _ _) | (with_reducible refine Keep.alloc ?_ _) | (with_reducible refine Keep.drew ?_) | (with_reducible refine Keep.drewN ?_ _) | (with_reducible refine Keep.setCell ?_ (.inl (by first | omega | (simp; done) | (simp; omega) | fail)) _)))) (first
                | (go_at_call 26; (with_reducible refine (TSg.out _ (by exact (by repeat first | (with_reducible assumption) | (with_reducible exact Keep.refl _ _) | (with_reducible refine Keep.alloc ?_ _) | (with_reducible refine Keep.drew ?_) | (with_reducible refine Keep.drewN ?_ _) | (with_reducible refine Keep.setCell ?_ (.inl (by first | omega | (simp; done) | (simp; omega) | fail)) _)))).mono ?_); rintro e w7 ⟨rfl, rfl⟩)
                | (go_at_call 25; (with_reducible refine (TI.out _ (by exact (by repeat first | (with_reducible assumption) | (with_reducible exact Keep.refl _ _) | (with_reducible refine Keep.alloc ?_ _) | (with_reducible refine Keep.drew ?_) | (with_reducible refine Keep.drewN ?_ _) | (with_reducible refine Keep.setCell ?_ (.inl (by first | omega | (simp; done) | (simp; omega) | fail)) _)))).mono ?_); rintro e w8 ⟨A8, c8, rfl, ho8, hb8⟩; have k8 : Keep (fun _ => False) wr w8 := Keep.trans (T := fun _ => False) (by exact (by repeat first | (with_reducible assumption) | (with_reducible exact Keep.refl _ _) | (with_reducible refine Keep.alloc ?_ _) | (with_reducible refine Keep.drew ?_) | (with_reducible refine Keep.drewN ?_ _) | (with_reducible refine Keep.setCell ?_ (.inl (by first | omega | (simp; done) | (simp; omega) | fail)) _))) (Keep.of_below' hb8) (fun _ _ h => h); have S8 := Lib.hid (show Sl w8 (fun b => wr.heap.size ≤ b) 2 _ _ _ from ho8.sl); clear ho8 hb8)
                | (go_at_call 15; (with_reducible refine (LDX.out _ (by exact k8.trans (T := fun _ => False) (by exact (by repeat first | (with_reducible assumption) | (with_reducible exact Keep.refl _ _) | (with_reducible refine Keep.alloc ?_ _) | (with_reducible refine Keep.drew ?_) | (with_reducible refine Keep.drewN ?_ _) | (with_reducible refine Keep.setCell ?_ (.inl (by first | omega | (simp; done) | (simp; omega) | fail)) _))) (fun _ _ h => h)) _ (S8.out.keep (S := fun _ => False) (by exact (by repeat first | (with_reducible assumption) | (with_reducible exact Keep.refl _ _) | (with_reducible refine Keep.alloc ?_ _) | (with_reducible refine Keep.drew ?_) | (with_reducible refine Keep.drewN ?_ _) | (with_reducible refine Keep.setCell ?_ (.inl (by first | omega | (simp; done) | (simp; omega) | fail)) _))) (fun _ _ _ h => h))).mono ?_); rintro e w9 ⟨tp2, rfl, mb2, vs2, cp2, FC2, t1, t2, t3⟩; have k9 : Keep (fun _ => False) wr w9 := Keep.trans (T := fun _ => False) k8 (Keep.trans (T := fun _ => False) (by exact (by repeat first | (with_reducible assumption) | (with_reducible exact Keep.refl _ _) | (with_reducible refine Keep.alloc ?_ _) | (with_reducible refine Keep.drew ?_) | (with_reducible refine Keep.drewN ?_ _) | (with_reducible refine Keep.setCell ?_ (.inl (by first | omega | (simp; done) | (simp; omega) | fail)) _))) (Keep.of_below' t2) (fun _ _ h => h)) (fun _ _ h => h); have HN2 := Lib.hid t1; clear t1 t2 t3)
                | fail)
              have h2' := HB.out.2.1
              have HTb9 := Lib.hid (And.intro (HTr.out.same k9) (And.intro HN2.out (And.intro h2' (HTab.out.same k9))))
              have PA := Lib.hid (fun Y (hk : Keep (fun _ => False) w9 Y) => tb_parts (HTb9.out.1.same hk) HTb9.out.2.2.1 (HTb9.out.2.2.2.same hk) row)
              have PB := Lib.hid (fun Y (hk : Keep (fun _ => False) w9 Y) => tb_parts (HTb9.out.2.1.same hk) HTb9.out.2.2.1 (HTb9.out.2.2.2.same hk) row)
              have CA := Lib.hid (fun Y (hk : Keep (fun _ => False) w9 Y) => tb_column (HTb9.out.1.same hk) k hkr9)
              have CB := Lib.hid (fun Y (hk : Keep (fun _ => False) w9 Y) => tb_column (HTb9.out.2.1.same hk) k hkr9)
              have IA := Lib.hid (fun Y (hk : Keep (fun _ => False) w9 Y) => tb_ids (HTb9.out.1.same hk))
              have IB := Lib.hid (fun Y (hk : Keep (fun _ => False) w9 Y) => tb_ids (HTb9.out.2.1.same hk))
              have SA := Lib.hid (fun Y (hk : Keep (fun _ => False) w9 Y) => tb_sig (HTb9.out.1.same hk))
              have SB := Lib.hid (fun Y (hk : Keep (fun _ => False) w9 Y) => tb_sig (HTb9.out.2.1.same hk))
              have K9 := Lib.hid (show Keep (fun b => W.heap.size ≤ b) W w9 from KWr.out.trans k9 (fun _ _ h => h.elim))
              have LV9 := Lib.hid (fun Y (hk : Keep (fun _ => False) w9 Y) => LV.out Y (K9.out.trans hk (fun _ _ h => h.elim)))
              clear h2' HBK LDX TI TSg CE BK HTb9 HN2 S8 k8 k9 x0 x1 x2 x3 x4 xf
              generalize (if rowC ids.length row = 0 then rowT sg col row.toNat else []) = PL at *
              generalize rowC ids.length row = rc at *
              generalize (if hasK sg k = true then (col k.toNat).flatten else []) = bb at *
              generalize hasK sg k = okk at *
              obtain ⟨ni, hni⟩ : ∃ ni, ids.length = ni := ⟨_, rfl⟩
              have HNI := Lib.hid hni
              rw [hni] at IA IB
              clear hni
              have n1 : (rc == rc) = true := by simp
              have n2 : (okk == okk) = true := by simp
              have n3 : ((sg : Int) == (sg : Int)) = true := by simp
              have n4 : ((0 : Int) != 0) = false := by decide
              go_wp2_with (first
                | (go_at_call 21; with_reducible refine (code09 _ _).mono ?_; rintro e wq ⟨rfl, rfl⟩)
                | fail)
              with_reducible refine (PA.out _ (Keep.refl _ _)).mono ?_
              rintro e v1 ⟨Ax, nx, cx, rfl, hx1, hb1⟩
              have V1 := Lib.hid (show Keep (fun _ => False) w9 v1 ∧ NS parN v1 (fun b => w9.heap.size ≤ b) (.slice Ax nx cx) PL from ⟨Keep.of_below' hb1, hx1⟩)
              clear hx1 hb1 PA
              go_wp2_with fail
              with_reducible refine (PB.out _ V1.out.1).mono ?_
              rintro e v2 ⟨Ay, ny, cy, rfl, hx2, hb2⟩
              have V2 := Lib.hid (show Keep (fun _ => False) w9 v2 ∧ NS parN v2 (fun b => w9.heap.size ≤ b) (.slice Ax nx cx) PL ∧ NS parN v2 (fun b => v1.heap.size ≤ b) (.slice Ay ny cy) PL from ⟨V1.out.1.trans (Keep.of_below' hb2) (fun _ _ h => h), V1.out.2.same (Keep.of_below' hb2), hx2⟩)
              clear hx2 hb2 PB V1
              go_wp2_with fail
              with_reducible refine (CA.out _ V2.out.1).mono ?_
              rintro e v3 ⟨Aa, na, ca, rfl, hx3, hb3⟩
              have V3 := Lib.hid (show Keep (fun _ => False) w9 v3 ∧ NS parN v3 (fun b => w9.heap.size ≤ b) (.slice Ax nx cx) PL ∧ NS parN v3 (fun b => v1.heap.size ≤ b) (.slice Ay ny cy) PL ∧ By v3 (fun b => v2.heap.size ≤ b) (.slice Aa na ca) bb from ⟨V2.out.1.trans (Keep.of_below' hb3) (fun _ _ h => h), V2.out.2.1.same (Keep.of_below' hb3), V2.out.2.2.same (Keep.of_below' hb3), hx3⟩)
              clear hx3 hb3 CA V2
              go_wp2_with fail
              with_reducible refine (CB.out _ V3.out.1).mono ?_
              rintro e v4 ⟨Ab, nb, cb, rfl, hx4, hb4⟩
              have V4 := Lib.hid (show Keep (fun _ => False) w9 v4 ∧ NS parN v4 (fun b => w9.heap.size ≤ b) (.slice Ax nx cx) PL ∧ NS parN v4 (fun b => v1.heap.size ≤ b) (.slice Ay ny cy) PL ∧ By v4 (fun b => v2.heap.size ≤ b) (.slice Aa na ca) bb ∧ By v4 (fun b => v3.heap.size ≤ b) (.slice Ab nb cb) bb from ⟨V3.out.1.trans (Keep.of_below' hb4) (fun _ _ h => h), V3.out.2.1.same (Keep.of_below' hb4), V3.out.2.2.1.same (Keep.of_below' hb4), By.keep V3.out.2.2.2 (Keep.of_below' hb4) (fun _ _ _ h => h), hx4⟩)
              clear hx4 hb4 CB V3
              have SP := Lib.hid (fun Y (hk : Keep (fun _ => False) v4 Y) => same_parts PL _ _ _ _ Y (V4.out.2.1.same hk) (V4.out.2.2.1.same hk))
              have SM := Lib.hid (fun Y (hk : Keep (fun _ => False) v4 Y) => show Calls Tryd.prog 30 #[.slice Aa na ca, .slice Ab nb cb] Y fun e w' => e = .returned (.bool true) ∧ Y = w' from by
                have := same_any bb bb _ _ _ _ Y (By.keep V4.out.2.2.2.1 hk (fun _ _ _ h => h)) (By.keep V4.out.2.2.2.2 hk (fun _ _ _ h => h))
                rwa [decide_eq_true rfl] at this)
              have K4 := Lib.hid V4.out.1
              clear V4
              go_wp2_with fail
              with_reducible refine (IA.out _ K4.out).mono ?_
              rintro e v5 ⟨A5, c5, rfl, ho5, hb5⟩
              have V5 := Lib.hid (show Keep (fun _ => False) v4 v5 ∧ Sl v5 (fun b => v4.heap.size ≤ b) 2 (.slice A5 ni c5) ni (ids.flatMap idC) from ⟨Keep.of_below' hb5, ho5.sl⟩)
              clear ho5 hb5 IA
              go_wp2_with fail
              with_reducible refine (IB.out _ (K4.out.trans V5.out.1 (fun _ _ h => h))).mono ?_
              rintro e v6 ⟨A6, c6, rfl, ho6, hb6⟩
              have V6 := Lib.hid (show Keep (fun _ => False) v4 v6 ∧ Sl v6 (fun b => v4.heap.size ≤ b) 2 (.slice A5 ni c5) ni (ids.flatMap idC) ∧ Sl v6 (fun b => v5.heap.size ≤ b) 2 (.slice A6 ni c6) ni (ids.flatMap idC) from ⟨V5.out.1.trans (Keep.of_below' hb6) (fun _ _ h => h), V5.out.2.keep (Keep.of_below' hb6) (fun _ _ _ h => h), ho6.sl⟩)
              clear ho6 hb6 IB V5
              have SI := Lib.hid (show Calls Tryd.prog 28 #[.slice A5 ni c5, .slice A6 ni c6] v6 fun e w' => e = .returned (.bool true) ∧ Keep (fun _ => False) v6 w' from same_ids ids _ _ _ _ v6 (by rw [HNI.out]; exact V6.out.2.1) (by rw [HNI.out]; exact V6.out.2.2))
              go_wp2_with fail
              with_reducible refine SI.out.mono ?_
              rintro e v7 ⟨rfl, hk7⟩
              have V7 := Lib.hid (show Keep (fun _ => False) v4 v7 from V6.out.1.trans hk7 (fun _ _ h => h))
              clear hk7 SI
              go_wp2_with fail
              with_reducible refine (SP.out _ V7.out).mono ?_
              rintro e v8 ⟨rfl, hk8⟩
              have V8 := Lib.hid (show Keep (fun _ => False) v4 v8 from V7.out.trans hk8 (fun _ _ h => h))
              clear hk8 SP
              go_wp2_with (first
                | (go_at_call 21; with_reducible refine (code09 _ _).mono ?_; rintro e wq ⟨rfl, rfl⟩)
                | (go_at_call 30; with_reducible refine (SM.out _ V8.out).mono ?_; rintro e wq ⟨rfl, rfl⟩)
                | fail)
              with_reducible refine (SB.out _ (K4.out.trans V8.out (fun _ _ h => h))).mono ?_
              rintro e v9 ⟨rfl, rfl⟩
              go_wp2_with fail
              with_reducible refine (SA.out _ (K4.out.trans V8.out (fun _ _ h => h))).mono ?_
              rintro e v9 ⟨rfl, rfl⟩
              go_wp2_with fail
              with_reducible refine (LV9.out _ (K4.out.trans V8.out (fun _ _ h => h))).mono ?_
              rintro e v10 ⟨rfl, hb10⟩
              have H10 := Lib.hid hb10
              have K10 := Lib.hid (K9.out.trans (K4.out.trans V8.out (fun _ _ h => h)) (fun _ _ h => h.elim))
              clear hb10
              go_wp2
              go_ret
              exact ⟨rfl, (K10.out.to_below (Nat.le_refl _)).trans (H10.out.mono (by have := K10.out.size; omega))⟩
end Go.Proofs.YtpkeahikfbmcpaaDoor

/- Contract of seal.Get. -/
import Derived.Test.YtakchlaoimnnhaaSeal3
import Derived.Test.YtakchlaoimnnhaaRdr
import Derived.Laws.ResultCell
namespace Go.Proofs.Ytakchlaoimnnhaa
open Go.RowKit
set_option maxRecDepth 100000
set_option linter.unusedVariables false

def zeroS : SV := ⟨0, 0, 0, []⟩
/-- What is got of bytes. -/
def gotS (s : List UInt8) : SV := if okS s = true then valOf s else zeroS
def SealPost (w : World) (x : SV) (ok : Bool) (e : Ending) (w' : World) : Prop :=
  ∃ A n c, e = .returned (.tuple #[.agg #[.int .i64 x.ep, .int .i64 x.no, .int .i64 x.kd, .slice A n c], .bool ok]) ∧ By w' (fun b => w.heap.size ≤ b) (.slice A n c) x.bd ∧ Below w.heap.size w w'
theorem numR_at {l : List UInt8} {k : Nat} {width : Int} (h : k + wideN width ≤ l.length) : numR l k false width = (wrap64 (getN (pieceOf l k (wideN width))), k + wideN width, false) := by
  have hok : getOk l k width = true := getOk_yes h
  unfold numR getZ
  rw [if_neg (by simp), if_pos hok, if_pos hok, Int.toNat_natCast]
theorem longN_lt (s : List UInt8) : longN s < 65536 := Nat.lt_of_lt_of_le (getN_lt _) (Nat.le_trans (Nat.pow_le_pow_right (by decide) (List.length_take_le _ _)) (by decide))
theorem kindN_lt (s : List UInt8) : kindN s < 256 := Nat.lt_of_lt_of_le (getN_lt _) (Nat.le_trans (Nat.pow_le_pow_right (by decide) (List.length_take_le _ _)) (by decide))
theorem under_seal : Try.prog.underlying 50 = some (.struct (Try.prog.fieldsOf 50)) := by kernel_rfl
theorem size_seal : (Try.prog.info? 50).map (·.size) = some 4 := by kernel_rfl
theorem size_sector : (Try.prog.info? 99).map (·.size) = some 512 := by kernel_rfl
theorem rdr_mono {w : World} {p : Nat} {F G : Nat → Prop} {l : List UInt8} {k : Nat} {bad : Bool} (h : Rdr w p F l k bad) (hf : ∀ b, b < w.heap.size → F b → G b) (hp : ¬ G p) : Rdr w p G l k bad := by
  obtain ⟨vs, h1, h2, h3, h4⟩ := h
  exact ⟨vs, h1, h2.mono hf, hp, h4⟩
/-- A result: a seal in block g, and a bool. -/
theorem results_seal {fn : Func} {p u : Tmp} (h : fn.results = #[.cell p 50, .tmp u]) (tmps : Array Value) (w : World) (g : Nat) (c0 c1 c2 c3 : Value)
    (hp : tmps.getD p undef = .pointer (some ⟨g, 0, none⟩)) (hg : w.heap[g]? = some (.cells #[c0, c1, c2, c3] 50 (0, 0)))
    (b : Value) (hb : tmps.getD u undef = b) : (results fn tmps).run Try.prog w = .ok (.tuple #[.agg #[c0, c1, c2, c3], b]) w := by
  rw [results_cell_tmp h, hp, hb]
  have hr := run_loadVar_row (P := Try.prog) w g 50 50 #[c0, c1, c2, c3] (0, 0) _ hg under_seal rfl size_seal
  simp [asAddr, hr]
/-- Where seal.Get stands: the result r, the reader p, the seal q. -/
def GetSt (w W : World) (p q : Nat) (l : List UInt8) (k : Nat) (a b c : Int) (u : Value) : Prop :=
  (w.heap.size < p ∧ p < q) ∧ Rdr W p (fun x => w.heap.size < x ∧ x ≠ p ∧ x < q) l k false ∧ W.heap[q]? = some (.cells #[.int .i64 a, .int .i64 b, .int .i64 c, u] 50 (0, 0)) ∧
    W.heap[w.heap.size]? = some (.cells #[.int .i64 0, .int .i64 0, .int .i64 0, .slice none 0 0] 50 (0, 0)) ∧ Below w.heap.size w W
theorem GetSt.num {w W W' : World} {p q : Nat} {l : List UInt8} {k k' : Nat} {a b c : Int} {u : Value} (h : GetSt w W p q l k a b c u) (hr : RTo W p (fun x => w.heap.size < x ∧ x ≠ p ∧ x < q) l k' false W') : GetSt w W' p q l k' a b c u := by
  obtain ⟨⟨h0, h1⟩, h2, h3, h4, h5⟩ := h
  exact ⟨⟨h0, h1⟩, hr.1, (hr.2.block q (Array.getElem?_eq_some_iff.1 h3).1 (by omega)).trans h3, (hr.2.block _ (Array.getElem?_eq_some_iff.1 h4).1 (by omega)).trans h4, ((Keep.of_below h5).trans hr.2 (fun x _ e => by omega)).to_below (Nat.le_refl _)⟩
theorem GetSt.set {w W : World} {p q : Nat} {l : List UInt8} {k : Nat} {a b c : Int} {u : Value} (h : GetSt w W p q l k a b c u) (i : Nat) (v : Value) {a' b' c' : Int} {u' : Value}
    (he : (#[.int .i64 a, .int .i64 b, .int .i64 c, u] : Array Value).setIfInBounds i v = #[.int .i64 a', .int .i64 b', .int .i64 c', u']) : GetSt w (W.setCell ⟨q, i, none⟩ v) p q l k a' b' c' u' := by
  obtain ⟨⟨h0, h1⟩, h2, h3, h4, h5⟩ := h
  have hk : Keep (fun x => x = q) W (W.setCell ⟨q, i, none⟩ v) := Keep.setCell (S := fun x => x = q) (p := ⟨q, i, none⟩) (Keep.refl _ W) (.inr rfl) _
  exact ⟨⟨h0, h1⟩, rdr_keep h2 hk (by omega) (fun x _ e => by omega), by rw [heap_setCell_same W q i _ _ v h3, he], (hk.block _ (Array.getElem?_eq_some_iff.1 h4).1 (by omega)).trans h4, ((Keep.of_below h5).trans hk (fun x _ e => by omega)).to_below (Nat.le_refl _)⟩

/-- .. before the seal is laid. -/
def PSt (w W : World) (p : Nat) (l : List UInt8) (k : Nat) : Prop :=
  (w.heap.size < p ∧ p < W.heap.size) ∧ Rdr W p (fun x => w.heap.size < x ∧ x ≠ p) l k false ∧
    W.heap[w.heap.size]? = some (.cells #[.int .i64 0, .int .i64 0, .int .i64 0, .slice none 0 0] 50 (0, 0)) ∧ Below w.heap.size w W
theorem PSt.num {w W W' : World} {p : Nat} {l : List UInt8} {k k' : Nat} (h : PSt w W p l k) (hr : RTo W p (fun x => w.heap.size < x ∧ x ≠ p) l k' false W') : PSt w W' p l k' := by
  obtain ⟨⟨h0, h1⟩, h2, h4, h5⟩ := h
  exact ⟨⟨h0, by have := hr.2.size; omega⟩, hr.1, (hr.2.block _ (Array.getElem?_eq_some_iff.1 h4).1 (by omega)).trans h4, ((Keep.of_below h5).trans hr.2 (fun x _ e => by omega)).to_below (Nat.le_refl _)⟩
theorem PSt.lay {w W : World} {p : Nat} {l : List UInt8} {k : Nat} (h : PSt w W p l k) (a b c : Int) (u : Value) : GetSt w (W.alloc (.cells #[.int .i64 a, .int .i64 b, .int .i64 c, u] 50)) p W.heap.size l k a b c u := by
  obtain ⟨⟨h0, h1⟩, h2, h4, h5⟩ := h
  refine ⟨⟨h0, h1⟩, rdr_keep (rdr_mono h2 (G := fun x => w.heap.size < x ∧ x ≠ p ∧ x < W.heap.size) (fun b hb h => ⟨h.1, h.2, hb⟩) (by omega)) ((Keep.refl (fun _ => False) W).alloc _) (fun h => h) (fun _ _ _ h => h), heap_alloc_new W _, ?_, h5.alloc h5.size _⟩
  rw [heap_alloc_old _ _ (Array.getElem?_eq_some_iff.1 h4).1]; exact h4
theorem step_load_mid {P : Program} {ops : Array Oper} {o : Oper} {a : Act} {w : World} {K : Act → World → Prop} {Q : Exit → Act → World → Prop} {E : Prop} (hgd : Region.wanted o (yielded ops a.tmps) = true) (ty : TypeId) (x : Operand) (ho : o.op = .load ty x)
    (b off : Nat) (hx : a.eval x = .pointer (some ⟨b, off, none⟩)) (cs : List Value) (d : TypeDesc) (hc : w.rangeAt b off cs)
    (hu : P.underlying ty = some d) (hd : d.isRow = true) (hi : (P.info? ty).map (·.size) = some cs.length)
    (h : K (a.put o.dst (.agg cs.toArray)) w) : if Region.wanted o (yielded ops a.tmps) = true then Oper.wp P o a w K Q else E := by
  rw [if_pos hgd]
  exact wp_load_mid ty x ho b off hx cs d hc hu hd hi h
theorem range4 {w : World} {q : Nat} {c0 c1 c2 c3 : Value} (h0 : w.cell? ⟨q, 0, none⟩ = some c0) (h1 : w.cell? ⟨q, 1, none⟩ = some c1) (h2 : w.cell? ⟨q, 2, none⟩ = some c2) (h3 : w.cell? ⟨q, 3, none⟩ = some c3) : w.rangeAt q 0 [c0, c1, c2, c3] := by
  intro j v hv
  rw [Nat.zero_add]
  match j, hv with
  | 0, hv => simp at hv; subst hv; exact h0
  | 1, hv => simp at hv; subst hv; exact h1
  | 2, hv => simp at hv; subst hv; exact h2
  | 3, hv => simp at hv; subst hv; exact h3
set_option maxHeartbeats 4000000 in
theorem sget_any (s : List UInt8) (v : Value) (F : Nat → Prop) (w : World) (hv : By w F v s) (hn : s.length ≤ 1099511627776) :
    Calls Try.prog 33 #[v] w (SealPost w (gotS s) (okS s)) := by
  have hv0 := hv
  by_cases hl : s.length = 512
  · have RD := Lib.hid (fun W (hk : Keep (fun _ => False) w W) => read_any s v F W (hv.keep hk (fun _ _ _ h => h)) hn)
    have N1 := Lib.hid (show numR s 0 false 8 = (wordZ s 0, 8, false) from numR_at (k := 0) (by rw [hl]; decide))
    have N2 := Lib.hid (show numR s 8 false 8 = (wordZ s 8, 16, false) from numR_at (k := 8) (by rw [hl]; decide))
    have N3 := Lib.hid (show numR s 16 false 4 = (wrap64 (getN (pieceOf s 16 4)), 20, false) from numR_at (k := 16) (by rw [hl]; decide))
    have hkl := kindN_lt s
    have hll := longN_lt s
    have N4 := Lib.hid (show numR s 20 false 1 = (((kindN s : Nat) : Int), 21, false) by rw [numR_at (k := 20) (by rw [hl]; decide)]; show (wrap64 (kindN s : Nat), _, _) = _; rw [wrap_small (by omega)]; rfl)
    have N5 := Lib.hid (show numR s 21 false 1 = (wrap64 (getN (pieceOf s 21 1)), 22, false) from numR_at (k := 21) (by rw [hl]; decide))
    have N6 := Lib.hid (show numR s 22 false 2 = (((longN s : Nat) : Int), 24, false) by rw [numR_at (k := 22) (by rw [hl]; decide)]; show (wrap64 (longN s : Nat), _, _) = _; rw [wrap_small (by omega)]; rfl)
    have hml : min (longN s) 472 ≤ 472 := Nat.min_le_right _ _
    have N7 := Lib.hid (show bytesR s 24 false (min (longN s) 472 : Nat) = ((valOf s).bd, 24 + min (longN s) 472, false) by unfold bytesR; rw [if_neg (by first | (simp; done) | (simp; omega)), if_neg (by omega), Int.toNat_natCast]; rfl)
    have hbl : (valOf s).bd.length = min (longN s) 472 := by
      show (pieceOf s 24 (min (longN s) 472)).length = _
      exact piece_len _ _ _ (by omega)
    clear hbl
    have OKS := Lib.hid (show okS s = decide (sealB (valOf s) = s) by unfold okS; rw [decide_eq_true hl, Bool.true_and])
    have GT := Lib.hid (show gotS s = if okS s = true then valOf s else zeroS from rfl)
    have MA := Lib.hid (fun W u G (h : By W G u (valOf s).bd) => made_any (valOf s) u G W h)
    have VV := Lib.hid (show (valOf s).ep = wordZ s 0 ∧ (valOf s).no = wordZ s 8 ∧ (valOf s).kd = kindN s from ⟨rfl, rfl, rfl⟩)
    rw [VV.out.1, VV.out.2.1, VV.out.2.2] at MA
    obtain ⟨A, c, rfl, -, -, -, hrd⟩ := id hv
    rw [Nat.mul_one] at hrd
    obtain ⟨gb, go, rfl, -, hrc⟩ := hrd.at_ (k := 0) (by omega)
    have RC := Lib.hid hrc
    clear hrd hrc
    have EQ := Lib.hid (fun W' => run_equal_bytes (P := Try.prog) W' 99 5 512 9998 under_sector Try.underlying5 size_byte (sealB (valOf s)) s (sealB_len _) hl)
    obtain ⟨BS, hBS⟩ : ∃ BS, BS = bv s := ⟨_, rfl⟩
    have HBS := Lib.hid hBS
    rw [← hBS] at EQ
    clear hBS
    obtain ⟨ok, hok⟩ : ∃ ok, ok = decide (sealB (valOf s) = s) := ⟨_, rfl⟩
    rw [← hok] at OKS EQ
    rw [OKS.out] at GT
    clear hok
    clear hv0 hv hn
    generalize hsl : s.length = n at *
    subst hl
    have HSL := Lib.hid hsl
    clear hsl
    generalize wrap64 (getN (pieceOf s 16 4)) = j1 at *
    generalize wrap64 (getN (pieceOf s 21 1)) = j2 at *
    generalize hx : valOf s = x at *
    have HX := Lib.hid hx
    clear hx
    generalize wordZ s 0 = z0 at *
    generalize wordZ s 8 = z8 at *
    generalize kindN s = kk at *
    generalize longN s = ll at *
    generalize hml' : min ll 472 = m at *
    rcases (show (472 < ll ∧ m = 472) ∨ (ll ≤ 472 ∧ m = ll) by omega) with ⟨hc, rfl⟩ | ⟨hc, rfl⟩
    · go_enter Try.func33, Try.ntmps33
      go_wp2_with fail
      refine (RD.out _ (by exact (by repeat first | exact Keep.refl _ _ | refine Keep.alloc ?_ _ | refine Keep.drew ?_ | refine Keep.drewN ?_ _))).mono ?_
      rintro e w1 ⟨p, rfl, hr, hp, hb⟩
      have H1 := Lib.hid (show PSt w w1 p s 0 from ⟨⟨by simp at hp; omega, (by obtain ⟨vs, h, _⟩ := hr; exact (Array.getElem?_eq_some_iff.1 h).1)⟩, rdr_mono hr (fun b _ h => ⟨by have := h.1; simp at this; omega, h.2⟩) (by omega), (hb.block w.heap.size (by simp)).trans (heap_alloc_new w _), ((Below.refl _ w).alloc (Nat.le_refl _) _).trans (hb.mono (by simp))⟩)
      clear hr hp hb RD
      have R := Lib.hid (rnum_any H1.out.2.1 8)
      rw [N1.out] at R
      go_wp2_with fail
      refine R.out.mono ?_
      rintro e w2 ⟨rfl, hr⟩
      have H2 := Lib.hid (H1.out.num hr)
      clear hr R H1
      have R := Lib.hid (rnum_any H2.out.2.1 8)
      rw [N2.out] at R
      go_wp2_with fail
      refine R.out.mono ?_
      rintro e w3 ⟨rfl, hr⟩
      have H3 := Lib.hid ((H2.out.num hr).lay z0 z8 0 (.slice none 0 0))
      clear hr R H2
      go_upto_region 5 with fail
      refine wp_world (S := fun W => GetSt w W p w3.heap.size s 16 z0 z8 0 (.slice none 0 0)) H3.out ?_
      intro w4 h4
      clear H3
      generalize w3.heap.size = q at *
      have H4 := Lib.hid h4
      clear h4
      have R := Lib.hid (rnum_any H4.out.2.1 4)
      rw [N3.out] at R
      go_wp2_with fail
      refine R.out.mono ?_
      rintro e w5 ⟨rfl, hr⟩
      have H5 := Lib.hid (H4.out.num hr)
      clear hr R H4
      have R := Lib.hid (rnum_any H5.out.2.1 1)
      rw [N4.out] at R
      go_wp2_with fail
      refine R.out.mono ?_
      rintro e w6 ⟨rfl, hr⟩
      have H6 := Lib.hid (H5.out.num hr)
      clear hr R H5
      obtain ⟨x0, x1, x2, x3, xf⟩ := cells4 H6.out.2.2.1
      have H7 := Lib.hid (H6.out.set 2 (.int .i64 (kk : Int)) (a' := z0) (b' := z8) (c' := kk) (u' := .slice none 0 0) rfl)
      have R := Lib.hid (rnum_any H7.out.2.1 1)
      rw [N5.out] at R
      go_wp2_with fail
      refine R.out.mono ?_
      rintro e w7 ⟨rfl, hr⟩
      have H8 := Lib.hid (H7.out.num hr)
      clear hr R H6 H7 x0 x1 x2 x3 xf
      have R := Lib.hid (rnum_any H8.out.2.1 2)
      rw [N6.out] at R
      go_wp2_with fail
      refine R.out.mono ?_
      rintro e w8 ⟨rfl, hr⟩
      have H9 := Lib.hid (H8.out.num hr)
      clear hr R H8
      have R := Lib.hid (rbytes_any H9.out.2.1 (472 : Nat) (by omega))
      rw [N7.out] at R
      go_wp2_with fail
      refine R.out.mono ?_
      rintro e w9 ⟨A9, c9, rfl, hby, hr⟩
      have H10 := Lib.hid (H9.out.num hr)
      obtain ⟨x0, x1, x2, x3, xf⟩ := cells4 H10.out.2.2.1
      have H11 := Lib.hid (show GetSt w (w9.setCell ⟨q, 3, none⟩ (.slice A9 x.bd.length c9)) p q s _ z0 z8 kk (.slice A9 x.bd.length c9) ∧ By (w9.setCell ⟨q, 3, none⟩ (.slice A9 x.bd.length c9)) (fun b => w.heap.size < b) (.slice A9 x.bd.length c9) x.bd from
        ⟨H10.out.set 3 (.slice A9 x.bd.length c9) rfl, (hby.keep (Keep.setCell (S := fun b => b = q) (p := ⟨q, 3, none⟩) (Keep.refl _ w9) (.inr rfl) _) (fun b _ h e => by have := (Array.getElem?_eq_some_iff.1 H9.out.2.2.1).1; omega)).mono (fun b _ h => by have := (Array.getElem?_eq_some_iff.1 H9.out.2.2.2.1).1; omega)⟩)
      clear hby hr R H9 H10
      go_upto_region 9 with fail
      clear x0 x1 x2 x3 xf
      refine wp_world (S := fun W => GetSt w W p q s _ z0 z8 kk (.slice A9 x.bd.length c9) ∧ By W (fun b => w.heap.size < b) (.slice A9 x.bd.length c9) x.bd) H11.out ?_
      intro W h12
      clear H11
      have H12 := Lib.hid h12
      have CE := Lib.hid (show ∀ W', Keep (fun _ => False) W W' → W'.cell? ⟨q, 0, none⟩ = some (.int .i64 z0) ∧ W'.cell? ⟨q, 1, none⟩ = some (.int .i64 z8) ∧ W'.cell? ⟨q, 2, none⟩ = some (.int .i64 (kk : Int)) ∧ W'.cell? ⟨q, 3, none⟩ = some (.slice A9 x.bd.length c9) ∧ W'.rangeAt gb go BS ∧ Keep (fun _ => False) W W' from fun W' hk => by
        obtain ⟨y0, y1, y2, y3, _⟩ := cells4 ((hk.block q (Array.getElem?_eq_some_iff.1 h12.1.2.2.1).1 (fun h => h)).trans h12.1.2.2.1)
        refine ⟨y0, y1, y2, y3, fun j u hu => ?_, hk⟩
        have hk' : Keep (fun _ => False) w W' := (Keep.of_below' h12.1.2.2.2.2).trans hk (fun _ _ h => h)
        exact hk'.cell (fun h => h) (RC.out j u (HBS.out ▸ hu)))
      have U1 := under_sector
      have U2 : (Try.prog.info? 99).map (·.size) = some BS.length := by rw [HBS.out, bv_len, HSL.out]; exact size_sector
      have L3 : ∀ W', (Instr.arrayAt 99 (.slice (some ⟨gb, go, none⟩) 512 c)).run Try.prog W' = .ok (.pointer (some ⟨gb, go, none⟩)) W' := fun W' => by
        simp [Instr.arrayAt, run_underlying under_sector]
      have E3 : ∀ W', (Op.equalIn 10000 99 (.agg (bv (sealB x)).toArray) (.agg BS.toArray)).run Try.prog W' = .ok ok W' := EQ.out
      have MA1 := Lib.hid (fun W' (hk : Keep (fun _ => False) W W') => MA.out W' _ _ (h12.2.keep hk (fun _ _ _ h => h)))
      clear h12
      refine wp_region_noPanic ?_
      refine wp_region_held_drew (S := fun W' => Keep (fun _ => False) W W') (by kernel_rfl) ((Keep.refl _ W).drew) (fun hHeld => ?_)
      refine wpAnyH_take (i := 0) (oi := { dst := some 30, op := .load 50 (.tmp 5), type := 50, pos := "seal.go:66", after := #[], guard := none }) (v := _) rfl (by kernel_rfl) (by kernel_rfl) (by kernel_rfl) (fun _ _ _ h => h) (yieldsIf_load_mid (by rfl) 50 _ rfl q 0 rfl [.int .i64 z0, .int .i64 z8, .int .i64 (kk : Int), .slice A9 x.bd.length c9] _ (fun W' hk => range4 (CE.out W' hk).1 (CE.out W' hk).2.1 (CE.out W' hk).2.2.1 (CE.out W' hk).2.2.2.1) under_seal rfl size_seal) hHeld ?_
      try simp only [Act.put, List.setIfInBounds_toArray, List.set_cons_zero, List.set_cons_succ]
      refine wpAnyH_take (i := 2) (oi := { dst := some 32, op := .move (.tmp 0), type := 22, pos := "seal.go:66", after := #[], guard := none }) (v := _) rfl (by kernel_rfl) (by kernel_rfl) (by kernel_rfl) (fun _ _ _ h => h) (Or.inl ⟨by rfl, fun W' _ => by go_simp; with_reducible rfl⟩) hHeld ?_
      try simp only [Act.put, List.setIfInBounds_toArray, List.set_cons_zero, List.set_cons_succ]
      refine wpAnyH_take (i := 3) (oi := { dst := some 33, op := .sliceToArrayPointer 99 (.tmp 32), type := 0, pos := "seal.go:66", after := #[{ on := 2, ground := .data }], guard := none }) (v := .pointer (some ⟨gb, go, none⟩)) rfl (by kernel_rfl) (by kernel_rfl) (by kernel_rfl) (fun _ _ _ h => h) (Or.inl ⟨by rfl, fun W' _ => by go_simp⟩) hHeld ?_
      try simp only [Act.put, List.setIfInBounds_toArray, List.set_cons_zero, List.set_cons_succ]
      refine wpAnyH_take (i := 4) (oi := { dst := some 34, op := .load 99 (.tmp 33), type := 99, pos := "seal.go:66", after := #[{ on := 3, ground := .data }], guard := none }) (v := _) rfl (by kernel_rfl) (by kernel_rfl) (by kernel_rfl) (fun _ _ _ h => h) (yieldsIf_load_mid (by rfl) 99 _ rfl gb go rfl BS _ (fun W' hk => (CE.out W' hk).2.2.2.2.1) U1 rfl U2) hHeld ?_
      try simp only [Act.put, List.setIfInBounds_toArray, List.set_cons_zero, List.set_cons_succ]
      refine wpAnyH_ready (rs := [1]) (by kernel_rfl) (by simp) ?_
      refine AllReadyH.cons (o := { dst := some 31, op := .call { callee := .value (.func 73), args := #[.tmp 30], argTypes := #[50] }, type := 99, pos := "seal.go:66", after := #[{ on := 0, ground := .data }], guard := none }) rfl (fun K hK => ?_) AllReadyH.nil
      go_simp
      go_at_call 73
      refine (MA1.out _ hHeld).mono ?_
      rintro e w13 ⟨rfl, hb13⟩
      go_wp2_with fail
      refine hK.out _ _ ?_ (fun hHeld13 => ?_)
      · exact hHeld.trans (Keep.of_below' hb13) (fun _ _ h => h)
      clear hK K
      try simp only [Act.put, List.setIfInBounds_toArray, List.set_cons_zero, List.set_cons_succ]
      refine wpAnyH_take (i := 5) (oi := { dst := some 35, op := .binOp .neq 99 (.tmp 31) (.tmp 34) 99, type := 4, pos := "seal.go:66", after := #[{ on := 1, ground := .data }, { on := 4, ground := .data }], guard := none }) (v := .bool (!ok)) rfl (by kernel_rfl) (by kernel_rfl) (by kernel_rfl) (fun _ _ _ h => h) (Or.inl ⟨by rfl, fun W' _ => by go_simp⟩) hHeld13 ?_
      try simp only [Act.put, List.setIfInBounds_toArray, List.set_cons_zero, List.set_cons_succ]
      refine wpAnyH_done (by kernel_rfl) ?_ _
      refine NoPanic.normal ?_
      have K13 := Lib.hid hHeld13
      obtain ⟨v0, v1, v2, v3, -⟩ := CE.out _ hHeld13
      have hr13 := (hHeld13.block w.heap.size (Array.getElem?_eq_some_iff.1 H12.out.1.2.2.2.1).1 (fun h => h)).trans H12.out.1.2.2.2.1
      obtain ⟨r0, r1, r2, r3, rf⟩ := cells4 hr13
      have HR := Lib.hid hr13
      clear hHeld hHeld13 hb13 U1 U2 L3 E3 hr13
      cases ok
      · go_wp2
        refine bodyPost_ret (results_seal rfl _ _ w.heap.size _ _ _ _ rfl (stored4 HR.out _ _ _ _) _ rfl) rfl ?_
        rw [GT.out, OKS.out]
        exact ⟨none, 0, 0, rfl, By.nil _ _, (((Keep.of_below H12.out.1.2.2.2.2).trans K13.out (fun _ _ h => h.elim)).trans (keepS4 _ _ _ _ _ _) (fun x _ e => by omega)).to_below (Nat.le_refl _)⟩
      · go_wp2
        refine bodyPost_ret (results_seal rfl _ _ w.heap.size _ _ _ _ rfl (stored4 HR.out _ _ _ _) _ rfl) rfl ?_
        rw [GT.out, OKS.out, if_pos trivial]
        refine ⟨A9, x.bd.length, c9, ?_, ((H12.out.2.keep K13.out (fun _ _ _ h => h)).keep (keepS4 _ _ _ _ _ _) (fun b _ h e => by omega)).mono (fun b _ h => by omega), (((Keep.of_below H12.out.1.2.2.2.2).trans K13.out (fun _ _ h => h.elim)).trans (keepS4 _ _ _ _ _ _) (fun x _ e => by omega)).to_below (Nat.le_refl _)⟩
        rw [VV.out.1, VV.out.2.1, VV.out.2.2]
        rfl
    · go_enter Try.func33, Try.ntmps33
      go_wp2_with fail
      refine (RD.out _ (by exact (by repeat first | exact Keep.refl _ _ | refine Keep.alloc ?_ _ | refine Keep.drew ?_ | refine Keep.drewN ?_ _))).mono ?_
      rintro e w1 ⟨p, rfl, hr, hp, hb⟩
      have H1 := Lib.hid (show PSt w w1 p s 0 from ⟨⟨by simp at hp; omega, (by obtain ⟨vs, h, _⟩ := hr; exact (Array.getElem?_eq_some_iff.1 h).1)⟩, rdr_mono hr (fun b _ h => ⟨by have := h.1; simp at this; omega, h.2⟩) (by omega), (hb.block w.heap.size (by simp)).trans (heap_alloc_new w _), ((Below.refl _ w).alloc (Nat.le_refl _) _).trans (hb.mono (by simp))⟩)
      clear hr hp hb RD
      have R := Lib.hid (rnum_any H1.out.2.1 8)
      rw [N1.out] at R
      go_wp2_with fail
      refine R.out.mono ?_
      rintro e w2 ⟨rfl, hr⟩
      have H2 := Lib.hid (H1.out.num hr)
      clear hr R H1
      have R := Lib.hid (rnum_any H2.out.2.1 8)
      rw [N2.out] at R
      go_wp2_with fail
      refine R.out.mono ?_
      rintro e w3 ⟨rfl, hr⟩
      have H3 := Lib.hid ((H2.out.num hr).lay z0 z8 0 (.slice none 0 0))
      clear hr R H2
      go_upto_region 5 with fail
      refine wp_world (S := fun W => GetSt w W p w3.heap.size s 16 z0 z8 0 (.slice none 0 0)) H3.out ?_
      intro w4 h4
      clear H3
      generalize w3.heap.size = q at *
      have H4 := Lib.hid h4
      clear h4
      have R := Lib.hid (rnum_any H4.out.2.1 4)
      rw [N3.out] at R
      go_wp2_with fail
      refine R.out.mono ?_
      rintro e w5 ⟨rfl, hr⟩
      have H5 := Lib.hid (H4.out.num hr)
      clear hr R H4
      have R := Lib.hid (rnum_any H5.out.2.1 1)
      rw [N4.out] at R
      go_wp2_with fail
      refine R.out.mono ?_
      rintro e w6 ⟨rfl, hr⟩
      have H6 := Lib.hid (H5.out.num hr)
      clear hr R H5
      obtain ⟨x0, x1, x2, x3, xf⟩ := cells4 H6.out.2.2.1
      have H7 := Lib.hid (H6.out.set 2 (.int .i64 (kk : Int)) (a' := z0) (b' := z8) (c' := kk) (u' := .slice none 0 0) rfl)
      have R := Lib.hid (rnum_any H7.out.2.1 1)
      rw [N5.out] at R
      go_wp2_with fail
      refine R.out.mono ?_
      rintro e w7 ⟨rfl, hr⟩
      have H8 := Lib.hid (H7.out.num hr)
      clear hr R H6 H7 x0 x1 x2 x3 xf
      have R := Lib.hid (rnum_any H8.out.2.1 2)
      rw [N6.out] at R
      go_wp2_with fail
      refine R.out.mono ?_
      rintro e w8 ⟨rfl, hr⟩
      have H9 := Lib.hid (H8.out.num hr)
      clear hr R H8
      have R := Lib.hid (rbytes_any H9.out.2.1 (m : Nat) (by omega))
      rw [N7.out] at R
      go_wp2_with fail
      refine R.out.mono ?_
      rintro e w9 ⟨A9, c9, rfl, hby, hr⟩
      have H10 := Lib.hid (H9.out.num hr)
      obtain ⟨x0, x1, x2, x3, xf⟩ := cells4 H10.out.2.2.1
      have H11 := Lib.hid (show GetSt w (w9.setCell ⟨q, 3, none⟩ (.slice A9 x.bd.length c9)) p q s _ z0 z8 kk (.slice A9 x.bd.length c9) ∧ By (w9.setCell ⟨q, 3, none⟩ (.slice A9 x.bd.length c9)) (fun b => w.heap.size < b) (.slice A9 x.bd.length c9) x.bd from
        ⟨H10.out.set 3 (.slice A9 x.bd.length c9) rfl, (hby.keep (Keep.setCell (S := fun b => b = q) (p := ⟨q, 3, none⟩) (Keep.refl _ w9) (.inr rfl) _) (fun b _ h e => by have := (Array.getElem?_eq_some_iff.1 H9.out.2.2.1).1; omega)).mono (fun b _ h => by have := (Array.getElem?_eq_some_iff.1 H9.out.2.2.2.1).1; omega)⟩)
      clear hby hr R H9 H10
      go_upto_region 9 with fail
      clear x0 x1 x2 x3 xf
      refine wp_world (S := fun W => GetSt w W p q s _ z0 z8 kk (.slice A9 x.bd.length c9) ∧ By W (fun b => w.heap.size < b) (.slice A9 x.bd.length c9) x.bd) H11.out ?_
      intro W h12
      clear H11
      have H12 := Lib.hid h12
      have CE := Lib.hid (show ∀ W', Keep (fun _ => False) W W' → W'.cell? ⟨q, 0, none⟩ = some (.int .i64 z0) ∧ W'.cell? ⟨q, 1, none⟩ = some (.int .i64 z8) ∧ W'.cell? ⟨q, 2, none⟩ = some (.int .i64 (kk : Int)) ∧ W'.cell? ⟨q, 3, none⟩ = some (.slice A9 x.bd.length c9) ∧ W'.rangeAt gb go BS ∧ Keep (fun _ => False) W W' from fun W' hk => by
        obtain ⟨y0, y1, y2, y3, _⟩ := cells4 ((hk.block q (Array.getElem?_eq_some_iff.1 h12.1.2.2.1).1 (fun h => h)).trans h12.1.2.2.1)
        refine ⟨y0, y1, y2, y3, fun j u hu => ?_, hk⟩
        have hk' : Keep (fun _ => False) w W' := (Keep.of_below' h12.1.2.2.2.2).trans hk (fun _ _ h => h)
        exact hk'.cell (fun h => h) (RC.out j u (HBS.out ▸ hu)))
      have U1 := under_sector
      have U2 : (Try.prog.info? 99).map (·.size) = some BS.length := by rw [HBS.out, bv_len, HSL.out]; exact size_sector
      have L3 : ∀ W', (Instr.arrayAt 99 (.slice (some ⟨gb, go, none⟩) 512 c)).run Try.prog W' = .ok (.pointer (some ⟨gb, go, none⟩)) W' := fun W' => by
        simp [Instr.arrayAt, run_underlying under_sector]
      have E3 : ∀ W', (Op.equalIn 10000 99 (.agg (bv (sealB x)).toArray) (.agg BS.toArray)).run Try.prog W' = .ok ok W' := EQ.out
      have MA1 := Lib.hid (fun W' (hk : Keep (fun _ => False) W W') => MA.out W' _ _ (h12.2.keep hk (fun _ _ _ h => h)))
      clear h12
      refine wp_region_noPanic ?_
      refine wp_region_held_drew (S := fun W' => Keep (fun _ => False) W W') (by kernel_rfl) ((Keep.refl _ W).drew) (fun hHeld => ?_)
      refine wpAnyH_take (i := 0) (oi := { dst := some 30, op := .load 50 (.tmp 5), type := 50, pos := "seal.go:66", after := #[], guard := none }) (v := _) rfl (by kernel_rfl) (by kernel_rfl) (by kernel_rfl) (fun _ _ _ h => h) (yieldsIf_load_mid (by rfl) 50 _ rfl q 0 rfl [.int .i64 z0, .int .i64 z8, .int .i64 (kk : Int), .slice A9 x.bd.length c9] _ (fun W' hk => range4 (CE.out W' hk).1 (CE.out W' hk).2.1 (CE.out W' hk).2.2.1 (CE.out W' hk).2.2.2.1) under_seal rfl size_seal) hHeld ?_
      try simp only [Act.put, List.setIfInBounds_toArray, List.set_cons_zero, List.set_cons_succ]
      refine wpAnyH_take (i := 2) (oi := { dst := some 32, op := .move (.tmp 0), type := 22, pos := "seal.go:66", after := #[], guard := none }) (v := _) rfl (by kernel_rfl) (by kernel_rfl) (by kernel_rfl) (fun _ _ _ h => h) (Or.inl ⟨by rfl, fun W' _ => by go_simp; with_reducible rfl⟩) hHeld ?_
      try simp only [Act.put, List.setIfInBounds_toArray, List.set_cons_zero, List.set_cons_succ]
      refine wpAnyH_take (i := 3) (oi := { dst := some 33, op := .sliceToArrayPointer 99 (.tmp 32), type := 0, pos := "seal.go:66", after := #[{ on := 2, ground := .data }], guard := none }) (v := .pointer (some ⟨gb, go, none⟩)) rfl (by kernel_rfl) (by kernel_rfl) (by kernel_rfl) (fun _ _ _ h => h) (Or.inl ⟨by rfl, fun W' _ => by go_simp⟩) hHeld ?_
      try simp only [Act.put, List.setIfInBounds_toArray, List.set_cons_zero, List.set_cons_succ]
      refine wpAnyH_take (i := 4) (oi := { dst := some 34, op := .load 99 (.tmp 33), type := 99, pos := "seal.go:66", after := #[{ on := 3, ground := .data }], guard := none }) (v := _) rfl (by kernel_rfl) (by kernel_rfl) (by kernel_rfl) (fun _ _ _ h => h) (yieldsIf_load_mid (by rfl) 99 _ rfl gb go rfl BS _ (fun W' hk => (CE.out W' hk).2.2.2.2.1) U1 rfl U2) hHeld ?_
      try simp only [Act.put, List.setIfInBounds_toArray, List.set_cons_zero, List.set_cons_succ]
      refine wpAnyH_ready (rs := [1]) (by kernel_rfl) (by simp) ?_
      refine AllReadyH.cons (o := { dst := some 31, op := .call { callee := .value (.func 73), args := #[.tmp 30], argTypes := #[50] }, type := 99, pos := "seal.go:66", after := #[{ on := 0, ground := .data }], guard := none }) rfl (fun K hK => ?_) AllReadyH.nil
      go_simp
      go_at_call 73
      refine (MA1.out _ hHeld).mono ?_
      rintro e w13 ⟨rfl, hb13⟩
      go_wp2_with fail
      refine hK.out _ _ ?_ (fun hHeld13 => ?_)
      · exact hHeld.trans (Keep.of_below' hb13) (fun _ _ h => h)
      clear hK K
      try simp only [Act.put, List.setIfInBounds_toArray, List.set_cons_zero, List.set_cons_succ]
      refine wpAnyH_take (i := 5) (oi := { dst := some 35, op := .binOp .neq 99 (.tmp 31) (.tmp 34) 99, type := 4, pos := "seal.go:66", after := #[{ on := 1, ground := .data }, { on := 4, ground := .data }], guard := none }) (v := .bool (!ok)) rfl (by kernel_rfl) (by kernel_rfl) (by kernel_rfl) (fun _ _ _ h => h) (Or.inl ⟨by rfl, fun W' _ => by go_simp⟩) hHeld13 ?_
      try simp only [Act.put, List.setIfInBounds_toArray, List.set_cons_zero, List.set_cons_succ]
      refine wpAnyH_done (by kernel_rfl) ?_ _
      refine NoPanic.normal ?_
      have K13 := Lib.hid hHeld13
      obtain ⟨v0, v1, v2, v3, -⟩ := CE.out _ hHeld13
      have hr13 := (hHeld13.block w.heap.size (Array.getElem?_eq_some_iff.1 H12.out.1.2.2.2.1).1 (fun h => h)).trans H12.out.1.2.2.2.1
      obtain ⟨r0, r1, r2, r3, rf⟩ := cells4 hr13
      have HR := Lib.hid hr13
      clear hHeld hHeld13 hb13 U1 U2 L3 E3 hr13
      cases ok
      · go_wp2
        refine bodyPost_ret (results_seal rfl _ _ w.heap.size _ _ _ _ rfl (stored4 HR.out _ _ _ _) _ rfl) rfl ?_
        rw [GT.out, OKS.out]
        exact ⟨none, 0, 0, rfl, By.nil _ _, (((Keep.of_below H12.out.1.2.2.2.2).trans K13.out (fun _ _ h => h.elim)).trans (keepS4 _ _ _ _ _ _) (fun x _ e => by omega)).to_below (Nat.le_refl _)⟩
      · go_wp2
        refine bodyPost_ret (results_seal rfl _ _ w.heap.size _ _ _ _ rfl (stored4 HR.out _ _ _ _) _ rfl) rfl ?_
        rw [GT.out, OKS.out, if_pos trivial]
        refine ⟨A9, x.bd.length, c9, ?_, ((H12.out.2.keep K13.out (fun _ _ _ h => h)).keep (keepS4 _ _ _ _ _ _) (fun b _ h e => by omega)).mono (fun b _ h => by omega), (((Keep.of_below H12.out.1.2.2.2.2).trans K13.out (fun _ _ h => h.elim)).trans (keepS4 _ _ _ _ _ _) (fun x _ e => by omega)).to_below (Nat.le_refl _)⟩
        rw [VV.out.1, VV.out.2.1, VV.out.2.2]
        rfl
  · have e1 : okS s = false := by rw [Bool.eq_false_iff]; intro h; exact hl (okS_iff.1 h).1
    have e2 : gotS s = zeroS := by unfold gotS; rw [e1]; rfl
    have hl' : ((s.length : Int) != 512) = true := by simp; omega
    rw [e1, e2]
    obtain ⟨A, c, rfl, -⟩ := hv
    clear hv0 hl e1 e2 hn
    generalize s.length = n at *
    go_enter Try.func33, Try.ntmps33
    go_wp2
    exact bodyPost_ret (results_seal rfl _ _ w.heap.size _ _ _ _ rfl (heap_alloc_new w _) _ rfl) rfl ⟨none, 0, 0, rfl, By.nil _ _, by exact (by repeat first | exact Below.refl _ _ | refine Below.setCell ?_ (by first | omega | (simp; done) | (simp; omega)) _ | refine Below.alloc ?_ (by first | omega | (simp; done) | (simp; omega)) _ | refine Below.drew ?_ | refine below_drewN ?_ _ | assumption)⟩
end Go.Proofs.Ytakchlaoimnnhaa

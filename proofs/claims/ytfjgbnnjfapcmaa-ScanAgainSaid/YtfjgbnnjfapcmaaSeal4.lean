/- Contract of seal.Get. -/
import Derived.Test.YtfjgbnnjfapcmaaSeal1
import Derived.Test.YtfjgbnnjfapcmaaRdr
import Derived.Laws.ResultCell
import Derived.Test.YtfjgbnnjfapcmaaArgs
namespace Go.Proofs.Ytfjgbnnjfapcmaa
open Go.RowKit
set_option maxRecDepth 100000
set_option linter.unusedVariables false

def zeroS : SV := ⟨0, 0, 0, []⟩
/-- What is got of bytes. -/
def gotS (s : List UInt8) : SV := if okS s = true then valOf s else zeroS
def SealPost (w : World) (x : SV) (ok : Bool) (e : Ending) (w' : World) : Prop :=
  ∃ A n c, e = .returned (.tuple #[.agg #[.int .i64 x.ep, .int .i64 x.no, .int .i64 x.kd, .slice A n c], .bool ok]) ∧ By w' (fun b => w.heap.size ≤ b) (.slice A n c) x.bd ∧ Below w.heap.size w w'
theorem numR_at {l : List UInt8} {k : Nat} {width : Int} (h : k + wideN width ≤ l.length) : numR l k false width = (wrap64 (getN (pieceOf l k (wideN width))), k + wideN width, false) := by
  have hok : getOk l k width = true := getOk_yes h
  unfold numR getZ
  rw [if_neg (by simp), if_pos hok, if_pos hok, Int.toNat_natCast]
theorem longN_lt (s : List UInt8) : longN s < 65536 := Nat.lt_of_lt_of_le (getN_lt _) (Nat.le_trans (Nat.pow_le_pow_right (by decide) (List.length_take_le _ _)) (by decide))
theorem kindN_lt (s : List UInt8) : kindN s < 256 := Nat.lt_of_lt_of_le (getN_lt _) (Nat.le_trans (Nat.pow_le_pow_right (by decide) (List.length_take_le _ _)) (by decide))
theorem under_seal : Try.prog.underlying 33 = some (.struct (Try.prog.fieldsOf 33)) := by kernel_rfl
theorem size_seal : (Try.prog.info? 33).map (·.size) = some 4 := by kernel_rfl
theorem size_sector : (Try.prog.info? 108).map (·.size) = some 512 := by kernel_rfl
theorem rdr_mono {w : World} {p : Nat} {F G : Nat → Prop} {l : List UInt8} {k : Nat} {bad : Bool} (h : Rdr w p F l k bad) (hf : ∀ b, b < w.heap.size → F b → G b) (hp : ¬ G p) : Rdr w p G l k bad := by
  obtain ⟨vs, h1, h2, h3, h4⟩ := h
  exact ⟨vs, h1, h2.mono hf, hp, h4⟩
/-- A result: a seal in block g, and a bool. -/
theorem results_seal {fn : Func} {p u : Tmp} (h : fn.results = #[.cell p 33, .tmp u]) (tmps : Array Value) (w : World) (g : Nat) (c0 c1 c2 c3 : Value)
    (hp : tmps.getD p undef = .pointer (some ⟨g, 0, none⟩)) (hg : w.heap[g]? = some (.cells #[c0, c1, c2, c3] 33 (0, 0)))
    (b : Value) (hb : tmps.getD u undef = b) : (results fn tmps).run Try.prog w = .ok (.tuple #[.agg #[c0, c1, c2, c3], b]) w := by
  rw [results_cell_tmp h, hp, hb]
  have hr := run_loadVar_row (P := Try.prog) w g 33 33 #[c0, c1, c2, c3] (0, 0) _ hg under_seal rfl size_seal
  simp [asAddr, hr]
/-- Where seal.Get stands: the result r, the reader p, the seal q. -/
def GetSt (w W : World) (p q : Nat) (l : List UInt8) (k : Nat) (a b c : Int) (u : Value) : Prop :=
  (w.heap.size < p ∧ p < q) ∧ Rdr W p (fun x => w.heap.size < x ∧ x ≠ p ∧ x < q) l k false ∧ W.heap[q]? = some (.cells #[.int .i64 a, .int .i64 b, .int .i64 c, u] 33 (0, 0)) ∧
    W.heap[w.heap.size]? = some (.cells #[.int .i64 0, .int .i64 0, .int .i64 0, .slice none 0 0] 33 (0, 0)) ∧ Below w.heap.size w W
theorem GetSt.num {w W W' : World} {p q : Nat} {l : List UInt8} {k k' : Nat} {a b c : Int} {u : Value} (h : GetSt w W p q l k a b c u) (hr : RTo W p (fun x => w.heap.size < x ∧ x ≠ p ∧ x < q) l k' false W') : GetSt w W' p q l k' a b c u := by
  obtain ⟨⟨h0, h1⟩, h2, h3, h4, h5⟩ := h
  exact ⟨⟨h0, h1⟩, hr.1, (hr.2.block q (Array.getElem?_eq_some_iff.1 h3).1 (by omega)).trans h3, (hr.2.block _ (Array.getElem?_eq_some_iff.1 h4).1 (by omega)).trans h4, ((Keep.of_below h5).trans hr.2 (fun x _ e => by omega)).to_below (Nat.le_refl _)⟩
theorem GetSt.set {w W : World} {p q : Nat} {l : List UInt8} {k : Nat} {a b c : Int} {u : Value} (h : GetSt w W p q l k a b c u) (i : Nat) (v : Value) {a' b' c' : Int} {u' : Value}
    (he : (#[.int .i64 a, .int .i64 b, .int .i64 c, u] : Array Value).setIfInBounds i v = #[.int .i64 a', .int .i64 b', .int .i64 c', u']) : GetSt w (W.setCell ⟨q, i, none⟩ v) p q l k a' b' c' u' := by
  obtain ⟨⟨h0, h1⟩, h2, h3, h4, h5⟩ := h
  have hk : Keep (fun x => x = q) W (W.setCell ⟨q, i, none⟩ v) := Keep.setCell (S := fun x => x = q) (p := ⟨q, i, none⟩) (Keep.refl _ W) (.inr rfl) _
  exact ⟨⟨h0, h1⟩, rdr_keep h2 hk (by omega) (fun x _ e => by omega), by rw [heap_setCell_same W q i _ _ v h3, he], (hk.block _ (Array.getElem?_eq_some_iff.1 h4).1 (by omega)).trans h4, ((Keep.of_below h5).trans hk (fun x _ e => by omega)).to_below (Nat.le_refl _)⟩

/-- .. before the seal is laid. -/
def PSt (w W : World) (p : Nat) (l : List UInt8) (k : Nat) : Prop :=
  (w.heap.size < p ∧ p < W.heap.size) ∧ Rdr W p (fun x => w.heap.size < x ∧ x ≠ p) l k false ∧
    W.heap[w.heap.size]? = some (.cells #[.int .i64 0, .int .i64 0, .int .i64 0, .slice none 0 0] 33 (0, 0)) ∧ Below w.heap.size w W
theorem PSt.num {w W W' : World} {p : Nat} {l : List UInt8} {k k' : Nat} (h : PSt w W p l k) (hr : RTo W p (fun x => w.heap.size < x ∧ x ≠ p) l k' false W') : PSt w W' p l k' := by
  obtain ⟨⟨h0, h1⟩, h2, h4, h5⟩ := h
  exact ⟨⟨h0, by have := hr.2.size; omega⟩, hr.1, (hr.2.block _ (Array.getElem?_eq_some_iff.1 h4).1 (by omega)).trans h4, ((Keep.of_below h5).trans hr.2 (fun x _ e => by omega)).to_below (Nat.le_refl _)⟩
theorem PSt.lay {w W : World} {p : Nat} {l : List UInt8} {k : Nat} (h : PSt w W p l k) (a b c : Int) (u : Value) : GetSt w (W.alloc (.cells #[.int .i64 a, .int .i64 b, .int .i64 c, u] 33)) p W.heap.size l k a b c u := by
  obtain ⟨⟨h0, h1⟩, h2, h4, h5⟩ := h
  refine ⟨⟨h0, h1⟩, rdr_keep (rdr_mono h2 (G := fun x => w.heap.size < x ∧ x ≠ p ∧ x < W.heap.size) (fun b hb h => ⟨h.1, h.2, hb⟩) (by omega)) ((Keep.refl (fun _ => False) W).alloc _) (fun h => h) (fun _ _ _ h => h), heap_alloc_new W _, ?_, h5.alloc h5.size _⟩
  rw [heap_alloc_old _ _ (Array.getElem?_eq_some_iff.1 h4).1]; exact h4
theorem step_load_mid {P : Program} {ops : Array Oper} {o : Oper} {a : Act} {w : World} {K : Act → World → Prop} {Q : Exit → Act → World → Prop} {E : Prop} (hgd : Region.wanted o (yielded ops a.tmps) = true) (ty : TypeId) (x : Operand) (ho : o.op = .load ty x)
    (b off : Nat) (hx : a.eval x = .pointer (some ⟨b, off, none⟩)) (cs : List Value) (d : TypeDesc) (hc : w.rangeAt b off cs)
    (hu : P.underlying ty = some d) (hd : d.isRow = true) (hi : (P.info? ty).map (·.size) = some cs.length)
    (h : K (a.put o.dst (.agg cs.toArray)) w) : if Region.wanted o (yielded ops a.tmps) = true then Oper.wp P o a w K Q else E := by
  rw [if_pos hgd]
  exact wp_load_mid ty x ho b off hx cs d hc hu hd hi h
theorem range4 {w : World} {q : Nat} {c0 c1 c2 c3 : Value} (h0 : w.cell? ⟨q, 0, none⟩ = some c0) (h1 : w.cell? ⟨q, 1, none⟩ = some c1) (h2 : w.cell? ⟨q, 2, none⟩ = some c2) (h3 : w.cell? ⟨q, 3, none⟩ = some c3) : w.rangeAt q 0 [c0, c1, c2, c3] := by
  intro j v hv
  rw [Nat.zero_add]
  match j, hv with
  | 0, hv => simp at hv; subst hv; exact h0
  | 1, hv => simp at hv; subst hv; exact h1
  | 2, hv => simp at hv; subst hv; exact h2
  | 3, hv => simp at hv; subst hv; exact h3
set_option maxHeartbeats 4000000 in
theorem sget_any (s : List UInt8) (v : Value) (F : Nat → Prop) (w : World) (hv : By w F v s) (hn : s.length ≤ 1099511627776) :
    Calls Try.prog 39 #[v] w (SealPost w (gotS s) (okS s)) := by
  have hv0 := hv
  by_cases hl : s.length = 512
  · have RD := Lib.hid (fun W (hk : Keep (fun _ => False) w W) => read_any s v F W (hv.keep hk (fun _ _ _ h => h)) hn)
    have N1 := Lib.hid (show numR s 0 false 8 = (wordZ s 0, 8, false) from numR_at (k := 0) (by rw [hl]; decide))
    have N2 := Lib.hid (show numR s 8 false 8 = (wordZ s 8, 16, false) from numR_at (k := 8) (by rw [hl]; decide))
    have N3 := Lib.hid (show numR s 16 false 4 = (wrap64 (getN (pieceOf s 16 4)), 20, false) from numR_at (k := 16) (by rw [hl]; decide))
    have hkl := kindN_lt s
    have hll := longN_lt s
    have N4 := Lib.hid (show numR s 20 false 1 = (((kindN s : Nat) : Int), 21, false) by rw [numR_at (k := 20) (by rw [hl]; decide)]; show (wrap64 (kindN s : Nat), _, _) = _; rw [wrap_small (by omega)]; rfl)
    have N5 := Lib.hid (show numR s 21 false 1 = (wrap64 (getN (pieceOf s 21 1)), 22, false) from numR_at (k := 21) (by rw [hl]; decide))
    have N6 := Lib.hid (show numR s 22 false 2 = (((longN s : Nat) : Int), 24, false) by rw [numR_at (k := 22) (by rw [hl]; decide)]; show (wrap64 (longN s : Nat), _, _) = _; rw [wrap_small (by omega)]; rfl)
    have hml : min (longN s) 472 ≤ 472 := Nat.min_le_right _ _
    have N7 := Lib.hid (show bytesR s 24 false (min (longN s) 472 : Nat) = ((valOf s).bd, 24 + min (longN s) 472, false) by unfold bytesR; rw [if_neg (by first | (simp; done) | (simp; omega)), if_neg (by omega), Int.toNat_natCast]; rfl)
    have hbl : (valOf s).bd.length = min (longN s) 472 := by
      show (pieceOf s 24 (min (longN s) 472)).length = _
      exact piece_len _ _ _ (by omega)
    clear hbl
    have OKS := Lib.hid (show okS s = decide (sealB (valOf s) = s) by unfold okS; rw [decide_eq_true hl, Bool.true_and])
    have GT := Lib.hid (show gotS s = if okS s = true then valOf s else zeroS from rfl)
    have MA := Lib.hid (fun W u G (h : By W G u (valOf s).bd) => made_any (valOf s) u G W h)
    have VV := Lib.hid (show (valOf s).ep = wordZ s 0 ∧ (valOf s).no = wordZ s 8 ∧ (valOf s).kd = kindN s from ⟨rfl, rfl, rfl⟩)
    rw [VV.out.1, VV.out.2.1, VV.out.2.2] at MA
    obtain ⟨A, c, rfl, -, -, -, hrd⟩ := id hv
    rw [Nat.mul_one] at hrd
    obtain ⟨gb, go, rfl, -, hrc⟩ := hrd.at_ (k := 0) (by omega)
    have RC := Lib.hid hrc
    clear hrd hrc
    have EQ := Lib.hid (fun W' => run_equal_bytes (P := Try.prog) W' 108 5 512 9998 under_sector Try.underlying5 size_byte (sealB (valOf s)) s (sealB_len _) hl)
    obtain ⟨BS, hBS⟩ : ∃ BS, BS = bv s := ⟨_, rfl⟩
    have HBS := Lib.hid hBS
    rw [← hBS] at EQ
    clear hBS
    obtain ⟨ok, hok⟩ : ∃ ok, ok = decide (sealB (valOf s) = s) := ⟨_, rfl⟩
    rw [← hok] at OKS EQ
    rw [OKS.out] at GT
    clear hok
    clear hv0 hv hn
    generalize hsl : s.length = n at *
    subst hl
    have HSL := Lib.hid hsl
    clear hsl
    generalize wrap64 (getN (pieceOf s 16 4)) = j1 at *
    generalize wrap64 (getN (pieceOf s 21 1)) = j2 at *
    generalize hx : valOf s = x at *
    have HX := Lib.hid hx
    clear hx
    generalize wordZ s 0 = z0 at *
    generalize wordZ s 8 = z8 at *
    generalize kindN s = kk at *
    generalize longN s = ll at *
    generalize hml' : min ll 472 = m at *
    rcases (show (472 < ll ∧ m = 472) ∨ (ll ≤ 472 ∧ m = ll) by omega) with ⟨hc, rfl⟩ | ⟨hc, rfl⟩
    · go_enter Try.func39, Try.ntmps39
      go_wp2_with fail
      refine (RD.out _ (by exact (by repeat first | exact Keep.refl _ _ | refine Keep.alloc ?_ _ | refine Keep.drew ?_ | refine Keep.drewN ?_ _))).mono ?_
      rintro e w1 ⟨p, rfl, hr, hp, hb⟩
      have H1 := Lib.hid (show PSt w w1 p s 0 from ⟨⟨by simp at hp; omega, (by obtain ⟨vs, h, _⟩ := hr; exact (Array.getElem?_eq_some_iff.1 h).1)⟩, rdr_mono hr (fun b _ h => ⟨by have := h.1; simp at this; omega, h.2⟩) (by omega), (hb.block w.heap.size (by simp)).trans (heap_alloc_new w _), ((Below.refl _ w).alloc (Nat.le_refl _) _).trans (hb.mono (by simp))⟩)
      clear hr hp hb RD
      have R := Lib.hid (rnum_any H1.out.2.1 8)
      rw [N1.out] at R
      go_wp2_with fail
      refine R.out.mono ?_
      rintro e w2 ⟨rfl, hr⟩
      have H2 := Lib.hid (H1.out.num hr)
      clear hr R H1
      have R := Lib.hid (rnum_any H2.out.2.1 8)
      rw [N2.out] at R
      go_wp2_with fail
      refine R.out.mono ?_
      rintro e w3 ⟨rfl, hr⟩
      have H3 := Lib.hid ((H2.out.num hr).lay z0 z8 0 (.slice none 0 0))
      clear hr R H2
      go_upto_region 5 with fail
      refine wp_world (S := fun W => GetSt w W p w3.heap.size s 16 z0 z8 0 (.slice none 0 0)) H3.out ?_
      intro w4 h4
      clear H3
      generalize w3.heap.size = q at *
      have H4 := Lib.hid h4
      clear h4
      have R := Lib.hid (rnum_any H4.out.2.1 4)
      rw [N3.out] at R
      go_wp2_with fail
      refine R.out.mono ?_
      rintro e w5 ⟨rfl, hr⟩
      have H5 := Lib.hid (H4.out.num hr)
      clear hr R H4
      have R := Lib.hid (rnum_any H5.out.2.1 1)
      rw [N4.out] at R
      go_wp2_with fail
      refine R.out.mono ?_
      rintro e w6 ⟨rfl, hr⟩
      have H6 := Lib.hid (H5.out.num hr)
      clear hr R H5
      obtain ⟨x0, x1, x2, x3, xf⟩ := cells4 H6.out.2.2.1
      have H7 := Lib.hid (H6.out.set 2 (.int .i64 (kk : Int)) (a' := z0) (b' := z8) (c' := kk) (u' := .slice none 0 0) rfl)
      have R := Lib.hid (rnum_any H7.out.2.1 1)
      rw [N5.out] at R
      go_wp2_with fail
      refine R.out.mono ?_
      rintro e w7 ⟨rfl, hr⟩
      have H8 := Lib.hid (H7.out.num hr)
      clear hr R H6 H7 x0 x1 x2 x3 xf
      have R := Lib.hid (rnum_any H8.out.2.1 2)
      rw [N6.out] at R
      go_wp2_with fail
      refine R.out.mono ?_
      rintro e w8 ⟨rfl, hr⟩
      have H9 := Lib.hid (H8.out.num hr)
      clear hr R H8
      have R := Lib.hid (rbytes_any H9.out.2.1 (472 : Nat) (by omega))
      rw [N7.out] at R
      go_wp2_with fail
      refine R.out.mono ?_
      rintro e w9 ⟨A9, c9, rfl, hby, hr⟩
      have H10 := Lib.hid (H9.out.num hr)
      obtain ⟨x0, x1, x2, x3, xf⟩ := cells4 H10.out.2.2.1
      have H11 := Lib.hid (show GetSt w (w9.setCell ⟨q, 3, none⟩ (.slice A9 x.bd.length c9)) p q s _ z0 z8 kk (.slice A9 x.bd.length c9) ∧ By (w9.setCell ⟨q, 3, none⟩ (.slice A9 x.bd.length c9)) (fun b => w.heap.size < b) (.slice A9 x.bd.length c9) x.bd from
        ⟨H10.out.set 3 (.slice A9 x.bd.length c9) rfl, (hby.keep (Keep.setCell (S := fun b => b = q) (p := ⟨q, 3, none⟩) (Keep.refl _ w9) (.inr rfl) _) (fun b _ h e => by have := (Array.getElem?_eq_some_iff.1 H9.out.2.2.1).1; omega)).mono (fun b _ h => by have := (Array.getElem?_eq_some_iff.1 H9.out.2.2.2.1).1; omega)⟩)
      clear hby hr R H9 H10
      go_upto_region 9 with fail
      clear x0 x1 x2 x3 xf
      refine wp_world (S := fun W => GetSt w W p q s _ z0 z8 kk (.slice A9 x.bd.length c9) ∧ By W (fun b => w.heap.size < b) (.slice A9 x.bd.length c9) x.bd) H11.out ?_
      intro W h12
      clear H11
      have H12 := Lib.hid h12
      have CE := Lib.hid (show ∀ W', Keep (fun _ => False) W W' → W'.cell? ⟨q, 0, none⟩ = some (.int .i64 z0) ∧ W'.cell? ⟨q, 1, none⟩ = some (.int .i64 z8) ∧ W'.cell? ⟨q, 2, none⟩ = some (.int .i64 (kk : Int)) ∧ W'.cell? ⟨q, 3, none⟩ = some (.slice A9 x.bd.length c9) ∧ W'.rangeAt gb go BS ∧ Keep (fun _ => False) W W' from fun W' hk => by
        obtain ⟨y0, y1, y2, y3, _⟩ := cells4 ((hk.block q (Array.getElem?_eq_some_iff.1 h12.1.2.2.1).1 (fun h => h)).trans h12.1.2.2.1)
        refine ⟨y0, y1, y2, y3, fun j u hu => ?_, hk⟩
        have hk' : Keep (fun _ => False) w W' := (Keep.of_below' h12.1.2.2.2.2).trans hk (fun _ _ h => h)
        exact hk'.cell (fun h => h) (RC.out j u (HBS.out ▸ hu)))
      have U1 := under_sector
      have U2 : (Try.prog.info? 108).map (·.size) = some BS.length := by rw [HBS.out, bv_len, HSL.out]; exact size_sector
      have L3 : ∀ W', (Instr.arrayAt 108 (.slice (some ⟨gb, go, none⟩) 512 c)).run Try.prog W' = .ok (.pointer (some ⟨gb, go, none⟩)) W' := fun W' => by
        simp [Instr.arrayAt, run_underlying under_sector]
      have E3 : ∀ W', (Op.equalIn 10000 108 (.agg (bv (sealB x)).toArray) (.agg BS.toArray)).run Try.prog W' = .ok ok W' := EQ.out
      have MA1 := Lib.hid (fun W' (hk : Keep (fun _ => False) W W') => MA.out W' _ _ (h12.2.keep hk (fun _ _ _ h => h)))
      clear h12
      refine wp_region_noPanic ?_
      refine wp_region_held_drew (S := fun W' => Keep (fun _ => False) W W') (by kernel_rfl) ((Keep.refl _ W).drew) (fun hHeld => ?_)
      refine wpAnyH_take (i := 0) (oi := { dst := some 30, op := .load 33 (.tmp 5), type := 33, pos := "seal.go:66", after := #[], guard := none }) (v := _) rfl (by kernel_rfl) (by kernel_rfl) (by kernel_rfl) (fun _ _ _ h => h) (yieldsIf_load_mid (by rfl) 33 _ rfl q 0 rfl [.int .i64 z0, .int .i64 z8, .int .i64 (kk : Int), .slice A9 x.bd.length c9] _ (fun W' hk => range4 (CE.out W' hk).1 (CE.out W' hk).2.1 (CE.out W' hk).2.2.1 (CE.out W' hk).2.2.2.1) under_seal rfl size_seal) hHeld ?_
      try simp only [Act.put, List.setIfInBounds_toArray, List.set_cons_zero, List.set_cons_succ]
      refine wpAnyH_take (i := 2) (oi := { dst := some 32, op := .move (.tmp 0), type := 29, pos := "seal.go:66", after := #[], guard := none }) (v := _) rfl (by kernel_rfl) (by kernel_rfl) (by kernel_rfl) (fun _ _ _ h => h) (Or.inl ⟨by rfl, fun W' _ => by go_simp; with_reducible rfl⟩) hHeld ?_
      try simp only [Act.put, List.setIfInBounds_toArray, List.set_cons_zero, List.set_cons_succ]
      refine wpAnyH_take (i := 3) (oi := { dst := some 33, op := .sliceToArrayPointer 108 (.tmp 32), type := 0, pos := "seal.go:66", after := #[{ on := 2, ground := .data }], guard := none }) (v := .pointer (some ⟨gb, go, none⟩)) rfl (by kernel_rfl) (by kernel_rfl) (by kernel_rfl) (fun _ _ _ h => h) (Or.inl ⟨by rfl, fun W' _ => by go_simp⟩) hHeld ?_
      try simp only [Act.put, List.setIfInBounds_toArray, List.set_cons_zero, List.set_cons_succ]
      refine wpAnyH_take (i := 4) (oi := { dst := some 34, op := .load 108 (.tmp 33), type := 108, pos := "seal.go:66", after := #[{ on := 3, ground := .data }], guard := none }) (v := _) rfl (by kernel_rfl) (by kernel_rfl) (by kernel_rfl) (fun _ _ _ h => h) (yieldsIf_load_mid (by rfl) 108 _ rfl gb go rfl BS _ (fun W' hk => (CE.out W' hk).2.2.2.2.1) U1 rfl U2) hHeld ?_
      try simp only [Act.put, List.setIfInBounds_toArray, List.set_cons_zero, List.set_cons_succ]
      refine wpAnyH_ready (rs := [1]) (by kernel_rfl) (by simp) ?_
      refine AllReadyH.cons (o := { dst := some 31, op := .call { callee := .value (.func 66), args := #[.tmp 30], argTypes := #[33] }, type := 108, pos := "seal.go:66", after := #[{ on := 0, ground := .data }], guard := none }) rfl (fun K hK => ?_) AllReadyH.nil
      go_simp
      go_at_call 66
      refine (MA1.out _ hHeld).mono ?_
      rintro e w13 ⟨rfl, hb13⟩
      go_wp2_with fail
      refine hK.out _ _ ?_ (fun hHeld13 => ?_)
      · exact hHeld.trans (Keep.of_below' hb13) (fun _ _ h => h)
      clear hK K
      try simp only [Act.put, List.setIfInBounds_toArray, List.set_cons_zero, List.set_cons_succ]
      refine wpAnyH_take (i := 5) (oi := { dst := some 35, op := .binOp .neq 108 (.tmp 31) (.tmp 34) 108, type := 4, pos := "seal.go:66", after := #[{ on := 1, ground := .data }, { on := 4, ground := .data }], guard := none }) (v := .bool (!ok)) rfl (by kernel_rfl) (by kernel_rfl) (by kernel_rfl) (fun _ _ _ h => h) (Or.inl ⟨by rfl, fun W' _ => by go_simp⟩) hHeld13 ?_
      try simp only [Act.put, List.setIfInBounds_toArray, List.set_cons_zero, List.set_cons_succ]
      refine wpAnyH_done (by kernel_rfl) ?_ _
      refine NoPanic.normal ?_
      have K13 := Lib.hid hHeld13
      obtain ⟨v0, v1, v2, v3, -⟩ := CE.out _ hHeld13
      have hr13 := (hHeld13.block w.heap.size (Array.getElem?_eq_some_iff.1 H12.out.1.2.2.2.1).1 (fun h => h)).trans H12.out.1.2.2.2.1
      obtain ⟨r0, r1, r2, r3, rf⟩ := cells4 hr13
      have HR := Lib.hid hr13
      clear hHeld hHeld13 hb13 U1 U2 L3 E3 hr13
      cases ok
      · go_wp2
        refine bodyPost_ret (results_seal rfl _ _ w.heap.size _ _ _ _ rfl (stored4 HR.out _ _ _ _) _ rfl) rfl ?_
        rw [GT.out, OKS.out]
        exact ⟨none, 0, 0, rfl, By.nil _ _, (((Keep.of_below H12.out.1.2.2.2.2).trans K13.out (fun _ _ h => h.elim)).trans (keepS4 _ _ _ _ _ _) (fun x _ e => by omega)).to_below (Nat.le_refl _)⟩
      · go_wp2
        refine bodyPost_ret (results_seal rfl _ _ w.heap.size _ _ _ _ rfl (stored4 HR.out _ _ _ _) _ rfl) rfl ?_
        rw [GT.out, OKS.out, if_pos trivial]
        refine ⟨A9, x.bd.length, c9, ?_, ((H12.out.2.keep K13.out (fun _ _ _ h => h)).keep (keepS4 _ _ _ _ _ _) (fun b _ h e => by omega)).mono (fun b _ h => by omega), (((Keep.of_below H12.out.1.2.2.2.2).trans K13.out (fun _ _ h => h.elim)).trans (keepS4 _ _ _ _ _ _) (fun x _ e => by omega)).to_below (Nat.le_refl _)⟩
        rw [VV.out.1, VV.out.2.1, VV.out.2.2]
        rfl
    · go_enter Try.func39, Try.ntmps39
      go_wp2_with fail
      refine (RD.out _ (by exact (by repeat first | exact Keep.refl _ _ | refine Keep.alloc ?_ _ | refine Keep.drew ?_ | refine Keep.drewN ?_ _))).mono ?_
      rintro e w1 ⟨p, rfl, hr, hp, hb⟩
      have H1 := Lib.hid (show PSt w w1 p s 0 from ⟨⟨by simp at hp; omega, (by obtain ⟨vs, h, _⟩ := hr; exact (Array.getElem?_eq_some_iff.1 h).1)⟩, rdr_mono hr (fun b _ h => ⟨by have := h.1; simp at this; omega, h.2⟩) (by omega), (hb.block w.heap.size (by simp)).trans (heap_alloc_new w _), ((Below.refl _ w).alloc (Nat.le_refl _) _).trans (hb.mono (by simp))⟩)
      clear hr hp hb RD
      have R := Lib.hid (rnum_any H1.out.2.1 8)
      rw [N1.out] at R
      go_wp2_with fail
      refine R.out.mono ?_
      rintro e w2 ⟨rfl, hr⟩
      have H2 := Lib.hid (H1.out.num hr)
      clear hr R H1
      have R := Lib.hid (rnum_any H2.out.2.1 8)
      rw [N2.out] at R
      go_wp2_with fail
      refine R.out.mono ?_
      rintro e w3 ⟨rfl, hr⟩
      have H3 := Lib.hid ((H2.out.num hr).lay z0 z8 0 (.slice none 0 0))
      clear hr R H2
      go_upto_region 5 with fail
      refine wp_world (S := fun W => GetSt w W p w3.heap.size s 16 z0 z8 0 (.slice none 0 0)) H3.out ?_
      intro w4 h4
      clear H3
      generalize w3.heap.size = q at *
      have H4 := Lib.hid h4
      clear h4
      have R := Lib.hid (rnum_any H4.out.2.1 4)
      rw [N3.out] at R
      go_wp2_with fail
      refine R.out.mono ?_
      rintro e w5 ⟨rfl, hr⟩
      have H5 := Lib.hid (H4.out.num hr)
      clear hr R H4
      have R := Lib.hid (rnum_any H5.out.2.1 1)
      rw [N4.out] at R
      go_wp2_with fail
      refine R.out.mono ?_
      rintro e w6 ⟨rfl, hr⟩
      have H6 := Lib.hid (H5.out.num hr)
      clear hr R H5
      obtain ⟨x0, x1, x2, x3, xf⟩ := cells4 H6.out.2.2.1
      have H7 := Lib.hid (H6.out.set 2 (.int .i64 (kk : Int)) (a' := z0) (b' := z8) (c' := kk) (u' := .slice none 0 0) rfl)
      have R := Lib.hid (rnum_any H7.out.2.1 1)
      rw [N5.out] at R
      go_wp2_with fail
      refine R.out.mono ?_
      rintro e w7 ⟨rfl, hr⟩
      have H8 := Lib.hid (H7.out.num hr)
      clear hr R H6 H7 x0 x1 x2 x3 xf
      have R := Lib.hid (rnum_any H8.out.2.1 2)
      rw [N6.out] at R
      go_wp2_with fail
      refine R.out.mono ?_
      rintro e w8 ⟨rfl, hr⟩
      have H9 := Lib.hid (H8.out.num hr)
      clear hr R H8
      have R := Lib.hid (rbytes_any H9.out.2.1 (m : Nat) (by omega))
      rw [N7.out] at R
      go_wp2_with fail
      refine R.out.mono ?_
      rintro e w9 ⟨A9, c9, rfl, hby, hr⟩
      have H10 := Lib.hid (H9.out.num hr)
      obtain ⟨x0, x1, x2, x3, xf⟩ := cells4 H10.out.2.2.1
      have H11 := Lib.hid (show GetSt w (w9.setCell ⟨q, 3, none⟩ (.slice A9 x.bd.length c9)) p q s _ z0 z8 kk (.slice A9 x.bd.length c9) ∧ By (w9.setCell ⟨q, 3, none⟩ (.slice A9 x.bd.length c9)) (fun b => w.heap.size < b) (.slice A9 x.bd.length c9) x.bd from
        ⟨H10.out.set 3 (.slice A9 x.bd.length c9) rfl, (hby.keep (Keep.setCell (S := fun b => b = q) (p := ⟨q, 3, none⟩) (Keep.refl _ w9) (.inr rfl) _) (fun b _ h e => by have := (Array.getElem?_eq_some_iff.1 H9.out.2.2.1).1; omega)).mono (fun b _ h => by have := (Array.getElem?_eq_some_iff.1 H9.out.2.2.2.1).1; omega)⟩)
      clear hby hr R H9 H10
      go_upto_region 9 with fail
      clear x0 x1 x2 x3 xf
      refine wp_world (S := fun W => GetSt w W p q s _ z0 z8 kk (.slice A9 x.bd.length c9) ∧ By W (fun b => w.heap.size < b) (.slice A9 x.bd.length c9) x.bd) H11.out ?_
      intro W h12
      clear H11
      have H12 := Lib.hid h12
      have CE := Lib.hid (show ∀ W', Keep (fun _ => False) W W' → W'.cell? ⟨q, 0, none⟩ = some (.int .i64 z0) ∧ W'.cell? ⟨q, 1, none⟩ = some (.int .i64 z8) ∧ W'.cell? ⟨q, 2, none⟩ = some (.int .i64 (kk : Int)) ∧ W'.cell? ⟨q, 3, none⟩ = some (.slice A9 x.bd.length c9) ∧ W'.rangeAt gb go BS ∧ Keep (fun _ => False) W W' from fun W' hk => by
        obtain ⟨y0, y1, y2, y3, _⟩ := cells4 ((hk.block q (Array.getElem?_eq_some_iff.1 h12.1.2.2.1).1 (fun h => h)).trans h12.1.2.2.1)
        refine ⟨y0, y1, y2, y3, fun j u hu => ?_, hk⟩
        have hk' : Keep (fun _ => False) w W' := (Keep.of_below' h12.1.2.2.2.2).trans hk (fun _ _ h => h)
        exact hk'.cell (fun h => h) (RC.out j u (HBS.out ▸ hu)))
      have U1 := under_sector
      have U2 : (Try.prog.info? 108).map (·.size) = some BS.length := by rw [HBS.out, bv_len, HSL.out]; exact size_sector
      have L3 : ∀ W', (Instr.arrayAt 108 (.slice (some ⟨gb, go, none⟩) 512 c)).run Try.prog W' = .ok (.pointer (some ⟨gb, go, none⟩)) W' := fun W' => by
        simp [Instr.arrayAt, run_underlying under_sector]
      have E3 : ∀ W', (Op.equalIn 10000 108 (.agg (bv (sealB x)).toArray) (.agg BS.toArray)).run Try.prog W' = .ok ok W' := EQ.out
      have MA1 := Lib.hid (fun W' (hk : Keep (fun _ => False) W W') => MA.out W' _ _ (h12.2.keep hk (fun _ _ _ h => h)))
      clear h12
      refine wp_region_noPanic ?_
      refine wp_region_held_drew (S := fun W' => Keep (fun _ => False) W W') (by kernel_rfl) ((Keep.refl _ W).drew) (fun hHeld => ?_)
      refine wpAnyH_take (i := 0) (oi := { dst := some 30, op := .load 33 (.tmp 5), type := 33, pos := "seal.go:66", after := #[], guard := none }) (v := _) rfl (by kernel_rfl) (by kernel_rfl) (by kernel_rfl) (fun _ _ _ h => h) (yieldsIf_load_mid (by rfl) 33 _ rfl q 0 rfl [.int .i64 z0, .int .i64 z8, .int .i64 (kk : Int), .slice A9 x.bd.length c9] _ (fun W' hk => range4 (CE.out W' hk).1 (CE.out W' hk).2.1 (CE.out W' hk).2.2.1 (CE.out W' hk).2.2.2.1) under_seal rfl size_seal) hHeld ?_
      try simp only [Act.put, List.setIfInBounds_toArray, List.set_cons_zero, List.set_cons_succ]
      refine wpAnyH_take (i := 2) (oi := { dst := some 32, op := .move (.tmp 0), type := 29, pos := "seal.go:66", after := #[], guard := none }) (v := _) rfl (by kernel_rfl) (by kernel_rfl) (by kernel_rfl) (fun _ _ _ h => h) (Or.inl ⟨by rfl, fun W' _ => by go_simp; with_reducible rfl⟩) hHeld ?_
      try simp only [Act.put, List.setIfInBounds_toArray, List.set_cons_zero, List.set_cons_succ]
      refine wpAnyH_take (i := 3) (oi := { dst := some 33, op := .sliceToArrayPointer 108 (.tmp 32), type := 0, pos := "seal.go:66", after := #[{ on := 2, ground := .data }], guard := none }) (v := .pointer (some ⟨gb, go, none⟩)) rfl (by kernel_rfl) (by kernel_rfl) (by kernel_rfl) (fun _ _ _ h => h) (Or.inl ⟨by rfl, fun W' _ => by go_simp⟩) hHeld ?_
      try simp only [Act.put, List.setIfInBounds_toArray, List.set_cons_zero, List.set_cons_succ]
      refine wpAnyH_take (i := 4) (oi := { dst := some 34, op := .load 108 (.tmp 33), type := 108, pos := "seal.go:66", after := #[{ on := 3, ground := .data }], guard := none }) (v := _) rfl (by kernel_rfl) (by kernel_rfl) (by kernel_rfl) (fun _ _ _ h => h) (yieldsIf_load_mid (by rfl) 108 _ rfl gb go rfl BS _ (fun W' hk => (CE.out W' hk).2.2.2.2.1) U1 rfl U2) hHeld ?_
      try simp only [Act.put, List.setIfInBounds_toArray, List.set_cons_zero, List.set_cons_succ]
      refine wpAnyH_ready (rs := [1]) (by kernel_rfl) (by simp) ?_
      refine AllReadyH.cons (o := { dst := some 31, op := .call { callee := .value (.func 66), args := #[.tmp 30], argTypes := #[33] }, type := 108, pos := "seal.go:66", after := #[{ on := 0, ground := .data }], guard := none }) rfl (fun K hK => ?_) AllReadyH.nil
      go_simp
      go_at_call 66
      refine (MA1.out _ hHeld).mono ?_
      rintro e w13 ⟨rfl, hb13⟩
      go_wp2_with fail
      refine hK.out _ _ ?_ (fun hHeld13 => ?_)
      · exact hHeld.trans (Keep.of_below' hb13) (fun _ _ h => h)
      clear hK K
      try simp only [Act.put, List.setIfInBounds_toArray, List.set_cons_zero, List.set_cons_succ]
      refine wpAnyH_take (i := 5) (oi := { dst := some 35, op := .binOp .neq 108 (.tmp 31) (.tmp 34) 108, type := 4, pos := "seal.go:66", after := #[{ on := 1, ground := .data }, { on := 4, ground := .data }], guard := none }) (v := .bool (!ok)) rfl (by kernel_rfl) (by kernel_rfl) (by kernel_rfl) (fun _ _ _ h => h) (Or.inl ⟨by rfl, fun W' _ => by go_simp⟩) hHeld13 ?_
      try simp only [Act.put, List.setIfInBounds_toArray, List.set_cons_zero, List.set_cons_succ]
      refine wpAnyH_done (by kernel_rfl) ?_ _
      refine NoPanic.normal ?_
      have K13 := Lib.hid hHeld13
      obtain ⟨v0, v1, v2, v3, -⟩ := CE.out _ hHeld13
      have hr13 := (hHeld13.block w.heap.size (Array.getElem?_eq_some_iff.1 H12.out.1.2.2.2.1).1 (fun h => h)).trans H12.out.1.2.2.2.1
      obtain ⟨r0, r1, r2, r3, rf⟩ := cells4 hr13
      have HR := Lib.hid hr13
      clear hHeld hHeld13 hb13 U1 U2 L3 E3 hr13
      cases ok
      · go_wp2
        refine bodyPost_ret (results_seal rfl _ _ w.heap.size _ _ _ _ rfl (stored4 HR.out _ _ _ _) _ rfl) rfl ?_
        rw [GT.out, OKS.out]
        exact ⟨none, 0, 0, rfl, By.nil _ _, (((Keep.of_below H12.out.1.2.2.2.2).trans K13.out (fun _ _ h => h.elim)).trans (keepS4 _ _ _ _ _ _) (fun x _ e => by omega)).to_below (Nat.le_refl _)⟩
      · go_wp2
        refine bodyPost_ret (results_seal rfl _ _ w.heap.size _ _ _ _ rfl (stored4 HR.out _ _ _ _) _ rfl) rfl ?_
        rw [GT.out, OKS.out, if_pos trivial]
        refine ⟨A9, x.bd.length, c9, ?_, ((H12.out.2.keep K13.out (fun _ _ _ h => h)).keep (keepS4 _ _ _ _ _ _) (fun b _ h e => by omega)).mono (fun b _ h => by omega), (((Keep.of_below H12.out.1.2.2.2.2).trans K13.out (fun _ _ h => h.elim)).trans (keepS4 _ _ _ _ _ _) (fun x _ e => by omega)).to_below (Nat.le_refl _)⟩
        rw [VV.out.1, VV.out.2.1, VV.out.2.2]
        rfl
  · have e1 : okS s = false := by rw [Bool.eq_false_iff]; intro h; exact hl (okS_iff.1 h).1
    have e2 : gotS s = zeroS := by unfold gotS; rw [e1]; rfl
    have hl' : ((s.length : Int) != 512) = true := by simp; omega
    rw [e1, e2]
    obtain ⟨A, c, rfl, -⟩ := hv
    clear hv0 hl e1 e2 hn
    generalize s.length = n at *
    go_enter Try.func39, Try.ntmps39
    go_wp2
    exact bodyPost_ret (results_seal rfl _ _ w.heap.size _ _ _ _ rfl (heap_alloc_new w _) _ rfl) rfl ⟨none, 0, 0, rfl, By.nil _ _, by exact (by repeat first | exact Below.refl _ _ | refine Below.setCell ?_ (by first | omega | (simp; done) | (simp; omega)) _ | refine Below.alloc ?_ (by first | omega | (simp; done) | (simp; omega)) _ | refine Below.drew ?_ | refine below_drewN ?_ _ | assumption)⟩
end Go.Proofs.Ytfjgbnnjfapcmaa
namespace Go.Proofs.Ytfjgbnnjfapcmaa
open Go.RowKit
set_option maxRecDepth 100000
set_option linter.unusedVariables false

theorem rnear48 (z : Int) (w : World) : Calls Try.prog 71 #[.int .i64 z, .int .i64 281474976710656] w fun e w' => e = .returned (.int .i64 (nearN z 281474976710656 : Nat)) ∧ w = w' := refNear_any z 281474976710656 (by decide) w
theorem rnear255 (z : Int) (w : World) : Calls Try.prog 71 #[.int .i64 z, .int .i64 255] w fun e w' => e = .returned (.int .i64 (nearN z 255 : Nat)) ∧ w = w' := refNear_any z 255 (by decide) w
theorem refCut472 (l : List UInt8) (v : Value) (F : Nat → Prop) (w : World) (hv : By w F v l) :
    Calls Try.prog 72 #[v, .int .i64 472] w (ObPost w (cutB l 472)) := by
  refine (refCut_any l v F 472 w hv).mono fun e w' ⟨u, he, ho, hb⟩ => ?_
  obtain ⟨A, c, rfl, _⟩ := ho.form
  exact ⟨A, _, c, he, ⟨_, ho⟩, hb⟩
/-- Two rows of bytes of the call's own: one done, in blocks below H, one that grows. -/
def FR (wc W : World) (H : Nat) (vf vr : Value) (lf lr : List UInt8) : Prop :=
  (Ob W wc.heap.size vf lf ∧ ∀ k, ownB vf = some k → k < H) ∧ Ob W H vr lr ∧ (wc.heap.size ≤ H ∧ H ≤ W.heap.size) ∧ Below wc.heap.size wc W
section
variable {wc W W' : World} {H : Nat} {vf vr vr' : Value} {lf lr lr' : List UInt8}
theorem FR.below (h : FR wc W H vf vr lf lr) (hb : Below W.heap.size W W') : FR wc W' H vf vr lf lr :=
  ⟨⟨h.1.1.same (Keep.of_below' hb), h.1.2⟩, h.2.1.same (Keep.of_below' hb), ⟨h.2.2.1.1, Nat.le_trans h.2.2.1.2 hb.size⟩, h.2.2.2.trans (hb.mono h.2.2.2.size)⟩
theorem FR.alloc (h : FR wc W H vf vr lf lr) (o : Obj) : FR wc (W.alloc o) H vf vr lf lr := h.below ((Below.refl _ W).alloc (Nat.le_refl _) o)
theorem FR.app (h : FR wc W H vf vr lf lr) (ho : Ob W' H vr' lr') (hk : Keep (fun k => ownB vr = some k) W W') : FR wc W' H vf vr' lf lr' :=
  ⟨⟨h.1.1.keep hk (fun k e _ _ e2 => by have := h.1.2 k e; have := (h.2.1.ownB_ k e2).1; omega), h.1.2⟩, ho, ⟨h.2.2.1.1, Nat.le_trans h.2.2.1.2 hk.size⟩, h.2.2.2.trans (((h.2.1.keeps hk).mono (T := fun k => wc.heap.size ≤ k) (fun k _ e => by have := h.2.2.1.1; omega)).to_below h.2.2.2.size)⟩
theorem FR.first (h1 : Ob W wc.heap.size vf lf) (hb : Below wc.heap.size wc W) (h2 : Ob W' W.heap.size vr lr) (hb2 : Below W.heap.size W W') : FR wc W' W.heap.size vf vr lf lr :=
  ⟨⟨h1.same (Keep.of_below' hb2), fun k e => (h1.ownB_ k e).2⟩, h2, ⟨hb.size, hb2.size⟩, hb.trans (hb2.mono hb.size)⟩
end
/-- A seal's box has been laid. -/
def BoxSt (w W : World) (x : SV) (u : Value) : Prop := W.heap[w.heap.size]? = some (.cells #[.int .i64 x.ep, .int .i64 x.no, .int .i64 x.kd, u] 33 (0, 0)) ∧ Below w.heap.size w W
set_option maxHeartbeats 4000000 in
theorem refPut_any (x : SV) (u : Value) (F : Nat → Prop) (w : World) (hb : By w F u x.bd) :
    Calls Try.prog 50 #[.agg #[.int .i64 x.ep, .int .i64 x.no, .int .i64 x.kd, u]] w (ByPost w (sealB x)) := by
  have N1 := Lib.hid (rnear48 x.ep)
  have N2 := Lib.hid (rnear48 x.no)
  have N3 := Lib.hid (rnear255 x.kd)
  have SB := Lib.hid (show sealB x = (frontB (nearN x.ep 281474976710656) (nearN x.no 281474976710656) ++ leB (crcOf (frontB (nearN x.ep 281474976710656) (nearN x.no 281474976710656) ++ restB (nearN x.ep 281474976710656) (nearN x.no 281474976710656) (nearN x.kd 255) (bodyOf x.bd))) 4) ++ restB (nearN x.ep 281474976710656) (nearN x.no 281474976710656) (nearN x.kd 255) (bodyOf x.bd) by
    unfold sealB seal0 sumB frontB restB; simp only [List.append_assoc])
  have he := nearN_le x.ep 281474976710656
  have hn := nearN_le x.no 281474976710656
  have hk := nearN_le x.kd 255
  have hl := bodyOf_len x.bd
  obtain ⟨A, c, rfl, hlc, hcm, hnil, -⟩ := id hb
  have B1 := Lib.hid (show x.bd.length ≤ 472 → By w F (.slice A x.bd.length c) (bodyOf x.bd) ∧ x.bd.length = (bodyOf x.bd).length from fun h => by
    have e : bodyOf x.bd = x.bd := List.take_of_length_le h
    rw [e]; exact ⟨hb, rfl⟩)
  have B2 := Lib.hid (show 472 < x.bd.length → By w F (.slice A 472 c) (bodyOf x.bd) ∧ 472 = (bodyOf x.bd).length from fun h => by
    refine ⟨?_, by unfold bodyOf; rw [List.length_take]; omega⟩
    have := hb.piece (A' := A) (lo := 0) (m := 472) (c' := c) (by omega) (fun _ a ha => by rw [ha]; simp [Addr.add]) (by omega) hcm hnil
    rwa [List.drop_zero] at this)
  clear hnil hb
  generalize nearN x.ep 281474976710656 = ee at *
  generalize nearN x.no 281474976710656 = nn at *
  generalize nearN x.kd 255 = kk at *
  generalize bodyOf x.bd = b at *
  generalize hL : x.bd.length = L at *
  clear hL
  go_enter Try.func50, Try.ntmps50
  go_wp2_with fail
  refine wp_world (S := fun W => BoxSt w W x (.slice A L c)) ⟨heap_alloc_new w _, by exact (by repeat first | exact Below.refl _ _ | refine Below.setCell ?_ (by first | omega | (simp; done) | (simp; omega)) _ | refine Below.alloc ?_ (by first | omega | (simp; done) | (simp; omega)) _ | refine Below.drew ?_ | refine below_drewN ?_ _ | assumption)⟩ ?_
  intro W1 h1
  obtain ⟨x0, x1, x2, x3, xf⟩ := cells4 h1.1
  have H1 := Lib.hid h1
  clear h1
  generalize hp : w.heap.size = p at *
  go_quiet (first
    | (go_at_call 71; (with_reducible exact quiet_same (N1.out _)))
    | (go_at_call 71; (with_reducible exact quiet_same (N2.out _))))
  go_upto_if 19 with fail
  go_cut [5] (fun s5 wx => ∃ A' n' c', s5 = .slice A' n' c' ∧ Hid (By wx F (.slice A' n' c') b ∧ n' = b.length) ∧ Hid (BoxSt w wx x (.slice A L c)))
  case first =>
    have KK := Lib.hid (fun A n (h : By w F (.slice A n c) b) => (h.below H1.out.2).drewN nq)
    by_cases hbig : L ≤ 472
    · go_wp2_with fail
      go_meet
      exact ⟨A, L, c, rfl, Lib.hid ⟨KK.out _ _ (B1.out hbig).1, (B1.out hbig).2⟩, Lib.hid ⟨H1.out.1, below_drewN H1.out.2 nq⟩⟩
    · go_wp2_with fail
      go_meet
      exact ⟨A, 472, c, rfl, Lib.hid ⟨KK.out _ _ (B2.out (by omega)).1, (B2.out (by omega)).2⟩, Lib.hid ⟨H1.out.1, below_drewN H1.out.2 nq⟩⟩
  case rest =>
    obtain ⟨A', n', c', rfl, hby, h1⟩ := hcut
    obtain ⟨hby, rfl⟩ := hby.out
    have BY := Lib.hid hby
    have H1 := Lib.hid h1.out
    subst hp
    clear hby x0 x1 x2 x3 xf B1 B2 N1 N2 hlc h1
    go_wp2_with fail
    refine (refNumO 8 _ 8 ee rfl rfl (by omega) (by omega) _).mono ?_
    rintro e w1 ⟨a1, n1, c1, rfl, ho1, hb1⟩
    have G1 := Lib.hid (And.intro ho1 hb1)
    clear ho1 hb1
    go_wp2_with fail
    refine (refNumO 8 _ 8 nn rfl rfl (by omega) (by omega) _).mono ?_
    rintro e w2 ⟨a2, n2, c2, rfl, ho2, hb2⟩
    have G2 := Lib.hid (And.intro (G1.out.1.same (Keep.of_below' hb2)) (And.intro ho2.by_ (G1.out.2.trans (hb2.mono G1.out.2.size))))
    clear ho2 hb2 G1
    go_wp2_with (first | (refine wpList_app rfl _ _ rfl wc.heap.size _ _ rfl G2.out.1 _ _ _ rfl G2.out.2.1 (by rw [leB_len, leB_len]; decide) G2.out.2.2.size ?_) | fail)
    intro a3 n3 c3 w3 ho3 hk3
    have G3 := Lib.hid (show Ob w3 wc.heap.size (.slice a3 n3 c3) (frontB ee nn) ∧ Below wc.heap.size wc w3 from ⟨ho3, G2.out.2.2.trans ((G2.out.1.keeps hk3).to_below G2.out.2.2.size)⟩)
    clear ho3 hk3 G2
    obtain ⟨x0, x1, x2, x3, -⟩ := cells4 ((G3.out.2.block _ (Array.getElem?_eq_some_iff.1 H1.out.1).1).trans H1.out.1)
    go_wp2_with fail
    refine (N3.out _).mono ?_
    rintro e w4 ⟨rfl, rfl⟩
    go_wp2_with fail
    refine (refNumO 1 _ 1 kk rfl rfl (by omega) (by omega) _).mono ?_
    rintro e w4 ⟨a4, n4, c4, rfl, ho4, hb4⟩
    have G4 := Lib.hid (FR.first G3.out.1 G3.out.2 ho4 hb4)
    clear ho4 hb4 G3 x0 x1 x2 x3
    generalize w3.heap.size = H at *
    go_wp2_with (first | (refine wpList_app rfl _ _ rfl H _ _ rfl (G4.out.alloc _).2.1 _ _ _ rfl (By.byte _ 0 0 rfl) (by rw [leB_len]; decide) ((G4.out.alloc _).2.2.1.2) ?_) | fail)
    intro a5 n5 c5 w5 ho5 hk5
    have G5 := Lib.hid ((G4.out.alloc _).app ho5 hk5)
    clear ho5 hk5 G4
    go_wp2_with fail
    refine (refNumO 2 _ 2 b.length rfl rfl (by omega) (by omega) _).mono ?_
    rintro e w6 ⟨a6, n6, c6, rfl, ho, hb⟩
    have Y := Lib.hid ho.by_
    have G6 := Lib.hid (G5.out.below hb)
    clear ho hb G5
    go_wp2_with (first | (refine wpList_app rfl _ _ rfl H _ _ rfl G6.out.2.1 _ _ _ rfl Y.out (by simp only [List.length_append, leB_len, List.length_cons, List.length_nil]; omega) G6.out.2.2.1.2 ?_) | fail)
    intro a7 n7 c7 w7 ho hk
    have G7 := Lib.hid (G6.out.app ho hk)
    clear ho hk Y G6
    have BY7 := Lib.hid (BY.out.below (G7.out.2.2.2.mono (Nat.le_refl _)))
    go_wp2_with fail
    refine (refCut472 b _ F _ BY7.out).mono ?_
    rintro e w8 ⟨a8, n8, c8, rfl, ho, hb⟩
    have Y := Lib.hid ho.by_
    have G8 := Lib.hid (G7.out.below hb)
    clear ho hb G7 BY7
    go_wp2_with (first | (refine wpList_app rfl _ _ rfl H _ _ rfl G8.out.2.1 _ _ _ rfl Y.out (by simp only [List.length_append, leB_len, cutB_len, List.length_cons]; omega) G8.out.2.2.1.2 ?_) | fail)
    intro a9 n9 c9 w9 ho hk
    have G9 := Lib.hid (G8.out.app ho hk)
    clear ho hk Y G8
    go_wp2_with fail
    refine (refNumO 8 _ 8 nn rfl rfl (by omega) (by omega) _).mono ?_
    rintro e w10 ⟨a10, n10, c10, rfl, ho, hb⟩
    have Y := Lib.hid ho.by_
    have G10 := Lib.hid (G9.out.below hb)
    clear ho hb G9
    go_wp2_with (first | (refine wpList_app rfl _ _ rfl H _ _ rfl G10.out.2.1 _ _ _ rfl Y.out (by simp only [List.length_append, leB_len, cutB_len, List.length_cons]; omega) G10.out.2.2.1.2 ?_) | fail)
    intro a11 n11 c11 w11 ho hk
    have G11 := Lib.hid (G10.out.app ho hk)
    clear ho hk Y G10
    go_wp2_with fail
    refine (refNumO 8 _ 8 ee rfl rfl (by omega) (by omega) _).mono ?_
    rintro e w12 ⟨a12, n12, c12, rfl, ho, hb⟩
    have Y := Lib.hid ho.by_
    have G12 := Lib.hid (G11.out.below hb)
    clear ho hb G11
    go_wp2_with (first | (refine wpList_app rfl _ _ rfl H _ _ rfl G12.out.2.1 _ _ _ rfl Y.out (by simp only [List.length_append, leB_len, cutB_len, List.length_cons]; omega) G12.out.2.2.1.2 ?_) | fail)
    intro a13 n13 c13 w13 ho hk
    have G13 := Lib.hid (G12.out.app ho hk)
    clear ho hk Y G12
    have G14 := Lib.hid (show FR wc w13 H (.slice a3 n3 c3) (.slice a13 n13 c13) (frontB ee nn) (restB ee nn kk b) from G13.out)
    have LF := Lib.hid (show (frontB ee nn).length = 16 by unfold frontB; rw [List.length_append, leB_len, leB_len])
    have LR := Lib.hid (show (restB ee nn kk b).length = 492 by unfold restB; simp [leB_len, cutB_len])
    clear G13
    generalize frontB ee nn = fr at *
    generalize restB ee nn kk b = re at *
    go_wp2_with (first | (refine wpList_app rfl _ _ rfl w13.heap.size _ [] rfl (Ob.nil _ _ _) _ _ _ rfl (G14.out.alloc _).1.1.by_ (by rw [LF.out]; decide) (by simp) ?_) | fail)
    intro a14 n14 c14 w14 ho hk
    have G15 := Lib.hid (show Ob w14 w13.heap.size (.slice a14 n14 c14) fr ∧ Below w13.heap.size w13 w14 from ⟨ho, ((Below.refl _ w13).alloc (Nat.le_refl _) _).trans ((hk.mono (T := fun k => w13.heap.size ≤ k) (fun k _ e => by simp [ownB] at e)).to_below (by simp))⟩)
    clear ho hk
    go_wp2_with (first | (refine wpList_app rfl _ _ rfl w13.heap.size _ _ rfl G15.out.1 _ _ _ rfl (G14.out.below G15.out.2).2.1.by_ (by rw [LF.out, LR.out]; decide) G15.out.2.size ?_) | fail)
    intro a15 n15 c15 w15 ho hk
    have G16 := Lib.hid (show Ob w15 w13.heap.size (.slice a15 n15 c15) (fr ++ re) ∧ Below w13.heap.size w13 w15 from ⟨ho, G15.out.2.trans ((G15.out.1.keeps hk).to_below G15.out.2.size)⟩)
    clear ho hk G15
    have hcl := crcOf_lt (fr ++ re)
    have CR := Lib.hid (rcrc (fr ++ re) _ _ w15 G16.out.1.by_)
    have G17 := Lib.hid (G14.out.below G16.out.2)
    clear G16 G14
    generalize hcs : crcOf (fr ++ re) = cs at *
    have HCS := Lib.hid hcs
    clear hcs
    go_wp2_with fail
    refine CR.out.mono ?_
    rintro e w16 ⟨rfl, rfl⟩
    go_wp2_with fail
    refine (refNumO 4 _ 4 cs rfl rfl (by omega) (by omega) _).mono ?_
    rintro e w16 ⟨a16, n16, c16, rfl, ho, hb⟩
    have Y := Lib.hid ho.by_
    have G18 := Lib.hid (G17.out.below hb)
    clear ho hb G17
    go_wp2_with (first | (refine wpList_app rfl _ _ rfl wc.heap.size _ _ rfl G18.out.1.1 _ _ _ rfl Y.out (by rw [LF.out, leB_len]; decide) G18.out.2.2.2.size ?_) | fail)
    intro a17 n17 c17 w17 ho hk
    have G19 := Lib.hid (show Ob w17 wc.heap.size (.slice a17 n17 c17) (fr ++ leB cs 4) ∧ Ob w17 H (.slice a13 n13 c13) re ∧ Below wc.heap.size wc w17 from
      ⟨ho, G18.out.2.1.keep hk (fun k _ h1 _ e => by have := G18.out.1.2 k e; omega), G18.out.2.2.2.trans ((G18.out.1.1.keeps hk).to_below G18.out.2.2.2.size)⟩)
    clear ho hk G18 Y
    go_wp2_with (first | (refine wpList_app rfl _ _ rfl wc.heap.size _ _ rfl G19.out.1 _ _ _ rfl G19.out.2.1.by_ (by rw [List.length_append, LF.out, leB_len, LR.out]; decide) G19.out.2.2.size ?_) | fail)
    intro a18 n18 c18 w18 ho hk
    have G20 := Lib.hid (show Ob w18 wc.heap.size (.slice a18 n18 c18) (fr ++ (leB cs 4 ++ re)) ∧ Below wc.heap.size wc w18 from ⟨ho, G19.out.2.2.trans ((G19.out.1.keeps hk).to_below G19.out.2.2.size)⟩)
    clear ho hk G19
    go_wp2
    go_ret
    refine ⟨a18, n18, c18, rfl, ?_, H1.out.2.trans (G20.out.2.mono H1.out.2.size)⟩
    rw [SB.out, List.append_assoc]
    exact G20.out.1.by_.mono (fun b _ h => by have := H1.out.2.size; omega)
end Go.Proofs.Ytfjgbnnjfapcmaa
namespace Go.Proofs.Ytfjgbnnjfapcmaa
open Go.RowKit
set_option maxRecDepth 100000
set_option linter.unusedVariables false

/-- Where vivariumref03.Get stands behind the seal's making. -/
def RGet (w W : World) (q : Nat) (a b c : Int) (u : Value) (l : List UInt8) : Prop :=
  W.heap[w.heap.size]? = some (.cells #[.int .i64 0, .int .i64 0, .int .i64 0, .slice none 0 0] 33 (0, 0)) ∧
  W.heap[q]? = some (.cells #[.int .i64 a, .int .i64 b, .int .i64 c, u] 33 (0, 0)) ∧ w.heap.size < q ∧ By W (fun x => w.heap.size < x) u l ∧ Below w.heap.size w W
theorem RGet.mk_ {w W wf : World} {q : Nat} {a b c : Int} {u : Value} {l : List UInt8} (hW : W = w.alloc (.cells #[.int .i64 0, .int .i64 0, .int .i64 0, .slice none 0 0] 33)) (hk : Keep (fun _ => False) W wf)
    (hq : wf.heap[q]? = some (.cells #[.int .i64 a, .int .i64 b, .int .i64 c, u] 33 (0, 0))) (hq0 : W.heap.size ≤ q) (hb : By wf (fun x => W.heap.size ≤ x) u l) : RGet w wf q a b c u l := by
  have hs : W.heap.size = w.heap.size + 1 := by rw [hW]; simp
  have hB : Below w.heap.size w W := by rw [hW]; exact (Below.refl _ w).alloc (Nat.le_refl _) _
  refine ⟨(hk.block w.heap.size (by omega) (fun h => h)).trans ?_, hq, by omega, hb.mono (fun x _ h => by omega), hB.trans (hk.to_below'.mono (by omega))⟩
  rw [hW]; exact heap_alloc_new w _
theorem Keep.trans' {w w1 w2 : World} {q : Nat} (h : Keep (fun _ => False) w w1) (k : Keep (fun b => b = q) w1 w2) (hq : w.heap.size ≤ q) : Keep (fun _ => False) w w2 :=
  h.trans k (fun x hx e => by omega)
set_option maxHeartbeats 4000000 in
theorem refGetS_any (s : List UInt8) (v : Value) (F : Nat → Prop) (w : World) (hv : By w F v s) :
    Calls Try.prog 40 #[v] w (SealPost w (gotS s) (okS s)) := by
  by_cases hl : s.length = 512
  · have G1 := Lib.hid (fun W (hk : Keep (fun _ => False) w W) => refGet_any s v F 0 8 W (hv.keep hk (fun _ _ _ h => h)) (by omega) (by omega))
    have G2 := Lib.hid (fun W (hk : Keep (fun _ => False) w W) => refGet_any s v F 8 8 W (hv.keep hk (fun _ _ _ h => h)) (by omega) (by omega))
    have G3 := Lib.hid (fun W (hk : Keep (fun _ => False) w W) => refGet_any s v F 22 2 W (hv.keep hk (fun _ _ _ h => h)) (by omega) (by omega))
    have hkl := kindN_lt s
    have hll := longN_lt s
    have g1 := getZ_word (s := s) (at_ := 0) (by omega)
    have g2 := getZ_word (s := s) (at_ := 8) (by omega)
    have g3 : getZ s 22 2 = (longN s : Nat) ∧ getOk s 22 2 = true := by
      have ho : getOk s (22 : Nat) 2 = true := getOk_yes (by rw [hl]; decide)
      refine ⟨?_, ho⟩
      have : getZ s (22 : Nat) 2 = wrap64 (longN s : Nat) := by unfold getZ; rw [if_pos ho, Int.toNat_natCast]; rfl
      rw [wrap_small (by omega)] at this
      exact this
    rw [show ((0 : Nat) : Int) = 0 from rfl] at g1
    rw [show ((8 : Nat) : Int) = 8 from rfl] at g2
    rw [g1.1, g1.2] at G1
    rw [g2.1, g2.2] at G2
    rw [g3.1, g3.2] at G3
    have hkd : kindN s = (s.getD 20 0).toNat := by
      unfold kindN pieceOf
      have e : (s.drop 20).take 1 = [s.getD 20 0] := by
        rw [List.drop_eq_getElem_cons (by omega), List.take_succ_cons, List.take_zero, List.getD_eq_getElem?_getD, List.getElem?_eq_getElem (by omega)]; rfl
      rw [e]; simp [getN]
    clear g1 g2 g3
    obtain ⟨A, c, rfl, hlc, hcm, -, hrd⟩ := id hv
    rw [Nat.mul_one] at hrd
    obtain ⟨gb, go, rfl, -, hrc⟩ := hrd.at_ (k := 0) (by omega)
    have x20 : w.cell? ⟨gb, go + 20, none⟩ = some (.int .u8 (kindN s : Nat)) := by
      rw [hkd]; exact hrc 20 _ (bv_at (by omega)).1
    have hgb := World.block_lt_of_cell? w _ x20
    have BY1 := Lib.hid (show longN s ≤ 472 → ∀ W, Keep (fun _ => False) w W → By W F (.slice (some ⟨gb, go + 24, none⟩) (longN s) (c - 24)) (valOf s).bd ∧ (valOf s).bd.length = longN s from fun h W hk => by
      have := (hv.keep hk (fun _ _ _ h => h)).piece (A' := some ⟨gb, go + 24, none⟩) (lo := 24) (m := longN s) (c' := c - 24) (by omega) (fun _ a ha => by injection ha with ha; subst ha; simp [Addr.add]) (by omega) (by unfold maxLen at *; omega) (fun h => by cases h)
      have e : (valOf s).bd = (s.drop 24).take (longN s) := by show pieceOf s 24 (min (longN s) 472) = _; rw [Nat.min_eq_left h]; rfl
      rw [e]
      exact ⟨this, by rw [List.length_take, List.length_drop]; omega⟩)
    have OKN := Lib.hid (show 472 < longN s → okS s = false from fun h => by
      rw [Bool.eq_false_iff]
      intro hk
      have h2 := (okS_iff.1 hk).2
      have h3 : longN (sealB (valOf s)) = (bodyOf (valOf s).bd).length := by unfold longN sealB; rw [seal_long, getN_leB, Nat.mod_eq_of_lt (by have := bodyOf_len (valOf s).bd; omega)]
      rw [h2] at h3
      have := bodyOf_len (valOf s).bd
      omega)
    have OKS := Lib.hid (show okS s = decide (sealB (valOf s) = s) by unfold okS; rw [decide_eq_true hl, Bool.true_and])
    have GT := Lib.hid (show gotS s = if okS s = true then valOf s else zeroS from rfl)
    have PA := Lib.hid (fun W u G (h : By W G u (valOf s).bd) => refPut_any (valOf s) u G W h)
    have SM := Lib.hid (fun W a G (ha : By W G a (sealB (valOf s))) (hk : Keep (fun _ => False) w W) => same_any (sealB (valOf s)) s a _ G F W ha (hv.keep hk (fun _ _ _ h => h)))
    have VV := Lib.hid (show (valOf s).ep = wordZ s 0 ∧ (valOf s).no = wordZ s 8 ∧ (valOf s).kd = kindN s from ⟨rfl, rfl, rfl⟩)
    rw [VV.out.1, VV.out.2.1, VV.out.2.2] at PA
    rw [← OKS.out] at SM
    have BIG := Lib.hid (show 472 < longN s → okS s = false ∧ gotS s = zeroS from fun h => ⟨OKN.out h, by rw [GT.out, OKN.out h]; rfl⟩)
    have HV := Lib.hid hv
    clear hkd hrc hrd hv OKN
    generalize hsl : s.length = n at *
    subst hl
    have HSL := Lib.hid hsl
    clear hsl
    generalize valOf s = x at *
    generalize wordZ s 0 = z0 at *
    generalize wordZ s 8 = z8 at *
    generalize kindN s = kk at *
    generalize longN s = ll at *
    generalize okS s = ok at *
    generalize gotS s = gs at *
    have hc512 : (512 : Int) ≤ (c : Int) := by omega
    by_cases hbig : 472 < ll
    · obtain ⟨e1, e2⟩ := BIG.out hbig
      subst e1 e2
      clear BIG GT OKS SM PA BY1
      go_enter Try.func40, Try.ntmps40
      go_wp2_with fail
      refine (G1.out _ (by exact (by repeat first | exact Keep.refl _ _ | refine Keep.alloc ?_ _ | refine Keep.drew ?_ | refine Keep.drewN ?_ _))).mono ?_
      rintro e w1 ⟨rfl, rfl⟩
      go_wp2_with fail
      refine (G2.out _ (by exact (by repeat first | exact Keep.refl _ _ | refine Keep.alloc ?_ _ | refine Keep.drew ?_ | refine Keep.drewN ?_ _))).mono ?_
      rintro e w1 ⟨rfl, rfl⟩
      go_wp2_with fail
      refine (G3.out _ (by exact (by repeat first | exact Keep.refl _ _ | refine Keep.alloc ?_ _ | refine Keep.drew ?_ | refine Keep.drewN ?_ _))).mono ?_
      rintro e w1 ⟨rfl, rfl⟩
      go_wp2
      exact bodyPost_ret (results_seal rfl _ _ w.heap.size _ _ _ _ rfl (heap_alloc_new w _) _ rfl) rfl ⟨none, 0, 0, rfl, By.nil _ _, by exact (by repeat first | exact Below.refl _ _ | refine Below.setCell ?_ (by first | omega | (simp; done) | (simp; omega)) _ | refine Below.alloc ?_ (by first | omega | (simp; done) | (simp; omega)) _ | refine Below.drew ?_ | refine below_drewN ?_ _ | assumption)⟩
    · have hll' : ll ≤ 472 := by omega
      have B1 := Lib.hid (BY1.out hll')
      have HLX := Lib.hid (show ([] : List UInt8).length + x.bd.length ≤ 140737488355328 by rw [(B1.out w (Keep.refl _ _)).2]; simp; omega)
      have f1 : IntKind.i64.wrap (24 + (ll : Int)) = 24 + (ll : Int) := IntWalk.i64_in _ (by omega)
      have f2 : (24 + (ll : Int)).toNat = 24 + ll := by omega
      have f3 : (24 : Int) ≤ 24 + (ll : Int) := by omega
      have f4 : 24 + (ll : Int) ≤ (c : Int) := by omega
      have f5 : (0 : Int) ≤ 24 + (ll : Int) := by omega
      have f6 : ¬ c = 24 := by omega
      have f7 : IntKind.i64.wrap (kk : Int) = (kk : Int) := IntWalk.i64_in _ (by omega)
      clear BIG BY1
      go_enter Try.func40, Try.ntmps40
      go_wp2_with fail
      refine (G1.out _ (by exact (by repeat first | exact Keep.refl _ _ | refine Keep.alloc ?_ _ | refine Keep.drew ?_ | refine Keep.drewN ?_ _))).mono ?_
      rintro e w1 ⟨rfl, rfl⟩
      go_wp2_with fail
      refine (G2.out _ (by exact (by repeat first | exact Keep.refl _ _ | refine Keep.alloc ?_ _ | refine Keep.drew ?_ | refine Keep.drewN ?_ _))).mono ?_
      rintro e w1 ⟨rfl, rfl⟩
      go_wp2_with fail
      refine (G3.out _ (by exact (by repeat first | exact Keep.refl _ _ | refine Keep.alloc ?_ _ | refine Keep.drew ?_ | refine Keep.drewN ?_ _))).mono ?_
      rintro e w1 ⟨rfl, rfl⟩
      go_upto_region 8 with fail
      obtain ⟨W, hW⟩ : ∃ W, W = w.alloc (.cells #[.int .i64 0, .int .i64 0, .int .i64 0, .slice none 0 0] 33) := ⟨_, rfl⟩
      have xW : W.cell? ⟨gb, go + 20, none⟩ = some (.int .u8 (kk : Nat)) := by rw [hW]; exact ((Keep.refl (fun _ => False) w).alloc _).cell (fun h => h) x20
      rw [← hW]
      have HW := Lib.hid hW
      clear hW x20
      go_cut [10] (fun s10 wx => ∃ q A' n' c', s10 = .pointer (some ⟨q, 0, none⟩) ∧ Hid (RGet w wx q z0 z8 kk (.slice A' n' c') x.bd))
      case first =>
        have CX := Lib.hid (show ∀ W', Keep (fun _ => False) W W' → W'.cell? ⟨gb, go + 20, none⟩ = some (.int .u8 (kk : Nat)) ∧ Keep (fun _ => False) W W' from fun W' hk => ⟨hk.cell (fun h => h) xW, hk⟩)
        have B2 := Lib.hid (fun W' (hk : Keep (fun _ => False) W W') => (B1.out W' ((HW.out ▸ (Keep.refl (fun _ => False) w).alloc _ : Keep (fun _ => False) w W).trans hk (fun _ _ h => h))).1)
        go_region_held3 (fun W' => W'.cell? ⟨gb, go + 20, none⟩ = some (.int .u8 (kk : Nat)) ∧ Keep (fun _ => False) W W') (exact CX.out _ (by exact (by repeat first | assumption | exact Keep.refl _ _ | refine Keep.alloc ?_ _ | refine Keep.drew ?_ | refine Keep.drewN ?_ _ | refine Keep.setCell ?_ (.inl (by first | omega | (simp; done) | (simp; omega))) _))) (first
          | (go_loud (refine step_app (by rfl) _ _ rfl _ _ [] (by rfl) (Ob.nil _ _ _) _ _ _ (by rfl) (B2.out _ (by exact (by repeat first | assumption | exact Keep.refl _ _ | refine Keep.alloc ?_ _ | refine Keep.drew ?_ | refine Keep.drewN ?_ _ | refine Keep.setCell ?_ (.inl (by first | omega | (simp; done) | (simp; omega))) _))) HLX.out (Nat.le_refl _) ?_); intro A5 n5 c5 w5 ho5 hk5; have hk5' : Keep (fun _ => False) W w5 := Keep.trans (by exact (by repeat first | assumption | exact Keep.refl _ _ | refine Keep.alloc ?_ _ | refine Keep.drew ?_ | refine Keep.drewN ?_ _ | refine Keep.setCell ?_ (.inl (by first | omega | (simp; done) | (simp; omega))) _)) (hk5.mono (T := fun _ => False) (fun k _ e => by simp [ownB] at e)) (fun _ _ h => h); have hsz5 := hk5'.size; have hk5z := hk5.mono (T := fun _ => False) (fun k _ e => by simp [ownB] at e); (first | (have hq : w5.heap[W.heap.size]? = some (Obj.cells #[.int .i64 0, .int .i64 0, .int .i64 0, .slice none 0 0] 33 (0, 0)) := ?_; rotate_left; (focus (refine (hk5z.block (W.heap.size) ?_ (fun h => h)).trans ?_; (focus first | (simp; done) | (simp; omega)); (focus (((try simp only [heap_drew']); (try simp only [World.heap_drewN]); repeat (first | (refine heap_alloc_at _ _ _ ?_; first | rfl | (simp; done)) | (refine (Below.heap_alloc _ _ _ ?_).trans ?_; (focus first | (simp; done) | (simp; omega))))); done)))); obtain ⟨y0, y1, y2, y3, yf⟩ := cells4 hq; have HQ := Lib.hid hq; clear hq) | skip); (first | (have hq : w5.heap[W.heap.size + 1]? = some (Obj.cells #[.int .i64 0, .int .i64 0, .int .i64 0, .slice none 0 0] 33 (0, 0)) := ?_; rotate_left; (focus (refine (hk5z.block (W.heap.size + 1) ?_ (fun h => h)).trans ?_; (focus first | (simp; done) | (simp; omega)); (focus (((try simp only [heap_drew']); (try simp only [World.heap_drewN]); repeat (first | (refine heap_alloc_at _ _ _ ?_; first | rfl | (simp; done)) | (refine (Below.heap_alloc _ _ _ ?_).trans ?_; (focus first | (simp; done) | (simp; omega))))); done)))); obtain ⟨y0, y1, y2, y3, yf⟩ := cells4 hq; have HQ := Lib.hid hq; clear hq) | skip); clear hk5z; have HO5 := Lib.hid (And.intro ho5.by_ hk5'); clear ho5 hk5)
          | fail)
        · go_wp2_with fail
          go_meet
          exact ⟨_, _, _, _, rfl, Lib.hid (RGet.mk_ HW.out (HO5.out.2.alloc _) (heap_alloc_new w5 _) hsz5 ((HO5.out.1.keep ((Keep.refl (fun _ => False) w5).alloc _) (fun _ _ _ h => h)).mono (fun b _ h => by simp at h; omega)))⟩
        all_goals
          go_wp2_with fail
          go_meet
          refine ⟨_, _, _, _, rfl, Lib.hid (RGet.mk_ HW.out ?_ (stored4 HQ.out _ _ _ _) (by omega) ((HO5.out.1.keep (keepS4 _ _ _ _ _ _) (fun b _ h e => by simp at h; omega)).mono (fun b _ h => by simp at h; omega)))⟩
          exact HO5.out.2.trans' (keepS4 _ _ _ _ _ _) (by omega)
      case rest =>
        obtain ⟨q, A', n', c', rfl, hst⟩ := hcut
        have H1 := Lib.hid hst.out
        obtain ⟨x0, x1, x2, x3, xf⟩ := cells4 H1.out.2.1
        have PA1 := Lib.hid (PA.out wc _ _ H1.out.2.2.2.1)
        clear hst f1 f2 f3 f4 f5 f6 f7 B1 HLX xW
        go_wp2_with fail
        refine PA1.out.mono ?_
        rintro e w7 ⟨A7, n7, c7, rfl, hy7, hb7⟩
        have H7 := Lib.hid (And.intro hy7 (And.intro hb7 ((Keep.of_below' H1.out.2.2.2.2).trans (Keep.of_below' hb7) (fun _ _ h => h))))
        have SM7 := Lib.hid (SM.out w7 _ _ hy7 H7.out.2.2)
        clear hy7 hb7 x0 x1 x2 x3 xf
        go_wp2_with fail
        refine SM7.out.mono ?_
        rintro e w8 ⟨rfl, rfl⟩
        obtain ⟨x0, x1, x2, x3, xf⟩ := cells4 ((H7.out.2.1.block q (Array.getElem?_eq_some_iff.1 H1.out.2.1).1).trans H1.out.2.1)
        have hr7 := (H7.out.2.1.block w.heap.size (Array.getElem?_eq_some_iff.1 H1.out.1).1).trans H1.out.1
        obtain ⟨r0, r1, r2, r3, rf⟩ := cells4 hr7
        have HR := Lib.hid hr7
        clear hr7
        cases ok
        · go_wp2
          refine bodyPost_ret (results_seal rfl _ _ w.heap.size _ _ _ _ rfl (stored4 HR.out _ _ _ _) _ rfl) rfl ?_
          rw [GT.out, if_neg (by simp)]
          exact ⟨none, 0, 0, rfl, By.nil _ _, (((Keep.of_below H1.out.2.2.2.2).trans (Keep.of_below' H7.out.2.1) (fun _ _ h => h.elim)).trans (keepS4 _ _ _ _ _ _) (fun x _ e => by omega)).to_below (Nat.le_refl _)⟩
        · go_wp2
          refine bodyPost_ret (results_seal rfl _ _ w.heap.size _ _ _ _ rfl (stored4 HR.out _ _ _ _) _ rfl) rfl ?_
          rw [GT.out, if_pos trivial]
          refine ⟨A', n', c', ?_, ((H1.out.2.2.2.1.below H7.out.2.1).keep (keepS4 _ _ _ _ _ _) (fun b _ h e => by omega)).mono (fun b _ h => by omega), (((Keep.of_below H1.out.2.2.2.2).trans (Keep.of_below' H7.out.2.1) (fun _ _ h => h.elim)).trans (keepS4 _ _ _ _ _ _) (fun x _ e => by omega)).to_below (Nat.le_refl _)⟩
          rw [VV.out.1, VV.out.2.1, VV.out.2.2]
          rfl
  · have e1 : okS s = false := by rw [Bool.eq_false_iff]; intro h; exact hl (okS_iff.1 h).1
    have e2 : gotS s = zeroS := by unfold gotS; rw [e1]; rfl
    have hl' : ((s.length : Int) != 512) = true := by simp; omega
    rw [e1, e2]
    obtain ⟨A, c, rfl, -⟩ := hv
    clear hl e1 e2
    generalize s.length = n at *
    go_enter Try.func40, Try.ntmps40
    go_wp2
    exact bodyPost_ret (results_seal rfl _ _ w.heap.size _ _ _ _ rfl (heap_alloc_new w _) _ rfl) rfl ⟨none, 0, 0, rfl, By.nil _ _, by exact (by repeat first | exact Below.refl _ _ | refine Below.setCell ?_ (by first | omega | (simp; done) | (simp; omega)) _ | refine Below.alloc ?_ (by first | omega | (simp; done) | (simp; omega)) _ | refine Below.drew ?_ | refine below_drewN ?_ _ | assumption)⟩
end Go.Proofs.Ytfjgbnnjfapcmaa

/- Contracts of cmd.reader's num and must; what they do to the reader's state. -/
import Derived.Test.YthkgchlndfcmpaaCmdR
import Derived.Test.YthkgchlndfcmpaaRdr
namespace Go.Proofs.Ythkgchlndfcmpaa
open Go.RowKit
set_option maxRecDepth 100000
set_option linter.unusedVariables false

/-- The reader's state: its place, whether something was not there, the first error. -/
structure RS where
  k : Nat
  bad : Bool
  e : Int
def numS (l : List UInt8) (s : RS) (width : Int) : Int × RS := ((numR l s.k s.bad width).1, ⟨(numR l s.k s.bad width).2.1, (numR l s.k s.bad width).2.2, if (numR l s.k s.bad width).2.2 = true ∧ s.e = 0 then 12 else s.e⟩)
def mustS (s : RS) (is : Bool) (e : Int) : RS := if is = false ∧ s.e = 0 then ⟨s.k, s.bad, e⟩ else s
/-- The command's reader in block P, le's in block rp. -/
def CRd (W : World) (P rp : Nat) (F : Nat → Prop) (l : List UInt8) (s : RS) : Prop :=
  W.heap[P]? = some (.cells #[.pointer (some ⟨rp, 0, none⟩), .int .i64 s.e] 161 (0, 0)) ∧ Rdr W rp F l s.k s.bad ∧ P ≠ rp ∧ ¬ F P
/-- What a call of it leaves. -/
def CTo (W : World) (P rp : Nat) (F : Nat → Prop) (l : List UInt8) (s : RS) (W' : World) : Prop := CRd W' P rp F l s ∧ Keep (fun b => b = P ∨ b = rp) W W'
section
variable {W W' : World} {P rp : Nat} {F : Nat → Prop} {l : List UInt8} {s : RS}
theorem CRd.step (h : CRd W P rp F l s) {k : Nat} {bad : Bool} (hr : RTo W rp F l k bad W') : CTo W P rp F l ⟨k, bad, s.e⟩ W' :=
  ⟨⟨(hr.2.block P (Array.getElem?_eq_some_iff.1 h.1).1 h.2.2.1).trans h.1, hr.1, h.2.2.1, h.2.2.2⟩, hr.2.mono (fun _ _ e => .inr e)⟩
theorem CRd.err (h : CRd W P rp F l s) (e : Int) : CTo W P rp F l ⟨s.k, s.bad, e⟩ (W.setCell ⟨P, 1, none⟩ (.int .i64 e)) := by
  have hk : Keep (fun b => b = P) W (W.setCell ⟨P, 1, none⟩ (.int .i64 e)) := Keep.setCell (S := fun b => b = P) (p := ⟨P, 1, none⟩) (Keep.refl _ W) (.inr rfl) _
  refine ⟨⟨by rw [heap_setCell_same W P 1 _ _ _ h.1]; rfl, rdr_keep h.2.1 hk (fun e => h.2.2.1 e.symm) (fun b _ hF e => h.2.2.2 (by rw [← e]; exact hF)), h.2.2.1, h.2.2.2⟩, hk.mono (fun _ _ e => .inl e)⟩
theorem CTo.refl (h : CRd W P rp F l s) : CTo W P rp F l s W := ⟨h, Keep.refl _ _⟩
theorem CTo.trans {W2 : World} {s2 : RS} (h : CTo W P rp F l s W') (k : CTo W' P rp F l s2 W2) : CTo W P rp F l s2 W2 := ⟨k.1, h.2.trans k.2 (fun _ _ h => h)⟩
end
/-- What num leaves. -/
def CNum (W : World) (P rp : Nat) (F : Nat → Prop) (l : List UInt8) (q : Int × RS) (e : Ending) (w' : World) : Prop := e = .returned (.int .i64 q.1) ∧ CTo W P rp F l q.2 w'
set_option maxHeartbeats 2000000 in
theorem cnum_any {W : World} {P rp : Nat} {F : Nat → Prop} {l : List UInt8} {s : RS} (h : CRd W P rp F l s) (width : Int) :
    Calls Try.prog 130 #[.pointer (some ⟨P, 0, none⟩), .int .i64 width] W (CNum W P rp F l (numS l s width)) := by
  have R := Lib.hid (rnum_any h.2.1 width)
  have H := Lib.hid h
  have NS := Lib.hid (show numS l s width = ((numR l s.k s.bad width).1, ⟨(numR l s.k s.bad width).2.1, (numR l s.k s.bad width).2.2, if (numR l s.k s.bad width).2.2 = true ∧ s.e = 0 then 12 else s.e⟩) from rfl)
  generalize numR l s.k s.bad width = a at *
  generalize numS l s width = q at *
  obtain ⟨z, k, bad⟩ := a
  obtain ⟨x0, x1, xf⟩ := cells2 h.1
  clear h
  go_enter Try.func130, Try.ntmps130
  go_wp2_with fail
  refine R.out.mono ?_
  rintro e w1 ⟨rfl, hr⟩
  have C := Lib.hid (H.out.step hr)
  have OK := Lib.hid (rok_any hr.1)
  clear hr x0 x1 xf
  obtain ⟨x0, x1, xf⟩ := cells2 C.out.1.1
  cases bad
  · go_wp2_with fail
    refine OK.out.mono ?_
    rintro e w2 ⟨rfl, rfl⟩
    go_wp2
    go_ret
    rw [NS.out]
    exact ⟨rfl, by rw [if_neg (by simp)]; exact C.out⟩
  · by_cases he : s.e = 0
    · have e1 : (s.e == 0) = true := by rw [beq_iff_eq]; exact he
      have ER := Lib.hid (C.out.trans (C.out.1.err 12))
      have IF := Lib.hid he
      clear he
      go_wp2_with fail
      refine OK.out.mono ?_
      rintro e w2 ⟨rfl, rfl⟩
      go_wp2
      go_ret
      rw [NS.out]
      exact ⟨rfl, by rw [if_pos ⟨by first | rfl | trivial, IF.out⟩]; exact ER.out⟩
    · have e1 : (s.e == 0) = false := by rw [beq_eq_false_iff_ne]; exact he
      have IF := Lib.hid he
      clear he
      go_wp2_with fail
      refine OK.out.mono ?_
      rintro e w2 ⟨rfl, rfl⟩
      go_wp2
      go_ret
      rw [NS.out]
      exact ⟨rfl, by rw [if_neg (fun h => IF.out h.2)]; exact C.out⟩
set_option maxHeartbeats 2000000 in
theorem cmust_any {W : World} {P rp : Nat} {F : Nat → Prop} {l : List UInt8} {s : RS} (h : CRd W P rp F l s) (is : Bool) (z : Int) :
    Calls Try.prog 131 #[.pointer (some ⟨P, 0, none⟩), .bool is, .int .i64 z] W fun e w' => e = .returned (.tuple #[]) ∧ CTo W P rp F l (mustS s is z) w' := by
  obtain ⟨x0, x1, xf⟩ := cells2 h.1
  have ER := Lib.hid (h.err z)
  have SA := Lib.hid (CTo.refl h)
  clear h
  cases is
  · by_cases he : s.e = 0
    · have e1 : (s.e == 0) = true := by rw [beq_iff_eq]; exact he
      have IF := Lib.hid (show mustS s false z = ⟨s.k, s.bad, z⟩ by unfold mustS; rw [if_pos ⟨rfl, he⟩])
      clear he
      rw [IF.out]
      go_enter Try.func131, Try.ntmps131
      go_wp2
      go_end0
      exact ⟨rfl, ER.out⟩
    · have e1 : (s.e == 0) = false := by rw [beq_eq_false_iff_ne]; exact he
      have IF := Lib.hid (show mustS s false z = s by unfold mustS; rw [if_neg (fun h => he h.2)])
      clear he
      rw [IF.out]
      go_enter Try.func131, Try.ntmps131
      go_wp2
      go_end0
      exact ⟨rfl, SA.out⟩
  · have IF := Lib.hid (show mustS s true z = s by unfold mustS; rw [if_neg (by simp)])
    rw [IF.out]
    go_enter Try.func131, Try.ntmps131
    go_wp2
    go_end0
    exact ⟨rfl, SA.out⟩
end Go.Proofs.Ythkgchlndfcmpaa
namespace Go.Proofs.Ythkgchlndfcmpaa
open Go.RowKit
set_option maxRecDepth 100000
set_option linter.unusedVariables false

def tgtS (l : List UInt8) (s : RS) (loc : Bool) : (Int × Int) × RS :=
  if loc = true then (((numS l s 8).1, 0), (numS l s 8).2) else (((numS l s 8).1, (numS l (numS l s 8).2 8).1), (numS l (numS l s 8).2 8).2)
def cmpS (l : List UInt8) (s : RS) (d : Int) : Int × RS := if d = 1 then (0, s) else numS l s 8
def lenS (l : List UInt8) (s : RS) : Int × RS := ((numS l s 2).1, mustS (numS l s 2).2 (decide ((numS l s 2).1 ≤ 64)) 13)
def datS (l : List UInt8) (s : RS) (d : Int) : List UInt8 × RS :=
  if d = 2 then ((bytesR l (lenS l s).2.k (lenS l s).2.bad (lenS l s).1).1, mustS ⟨(bytesR l (lenS l s).2.k (lenS l s).2.bad (lenS l s).1).2.1, (bytesR l (lenS l s).2.k (lenS l s).2.bad (lenS l s).1).2.2, (lenS l s).2.e⟩ (!(bytesR l (lenS l s).2.k (lenS l s).2.bad (lenS l s).1).2.2) 12) else ([], s)
def doS (l : List UInt8) (s : RS) : Int × RS := ((numS l s 1).1, mustS (numS l s 1).2 (knownC (numS l s 1).1) 11)
def locS (l : List UInt8) (s : RS) : Bool × RS := (decide ((numS l s 1).1 = 1), mustS (numS l s 1).2 (decide ((numS l s 1).1 ≤ 1)) 11)
def restS (l : List UInt8) (s : RS) (d : Int) : Cmd × RS :=
  (⟨d, (locS l s).1, (tgtS l (locS l s).2 (locS l s).1).1.1, (tgtS l (locS l s).2 (locS l s).1).1.2, (cmpS l (tgtS l (locS l s).2 (locS l s).1).2 d).1, (datS l (cmpS l (tgtS l (locS l s).2 (locS l s).1).2 d).2 d).1⟩,
    (datS l (cmpS l (tgtS l (locS l s).2 (locS l s).1).2 d).2 d).2)
def cmdS (l : List UInt8) (s : RS) : Cmd × RS := if (doS l s).2.e ≠ 0 ∨ (doS l s).1 = 0 then (⟨(doS l s).1, false, 0, 0, 0, []⟩, (doS l s).2) else restS l (doS l s).2 (doS l s).1
theorem numR2_bd (l : List UInt8) (k : Nat) (bad : Bool) : 0 ≤ (numR l k bad 2).1 ∧ (numR l k bad 2).1 ≤ 65535 := by
  unfold numR
  split
  · exact ⟨Int.le_refl _, by show (0 : Int) ≤ 65535; decide⟩
  · split
    · rename_i h
      unfold getZ
      rw [if_pos h]
      have h1 := getN_lt (pieceOf l (k : Int).toNat (wideN 2))
      have h2 : (pieceOf l (k : Int).toNat (wideN 2)).length ≤ 2 := List.length_take_le _ _
      have h3 : 256 ^ (pieceOf l (k : Int).toNat (wideN 2)).length ≤ 256 ^ 2 := Nat.pow_le_pow_right (by decide) h2
      have h4 : getN (pieceOf l (k : Int).toNat (wideN 2)) < 65536 := by omega
      show 0 ≤ wrap64 (getN (pieceOf l (k : Int).toNat (wideN 2)) : Nat) ∧ wrap64 (getN (pieceOf l (k : Int).toNat (wideN 2)) : Nat) ≤ 65535
      generalize getN (pieceOf l (k : Int).toNat (wideN 2)) = x at *
      rw [show wrap64 (x : Int) = x by unfold wrap64; omega]
      omega
    · exact ⟨Int.le_refl _, by show (0 : Int) ≤ 65535; decide⟩
theorem mustS_e {s : RS} {is : Bool} {z : Int} (hz : z ≠ 0) (h : (mustS s is z).e = 0) : is = true ∧ mustS s is z = s := by
  unfold mustS at h ⊢
  split at h
  · exact absurd h hz
  · rename_i hn
    rw [if_neg hn]
    refine ⟨?_, rfl⟩
    cases is
    · exact absurd ⟨rfl, h⟩ hn
    · rfl
theorem rdr_mono2 {w : World} {p : Nat} {F G : Nat → Prop} {l : List UInt8} {k : Nat} {bad : Bool} (h : Rdr w p F l k bad) (hf : ∀ b, b < w.heap.size → F b → G b) (hp : ¬ G p) : Rdr w p G l k bad := by
  obtain ⟨vs, h1, h2, h3, h4⟩ := h
  exact ⟨vs, h1, h2.mono hf, hp, h4⟩
theorem rdr_mono' {w : World} {p : Nat} {F G : Nat → Prop} {l : List UInt8} {k : Nat} {bad : Bool} (h : Rdr w p F l k bad) (hf : ∀ b, F b → G b) (hp : ¬ G p) : Rdr w p G l k bad := by
  obtain ⟨vs, h1, h2, h3, h4⟩ := h
  exact ⟨vs, h1, h2.mono (fun b _ h => hf b h), hp, h4⟩
/-- Where it stands: the command's box q, the result in W's next block. -/
def CSt (W Wi : World) (P rp : Nat) (F : Nat → Prop) (l : List UInt8) (s : RS) (q : Nat) (y : Cmd) (u : Value) : Prop :=
  CRd Wi P rp F l s ∧ Wi.heap[q]? = some (.cells #[.int .i64 y.do_, .bool y.loc, .int .i64 y.idx, .int .i64 y.gen, .int .i64 y.comp, u] 39 (0, 0)) ∧
    Wi.heap[W.heap.size]? = some (.cells #[.int .i64 0, .bool false, .int .i64 0, .int .i64 0, .int .i64 0, .slice none 0 0] 39 (0, 0)) ∧ ((W.heap.size < q ∧ P < W.heap.size ∧ rp < W.heap.size) ∧ ∀ b, F b → b < W.heap.size) ∧ Keep (fun b => b = P ∨ b = rp) W Wi
section
variable {W Wi Wj : World} {P rp : Nat} {F : Nat → Prop} {l : List UInt8} {s s' : RS} {q : Nat} {y : Cmd} {u : Value}
theorem CSt.num (h : CSt W Wi P rp F l s q y u) (k : CTo Wi P rp F l s' Wj) : CSt W Wj P rp F l s' q y u := by
  obtain ⟨h1, h2, h3, h4, h5⟩ := h
  exact ⟨k.1, (k.2.block q (Array.getElem?_eq_some_iff.1 h2).1 (by omega)).trans h2, (k.2.block _ (Array.getElem?_eq_some_iff.1 h3).1 (by omega)).trans h3, h4, h5.trans k.2 (fun _ _ h => h)⟩
theorem CSt.set (h : CSt W Wi P rp F l s q y u) (i : Nat) (v : Value) {y' : Cmd} {u' : Value}
    (he : (#[.int .i64 y.do_, .bool y.loc, .int .i64 y.idx, .int .i64 y.gen, .int .i64 y.comp, u] : Array Value).setIfInBounds i v = #[.int .i64 y'.do_, .bool y'.loc, .int .i64 y'.idx, .int .i64 y'.gen, .int .i64 y'.comp, u']) : CSt W (Wi.setCell ⟨q, i, none⟩ v) P rp F l s q y' u' := by
  obtain ⟨h1, h2, h3, h4, h5⟩ := h
  have hk : Keep (fun b => b = q) Wi (Wi.setCell ⟨q, i, none⟩ v) := Keep.setCell (S := fun b => b = q) (p := ⟨q, i, none⟩) (Keep.refl _ Wi) (.inr rfl) _
  refine ⟨⟨(hk.block P (Array.getElem?_eq_some_iff.1 h1.1).1 (by omega)).trans h1.1, rdr_keep h1.2.1 hk (by omega) (fun b _ hF e => by have := h4.2 b hF; omega), h1.2.2.1, h1.2.2.2⟩, by rw [heap_setCell_same Wi q i _ _ v h2, he], (hk.block _ (Array.getElem?_eq_some_iff.1 h3).1 (by omega)).trans h3, h4, h5.trans hk (fun b hb e => by omega)⟩
theorem CSt.cells (h : CSt W Wi P rp F l s q y u) : Wi.cell? ⟨q, 0, none⟩ = some (.int .i64 y.do_) ∧ Wi.cell? ⟨q, 1, none⟩ = some (.bool y.loc) ∧ Wi.cell? ⟨q, 2, none⟩ = some (.int .i64 y.idx) ∧ Wi.cell? ⟨q, 3, none⟩ = some (.int .i64 y.gen) ∧ Wi.cell? ⟨q, 4, none⟩ = some (.int .i64 y.comp) ∧ Wi.cell? ⟨q, 5, none⟩ = some u ∧ ∀ i, Wi.frozen? ⟨q, i, none⟩ = false := cells6 h.2.1
end
theorem under_cmd : Try.prog.underlying 39 = some (.struct (Try.prog.fieldsOf 39)) := by kernel_rfl
theorem size_cmd : (Try.prog.info? 39).map (·.size) = some 6 := by kernel_rfl
/-- What it leaves. -/
def CCmd (W : World) (P rp : Nat) (F : Nat → Prop) (l : List UInt8) (r : Cmd × RS) (e : Ending) (w' : World) : Prop :=
  ∃ A n c, e = .returned (cmdV r.1 (.slice A n c)) ∧ By w' (fun b => W.heap.size ≤ b) (.slice A n c) r.1.l ∧ CTo W P rp F l r.2 w'
/-- Behind the last store: the box is handed back. -/
theorem CSt.done {W Wi : World} {P rp : Nat} {F G : Nat → Prop} {l : List UInt8} {s : RS} {q : Nat} {y : Cmd} {A : Option Addr} {n c : Nat} (h : CSt W Wi P rp F l s q y (.slice A n c)) (hy : By Wi (fun b => W.heap.size < b) (.slice A n c) y.l) (hF : ∀ b, F b → G b) (hG : ¬ G P ∧ ¬ G rp) {wf : World}
    (hwf : wf = (((((Wi.setCell ⟨W.heap.size, 0, none⟩ (.int .i64 y.do_)).setCell ⟨W.heap.size, 1, none⟩ (.bool y.loc)).setCell ⟨W.heap.size, 2, none⟩ (.int .i64 y.idx)).setCell ⟨W.heap.size, 3, none⟩ (.int .i64 y.gen)).setCell ⟨W.heap.size, 4, none⟩ (.int .i64 y.comp)).setCell ⟨W.heap.size, 5, none⟩ (.slice A n c)) :
    wf.heap[W.heap.size]? = some (.cells #[.int .i64 y.do_, .bool y.loc, .int .i64 y.idx, .int .i64 y.gen, .int .i64 y.comp, .slice A n c] 39 (0, 0)) ∧ By wf (fun b => W.heap.size ≤ b) (.slice A n c) y.l ∧ CTo W P rp G l s wf := by
  obtain ⟨h1, h2, h3, h4, h5⟩ := h
  subst hwf
  have hk := keepS6 Wi W.heap.size (.int .i64 y.do_) (.bool y.loc) (.int .i64 y.idx) (.int .i64 y.gen) (.int .i64 y.comp) (.slice A n c)
  exact ⟨stored6 h3 _ _ _ _ _ _, (hy.keep hk (fun b _ h e => by omega)).mono (fun b _ h => by omega),
    ⟨⟨(hk.block P (Array.getElem?_eq_some_iff.1 h1.1).1 (by omega)).trans h1.1, rdr_mono' (rdr_keep h1.2.1 hk (by omega) (fun b _ hF e => by have := h4.2 b hF; omega)) hF hG.2, h1.2.2.1, hG.1⟩, h5.trans hk (fun b hb e => by omega)⟩⟩
end Go.Proofs.Ythkgchlndfcmpaa

/- Contracts of cmd.reader's num and must; what they do to the reader's state. -/
import Derived.Test.YtfjgbnnjfapcmaaCmdP
import Derived.Test.YtfjgbnnjfapcmaaRdr
import Derived.Laws.ResultCell
import Derived.OwnWalk
import Derived.Deep.DeepCutAuto
import Derived.RegionTactic
namespace Go.Proofs.Ytfjgbnnjfapcmaa
open Go.RowKit
set_option maxRecDepth 100000
set_option linter.unusedVariables false

/-- The reader's state: its place, whether something was not there, the first error. -/
structure RS where
  k : Nat
  bad : Bool
  e : Int
def numS (l : List UInt8) (s : RS) (width : Int) : Int × RS := ((numR l s.k s.bad width).1, ⟨(numR l s.k s.bad width).2.1, (numR l s.k s.bad width).2.2, if (numR l s.k s.bad width).2.2 = true ∧ s.e = 0 then 12 else s.e⟩)
def mustS (s : RS) (is : Bool) (e : Int) : RS := if is = false ∧ s.e = 0 then ⟨s.k, s.bad, e⟩ else s
/-- The command's reader in block P, le's in block rp. -/
def CRd (W : World) (P rp : Nat) (F : Nat → Prop) (l : List UInt8) (s : RS) : Prop :=
  W.heap[P]? = some (.cells #[.pointer (some ⟨rp, 0, none⟩), .int .i64 s.e] 132 (0, 0)) ∧ Rdr W rp F l s.k s.bad ∧ P ≠ rp ∧ ¬ F P
/-- What a call of it leaves. -/
def CTo (W : World) (P rp : Nat) (F : Nat → Prop) (l : List UInt8) (s : RS) (W' : World) : Prop := CRd W' P rp F l s ∧ Keep (fun b => b = P ∨ b = rp) W W'
section
variable {W W' : World} {P rp : Nat} {F : Nat → Prop} {l : List UInt8} {s : RS}
theorem CRd.step (h : CRd W P rp F l s) {k : Nat} {bad : Bool} (hr : RTo W rp F l k bad W') : CTo W P rp F l ⟨k, bad, s.e⟩ W' :=
  ⟨⟨(hr.2.block P (Array.getElem?_eq_some_iff.1 h.1).1 h.2.2.1).trans h.1, hr.1, h.2.2.1, h.2.2.2⟩, hr.2.mono (fun _ _ e => .inr e)⟩
theorem CRd.err (h : CRd W P rp F l s) (e : Int) : CTo W P rp F l ⟨s.k, s.bad, e⟩ (W.setCell ⟨P, 1, none⟩ (.int .i64 e)) := by
  have hk : Keep (fun b => b = P) W (W.setCell ⟨P, 1, none⟩ (.int .i64 e)) := Keep.setCell (S := fun b => b = P) (p := ⟨P, 1, none⟩) (Keep.refl _ W) (.inr rfl) _
  refine ⟨⟨by rw [heap_setCell_same W P 1 _ _ _ h.1]; rfl, rdr_keep h.2.1 hk (fun e => h.2.2.1 e.symm) (fun b _ hF e => h.2.2.2 (by rw [← e]; exact hF)), h.2.2.1, h.2.2.2⟩, hk.mono (fun _ _ e => .inl e)⟩
theorem CTo.refl (h : CRd W P rp F l s) : CTo W P rp F l s W := ⟨h, Keep.refl _ _⟩
theorem CTo.trans {W2 : World} {s2 : RS} (h : CTo W P rp F l s W') (k : CTo W' P rp F l s2 W2) : CTo W P rp F l s2 W2 := ⟨k.1, h.2.trans k.2 (fun _ _ h => h)⟩
end
/-- What num leaves. -/
def CNum (W : World) (P rp : Nat) (F : Nat → Prop) (l : List UInt8) (q : Int × RS) (e : Ending) (w' : World) : Prop := e = .returned (.int .i64 q.1) ∧ CTo W P rp F l q.2 w'
set_option maxHeartbeats 2000000 in
theorem cnum_any {W : World} {P rp : Nat} {F : Nat → Prop} {l : List UInt8} {s : RS} (h : CRd W P rp F l s) (width : Int) :
    Calls Try.prog 91 #[.pointer (some ⟨P, 0, none⟩), .int .i64 width] W (CNum W P rp F l (numS l s width)) := by
  have R := Lib.hid (rnum_any h.2.1 width)
  have H := Lib.hid h
  have NS := Lib.hid (show numS l s width = ((numR l s.k s.bad width).1, ⟨(numR l s.k s.bad width).2.1, (numR l s.k s.bad width).2.2, if (numR l s.k s.bad width).2.2 = true ∧ s.e = 0 then 12 else s.e⟩) from rfl)
  generalize numR l s.k s.bad width = a at *
  generalize numS l s width = q at *
  obtain ⟨z, k, bad⟩ := a
  obtain ⟨x0, x1, xf⟩ := cells2 h.1
  clear h
  go_enter Try.func91, Try.ntmps91
  go_wp2_with fail
  refine R.out.mono ?_
  rintro e w1 ⟨rfl, hr⟩
  have C := Lib.hid (H.out.step hr)
  have OK := Lib.hid (rok_any hr.1)
  clear hr x0 x1 xf
  obtain ⟨x0, x1, xf⟩ := cells2 C.out.1.1
  cases bad
  · go_wp2_with fail
    refine OK.out.mono ?_
    rintro e w2 ⟨rfl, rfl⟩
    go_wp2
    go_ret
    rw [NS.out]
    exact ⟨rfl, by rw [if_neg (by simp)]; exact C.out⟩
  · by_cases he : s.e = 0
    · have e1 : (s.e == 0) = true := by rw [beq_iff_eq]; exact he
      have ER := Lib.hid (C.out.trans (C.out.1.err 12))
      have IF := Lib.hid he
      clear he
      go_wp2_with fail
      refine OK.out.mono ?_
      rintro e w2 ⟨rfl, rfl⟩
      go_wp2
      go_ret
      rw [NS.out]
      exact ⟨rfl, by rw [if_pos ⟨by first | rfl | trivial, IF.out⟩]; exact ER.out⟩
    · have e1 : (s.e == 0) = false := by rw [beq_eq_false_iff_ne]; exact he
      have IF := Lib.hid he
      clear he
      go_wp2_with fail
      refine OK.out.mono ?_
      rintro e w2 ⟨rfl, rfl⟩
      go_wp2
      go_ret
      rw [NS.out]
      exact ⟨rfl, by rw [if_neg (fun h => IF.out h.2)]; exact C.out⟩
set_option maxHeartbeats 2000000 in
theorem cmust_any {W : World} {P rp : Nat} {F : Nat → Prop} {l : List UInt8} {s : RS} (h : CRd W P rp F l s) (is : Bool) (z : Int) :
    Calls Try.prog 92 #[.pointer (some ⟨P, 0, none⟩), .bool is, .int .i64 z] W fun e w' => e = .returned (.tuple #[]) ∧ CTo W P rp F l (mustS s is z) w' := by
  obtain ⟨x0, x1, xf⟩ := cells2 h.1
  have ER := Lib.hid (h.err z)
  have SA := Lib.hid (CTo.refl h)
  clear h
  cases is
  · by_cases he : s.e = 0
    · have e1 : (s.e == 0) = true := by rw [beq_iff_eq]; exact he
      have IF := Lib.hid (show mustS s false z = ⟨s.k, s.bad, z⟩ by unfold mustS; rw [if_pos ⟨rfl, he⟩])
      clear he
      rw [IF.out]
      go_enter Try.func92, Try.ntmps92
      go_wp2
      go_end0
      exact ⟨rfl, ER.out⟩
    · have e1 : (s.e == 0) = false := by rw [beq_eq_false_iff_ne]; exact he
      have IF := Lib.hid (show mustS s false z = s by unfold mustS; rw [if_neg (fun h => he h.2)])
      clear he
      rw [IF.out]
      go_enter Try.func92, Try.ntmps92
      go_wp2
      go_end0
      exact ⟨rfl, SA.out⟩
  · have IF := Lib.hid (show mustS s true z = s by unfold mustS; rw [if_neg (by simp)])
    rw [IF.out]
    go_enter Try.func92, Try.ntmps92
    go_wp2
    go_end0
    exact ⟨rfl, SA.out⟩
end Go.Proofs.Ytfjgbnnjfapcmaa
namespace Go.Proofs.Ytfjgbnnjfapcmaa
open Go.RowKit
set_option maxRecDepth 100000
set_option linter.unusedVariables false

def tgtS (l : List UInt8) (s : RS) (loc : Bool) : (Int × Int) × RS :=
  if loc = true then (((numS l s 8).1, 0), (numS l s 8).2) else (((numS l s 8).1, (numS l (numS l s 8).2 8).1), (numS l (numS l s 8).2 8).2)
def cmpS (l : List UInt8) (s : RS) (d : Int) : Int × RS := if d = 1 then (0, s) else numS l s 8
def lenS (l : List UInt8) (s : RS) : Int × RS := ((numS l s 2).1, mustS (numS l s 2).2 (decide ((numS l s 2).1 ≤ 64)) 13)
def datS (l : List UInt8) (s : RS) (d : Int) : List UInt8 × RS :=
  if d = 2 then ((bytesR l (lenS l s).2.k (lenS l s).2.bad (lenS l s).1).1, mustS ⟨(bytesR l (lenS l s).2.k (lenS l s).2.bad (lenS l s).1).2.1, (bytesR l (lenS l s).2.k (lenS l s).2.bad (lenS l s).1).2.2, (lenS l s).2.e⟩ (!(bytesR l (lenS l s).2.k (lenS l s).2.bad (lenS l s).1).2.2) 12) else ([], s)
def doS (l : List UInt8) (s : RS) : Int × RS := ((numS l s 1).1, mustS (numS l s 1).2 (knownC (numS l s 1).1) 11)
def locS (l : List UInt8) (s : RS) : Bool × RS := (decide ((numS l s 1).1 = 1), mustS (numS l s 1).2 (decide ((numS l s 1).1 ≤ 1)) 11)
def restS (l : List UInt8) (s : RS) (d : Int) : Cmd × RS :=
  (⟨d, (locS l s).1, (tgtS l (locS l s).2 (locS l s).1).1.1, (tgtS l (locS l s).2 (locS l s).1).1.2, (cmpS l (tgtS l (locS l s).2 (locS l s).1).2 d).1, (datS l (cmpS l (tgtS l (locS l s).2 (locS l s).1).2 d).2 d).1⟩,
    (datS l (cmpS l (tgtS l (locS l s).2 (locS l s).1).2 d).2 d).2)
def cmdS (l : List UInt8) (s : RS) : Cmd × RS := if (doS l s).2.e ≠ 0 ∨ (doS l s).1 = 0 then (⟨(doS l s).1, false, 0, 0, 0, []⟩, (doS l s).2) else restS l (doS l s).2 (doS l s).1
theorem numR2_bd (l : List UInt8) (k : Nat) (bad : Bool) : 0 ≤ (numR l k bad 2).1 ∧ (numR l k bad 2).1 ≤ 65535 := by
  unfold numR
  split
  · exact ⟨Int.le_refl _, by show (0 : Int) ≤ 65535; decide⟩
  · split
    · rename_i h
      unfold getZ
      rw [if_pos h]
      have h1 := getN_lt (pieceOf l (k : Int).toNat (wideN 2))
      have h2 : (pieceOf l (k : Int).toNat (wideN 2)).length ≤ 2 := List.length_take_le _ _
      have h3 : 256 ^ (pieceOf l (k : Int).toNat (wideN 2)).length ≤ 256 ^ 2 := Nat.pow_le_pow_right (by decide) h2
      have h4 : getN (pieceOf l (k : Int).toNat (wideN 2)) < 65536 := by omega
      show 0 ≤ wrap64 (getN (pieceOf l (k : Int).toNat (wideN 2)) : Nat) ∧ wrap64 (getN (pieceOf l (k : Int).toNat (wideN 2)) : Nat) ≤ 65535
      generalize getN (pieceOf l (k : Int).toNat (wideN 2)) = x at *
      rw [show wrap64 (x : Int) = x by unfold wrap64; omega]
      omega
    · exact ⟨Int.le_refl _, by show (0 : Int) ≤ 65535; decide⟩
theorem mustS_e {s : RS} {is : Bool} {z : Int} (hz : z ≠ 0) (h : (mustS s is z).e = 0) : is = true ∧ mustS s is z = s := by
  unfold mustS at h ⊢
  split at h
  · exact absurd h hz
  · rename_i hn
    rw [if_neg hn]
    refine ⟨?_, rfl⟩
    cases is
    · exact absurd ⟨rfl, h⟩ hn
    · rfl
theorem rdr_mono2 {w : World} {p : Nat} {F G : Nat → Prop} {l : List UInt8} {k : Nat} {bad : Bool} (h : Rdr w p F l k bad) (hf : ∀ b, b < w.heap.size → F b → G b) (hp : ¬ G p) : Rdr w p G l k bad := by
  obtain ⟨vs, h1, h2, h3, h4⟩ := h
  exact ⟨vs, h1, h2.mono hf, hp, h4⟩
theorem rdr_mono' {w : World} {p : Nat} {F G : Nat → Prop} {l : List UInt8} {k : Nat} {bad : Bool} (h : Rdr w p F l k bad) (hf : ∀ b, F b → G b) (hp : ¬ G p) : Rdr w p G l k bad := by
  obtain ⟨vs, h1, h2, h3, h4⟩ := h
  exact ⟨vs, h1, h2.mono (fun b _ h => hf b h), hp, h4⟩
/-- Where it stands: the command's box q, the result in W's next block. -/
def CSt (W Wi : World) (P rp : Nat) (F : Nat → Prop) (l : List UInt8) (s : RS) (q : Nat) (y : Cmd) (u : Value) : Prop :=
  CRd Wi P rp F l s ∧ Wi.heap[q]? = some (.cells #[.int .i64 y.do_, .bool y.loc, .int .i64 y.idx, .int .i64 y.gen, .int .i64 y.comp, u] 83 (0, 0)) ∧
    Wi.heap[W.heap.size]? = some (.cells #[.int .i64 0, .bool false, .int .i64 0, .int .i64 0, .int .i64 0, .slice none 0 0] 83 (0, 0)) ∧ ((W.heap.size < q ∧ P < W.heap.size ∧ rp < W.heap.size) ∧ ∀ b, F b → b < W.heap.size) ∧ Keep (fun b => b = P ∨ b = rp) W Wi
section
variable {W Wi Wj : World} {P rp : Nat} {F : Nat → Prop} {l : List UInt8} {s s' : RS} {q : Nat} {y : Cmd} {u : Value}
theorem CSt.num (h : CSt W Wi P rp F l s q y u) (k : CTo Wi P rp F l s' Wj) : CSt W Wj P rp F l s' q y u := by
  obtain ⟨h1, h2, h3, h4, h5⟩ := h
  exact ⟨k.1, (k.2.block q (Array.getElem?_eq_some_iff.1 h2).1 (by omega)).trans h2, (k.2.block _ (Array.getElem?_eq_some_iff.1 h3).1 (by omega)).trans h3, h4, h5.trans k.2 (fun _ _ h => h)⟩
theorem CSt.set (h : CSt W Wi P rp F l s q y u) (i : Nat) (v : Value) {y' : Cmd} {u' : Value}
    (he : (#[.int .i64 y.do_, .bool y.loc, .int .i64 y.idx, .int .i64 y.gen, .int .i64 y.comp, u] : Array Value).setIfInBounds i v = #[.int .i64 y'.do_, .bool y'.loc, .int .i64 y'.idx, .int .i64 y'.gen, .int .i64 y'.comp, u']) : CSt W (Wi.setCell ⟨q, i, none⟩ v) P rp F l s q y' u' := by
  obtain ⟨h1, h2, h3, h4, h5⟩ := h
  have hk : Keep (fun b => b = q) Wi (Wi.setCell ⟨q, i, none⟩ v) := Keep.setCell (S := fun b => b = q) (p := ⟨q, i, none⟩) (Keep.refl _ Wi) (.inr rfl) _
  refine ⟨⟨(hk.block P (Array.getElem?_eq_some_iff.1 h1.1).1 (by omega)).trans h1.1, rdr_keep h1.2.1 hk (by omega) (fun b _ hF e => by have := h4.2 b hF; omega), h1.2.2.1, h1.2.2.2⟩, by rw [heap_setCell_same Wi q i _ _ v h2, he], (hk.block _ (Array.getElem?_eq_some_iff.1 h3).1 (by omega)).trans h3, h4, h5.trans hk (fun b hb e => by omega)⟩
theorem CSt.cells (h : CSt W Wi P rp F l s q y u) : Wi.cell? ⟨q, 0, none⟩ = some (.int .i64 y.do_) ∧ Wi.cell? ⟨q, 1, none⟩ = some (.bool y.loc) ∧ Wi.cell? ⟨q, 2, none⟩ = some (.int .i64 y.idx) ∧ Wi.cell? ⟨q, 3, none⟩ = some (.int .i64 y.gen) ∧ Wi.cell? ⟨q, 4, none⟩ = some (.int .i64 y.comp) ∧ Wi.cell? ⟨q, 5, none⟩ = some u ∧ ∀ i, Wi.frozen? ⟨q, i, none⟩ = false := cells6 h.2.1
end
theorem under_cmd : Try.prog.underlying 83 = some (.struct (Try.prog.fieldsOf 83)) := by kernel_rfl
theorem size_cmd : (Try.prog.info? 83).map (·.size) = some 6 := by kernel_rfl
/-- What it leaves. -/
def CCmd (W : World) (P rp : Nat) (F : Nat → Prop) (l : List UInt8) (r : Cmd × RS) (e : Ending) (w' : World) : Prop :=
  ∃ A n c, e = .returned (cmdV r.1 (.slice A n c)) ∧ By w' (fun b => W.heap.size ≤ b) (.slice A n c) r.1.l ∧ CTo W P rp F l r.2 w'
/-- Behind the last store: the box is handed back. -/
theorem CSt.done {W Wi : World} {P rp : Nat} {F G : Nat → Prop} {l : List UInt8} {s : RS} {q : Nat} {y : Cmd} {A : Option Addr} {n c : Nat} (h : CSt W Wi P rp F l s q y (.slice A n c)) (hy : By Wi (fun b => W.heap.size < b) (.slice A n c) y.l) (hF : ∀ b, F b → G b) (hG : ¬ G P ∧ ¬ G rp) {wf : World}
    (hwf : wf = (((((Wi.setCell ⟨W.heap.size, 0, none⟩ (.int .i64 y.do_)).setCell ⟨W.heap.size, 1, none⟩ (.bool y.loc)).setCell ⟨W.heap.size, 2, none⟩ (.int .i64 y.idx)).setCell ⟨W.heap.size, 3, none⟩ (.int .i64 y.gen)).setCell ⟨W.heap.size, 4, none⟩ (.int .i64 y.comp)).setCell ⟨W.heap.size, 5, none⟩ (.slice A n c)) :
    wf.heap[W.heap.size]? = some (.cells #[.int .i64 y.do_, .bool y.loc, .int .i64 y.idx, .int .i64 y.gen, .int .i64 y.comp, .slice A n c] 83 (0, 0)) ∧ By wf (fun b => W.heap.size ≤ b) (.slice A n c) y.l ∧ CTo W P rp G l s wf := by
  obtain ⟨h1, h2, h3, h4, h5⟩ := h
  subst hwf
  have hk := keepS6 Wi W.heap.size (.int .i64 y.do_) (.bool y.loc) (.int .i64 y.idx) (.int .i64 y.gen) (.int .i64 y.comp) (.slice A n c)
  exact ⟨stored6 h3 _ _ _ _ _ _, (hy.keep hk (fun b _ h e => by omega)).mono (fun b _ h => by omega),
    ⟨⟨(hk.block P (Array.getElem?_eq_some_iff.1 h1.1).1 (by omega)).trans h1.1, rdr_mono' (rdr_keep h1.2.1 hk (by omega) (fun b _ hF e => by have := h4.2 b hF; omega)) hF hG.2, h1.2.2.1, hG.1⟩, h5.trans hk (fun b hb e => by omega)⟩⟩
end Go.Proofs.Ytfjgbnnjfapcmaa
namespace Go.Proofs.Ytfjgbnnjfapcmaa
open Go.RowKit
set_option maxRecDepth 100000
set_option linter.unusedVariables false

theorem results_cmd {fn : Func} {p : Tmp} (h : fn.results = #[.cell p 83]) (tmps : Array Value) (w : World) (g : Nat) (c0 c1 c2 c3 c4 c5 : Value)
    (hp : tmps.getD p undef = .pointer (some ⟨g, 0, none⟩)) (hg : w.heap[g]? = some (.cells #[c0, c1, c2, c3, c4, c5] 83 (0, 0))) : (results fn tmps).run Try.prog w = .ok (.agg #[c0, c1, c2, c3, c4, c5]) w :=
  results_cell_row h tmps w g 83 _ (0, 0) _ hp hg under_cmd rfl size_cmd
/-- What all ways end in. -/
theorem CCmd.mk_ {W Wi wf : World} {P rp : Nat} {F G : Nat → Prop} {l : List UInt8} {s s0 : RS} {q : Nat} {y : Cmd} {A : Option Addr} {n c : Nat} (h : CSt W Wi P rp F l s q y (.slice A n c)) (hy : By Wi (fun b => W.heap.size < b) (.slice A n c) y.l) (hF : ∀ b, F b → G b) (hG : ¬ G P ∧ ¬ G rp)
    (hwf : wf = (((((Wi.setCell ⟨W.heap.size, 0, none⟩ (.int .i64 y.do_)).setCell ⟨W.heap.size, 1, none⟩ (.bool y.loc)).setCell ⟨W.heap.size, 2, none⟩ (.int .i64 y.idx)).setCell ⟨W.heap.size, 3, none⟩ (.int .i64 y.gen)).setCell ⟨W.heap.size, 4, none⟩ (.int .i64 y.comp)).setCell ⟨W.heap.size, 5, none⟩ (.slice A n c))
    (he : cmdS l s0 = (y, s)) : CCmd W P rp G l (cmdS l s0) (.returned (.agg #[.int .i64 y.do_, .bool y.loc, .int .i64 y.idx, .int .i64 y.gen, .int .i64 y.comp, .slice A n c])) wf := by
  obtain ⟨h1, h2, h3⟩ := h.done hy hF hG hwf
  rw [he]
  exact ⟨A, n, c, rfl, h2, h3⟩

set_option maxHeartbeats 8000000 in
theorem ccmd_any {W : World} {P rp : Nat} {G : Nat → Prop} {l : List UInt8} {s : RS} (h : CRd W P rp G l s) :
    Calls Try.prog 90 #[.pointer (some ⟨P, 0, none⟩)] W (CCmd W P rp G l (cmdS l s)) := by
  have hP := (Array.getElem?_eq_some_iff.1 h.1).1
  have hrp : rp < W.heap.size := by obtain ⟨vs, hh, _⟩ := h.2.1; exact (Array.getElem?_eq_some_iff.1 hh).1
  have HG := Lib.hid (show ¬ G P ∧ ¬ G rp from ⟨h.2.2.2, by obtain ⟨_, _, _, hh, _⟩ := h.2.1; exact hh⟩)
  obtain ⟨F, hF⟩ : ∃ F : Nat → Prop, F = fun b => G b ∧ b < W.heap.size := ⟨_, rfl⟩
  have HF := Lib.hid (show ∀ b, F b → G b from fun b hb => by rw [hF] at hb; exact hb.1)
  have HF2 := Lib.hid (show ∀ b, F b → b < W.heap.size from fun b hb => by rw [hF] at hb; exact hb.2)
  have h0 : CRd W P rp F l s := ⟨h.1, rdr_mono2 h.2.1 (fun b hb hg => by rw [hF]; exact ⟨hg, hb⟩) (fun hh => HG.out.2 (HF.out _ hh)), h.2.2.1, fun hh => HG.out.1 (HF.out _ hh)⟩
  have H0 := Lib.hid (show CRd (W.alloc (.cells #[.int .i64 0, .bool false, .int .i64 0, .int .i64 0, .int .i64 0, .slice none 0 0] 83)) P rp F l s from
    ⟨(heap_alloc_old W _ hP).trans h0.1, rdr_keep h0.2.1 ((Keep.refl (fun _ => False) W).alloc _) (fun h => h) (fun _ _ _ h => h), h0.2.2.1, h0.2.2.2⟩)
  have HC := Lib.hid (show cmdS l s = if (doS l s).2.e ≠ 0 ∨ (doS l s).1 = 0 then (⟨(doS l s).1, false, 0, 0, 0, []⟩, (doS l s).2) else restS l (doS l s).2 (doS l s).1 from rfl)
  have KN := Lib.hid known_any
  clear h h0 hF
  have N1 := Lib.hid (cnum_any H0.out 1)
  have D1 := Lib.hid (show doS l s = ((numS l s 1).1, mustS (numS l s 1).2 (knownC (numS l s 1).1) 11) from rfl)
  have ME := Lib.hid (show (doS l s).2.e = 0 → knownC (doS l s).1 = true from fun h => (mustS_e (by decide) h).1)
  generalize numS l s 1 = a at *
  generalize hD : doS l s = D at *
  obtain ⟨z, s1⟩ := a
  obtain ⟨d, s2⟩ := D
  have hd := D1.out
  obtain ⟨hd1, hd2⟩ := Prod.mk.inj hd
  subst hd1
  have D2 := Lib.hid hd2
  clear D1 hd2 hD
  go_enter Try.func90, Try.ntmps90
  go_wp2_with fail
  refine N1.out.mono ?_
  rintro e w1 ⟨rfl, hc1⟩
  have H1 := Lib.hid (show CSt W (w1.alloc (.cells #[.int .i64 d, .bool false, .int .i64 0, .int .i64 0, .int .i64 0, .slice none 0 0] 83)) P rp F l s1 w1.heap.size ⟨d, false, 0, 0, 0, []⟩ (.slice none 0 0) from
    have hsz := hc1.2.size
    have hz : W.heap.size < w1.heap.size := by simp at hsz; omega
    ⟨⟨(heap_alloc_old w1 _ (Array.getElem?_eq_some_iff.1 hc1.1.1).1).trans hc1.1.1, rdr_keep hc1.1.2.1 ((Keep.refl (fun _ => False) w1).alloc _) (fun h => h) (fun _ _ _ h => h), hc1.1.2.2.1, hc1.1.2.2.2⟩, heap_alloc_new w1 _,
      (heap_alloc_old w1 _ hz).trans ((hc1.2.block W.heap.size (by simp) (by omega)).trans (heap_alloc_new W _)), ⟨⟨hz, hP, hrp⟩, HF2.out⟩, (((Keep.refl _ W).alloc _).trans hc1.2 (fun _ _ h => h)).alloc _⟩)
  clear hc1 N1 H0
  go_upto_region 2 with fail
  refine wp_world (S := fun X => CSt W X P rp F l s1 w1.heap.size ⟨d, false, 0, 0, 0, []⟩ (.slice none 0 0)) H1.out ?_
  intro X1 hX1
  have H2 := Lib.hid hX1
  clear hX1 H1
  generalize w1.heap.size = q at *
  obtain ⟨x0, x1, x2, x3, x4, x5, xf⟩ := H2.out.cells
  go_wp2_with fail
  refine (KN.out d _).mono ?_
  rintro e w2 ⟨rfl, rfl⟩
  go_wp2_with fail
  refine (cmust_any H2.out.1 _ 11).mono ?_
  rintro e w2 ⟨rfl, hc2⟩
  rw [← D2.out] at hc2
  have H3 := Lib.hid (H2.out.num hc2)
  clear hc2 H2 x0 x1 x2 x3 x4 x5 xf
  obtain ⟨x0, x1, x2, x3, x4, x5, xf⟩ := H3.out.cells
  obtain ⟨c0, c1, cf⟩ := cells2 H3.out.1.1
  obtain ⟨r0, r1, r2, r3, r4, r5, rf⟩ := cells6 H3.out.2.2.1
  by_cases he : s2.e = 0
  · have e1 : (s2.e != 0) = false := by simp [he]
    have hk := ME.out he
    by_cases hz : d = 0
    · have CE := Lib.hid (show cmdS l s = (⟨d, false, 0, 0, 0, []⟩, s2) by rw [HC.out, if_pos (.inr hz)])
      have e2 : (d == 0) = true := by rw [beq_iff_eq]; exact hz
      clear he hz hk ME HC
      go_wp2
      exact bodyPost_ret (results_cmd rfl _ _ W.heap.size _ _ _ _ _ _ rfl (stored6 H3.out.2.2.1 _ _ _ _ _ _)) rfl (CCmd.mk_ H3.out (By.nil _ _) HF.out HG.out rfl CE.out)
    · have e2 : (d == 0) = false := by rw [beq_eq_false_iff_ne]; exact hz
      have RE := Lib.hid (show cmdS l s = restS l s2 d by rw [HC.out, if_neg (by rintro (h | h); exact h he; exact hz h)])
      have hd3 : d = 1 ∨ d = 2 ∨ d = 3 := by
        unfold knownC at hk
        have := of_decide_eq_true hk
        omega
      clear he hz hk ME HC
      go_upto_region 5 with fail
      clear x0 x1 x2 x3 x4 x5 xf c0 c1 cf r0 r1 r2 r3 r4 r5 rf e1 e2
      rcases hd3 with rfl | rfl | rfl
      · by_cases hlo : (numS l s2 1).1 = 1
        · obtain ⟨b, hb⟩ : ∃ x, x = numS l s2 1 := ⟨_, rfl⟩
          have N := Lib.hid (cnum_any H3.out.1 1)
          rw [← hb] at N
          have Eb := Lib.hid hb
          clear hb
          go_wp2_with fail
          refine N.out.mono ?_
          rintro e wb ⟨rfl, hc⟩
          have K1 := Lib.hid (H3.out.num hc)
          clear hc N H3
          rw [← Eb.out] at hlo
          obtain ⟨s4, hs4⟩ : ∃ x, x = mustS b.2 (decide (b.1 ≤ 1)) 11 := ⟨_, rfl⟩
          have M := Lib.hid (cmust_any K1.out.1 (decide (b.1 ≤ 1)) 11)
          rw [← hs4] at M
          have Es4 := Lib.hid hs4
          have lo : (b.1 == 1) = true := by rw [beq_iff_eq]; exact hlo
          have HLO := Lib.hid hlo
          clear hs4 hlo
          go_wp2_with fail
          refine M.out.mono ?_
          rintro e wm ⟨rfl, hc⟩
          have K2 := Lib.hid (K1.out.num hc)
          clear hc M K1
          obtain ⟨x0, x1, x2, x3, x4, x5, xf⟩ := K2.out.cells
          have K3 := Lib.hid (K2.out.set 1 (.bool true) (y' := ⟨1, true, 0, 0, 0, []⟩) (u' := .slice none 0 0) rfl)
          obtain ⟨i, hi⟩ : ∃ x, x = numS l s4 8 := ⟨_, rfl⟩
          have N := Lib.hid (cnum_any K3.out.1 8)
          rw [← hi] at N
          have Ei := Lib.hid hi
          clear hi
          go_wp2_with fail
          refine N.out.mono ?_
          rintro e wi ⟨rfl, hc⟩
          have K4 := Lib.hid (K3.out.num hc)
          clear hc N K2 K3 lo
          clear x0 x1 x2 x3 x4 x5 xf
          obtain ⟨x0, x1, x2, x3, x4, x5, xf⟩ := K4.out.cells
          have K5 := Lib.hid (K4.out.set 2 (.int .i64 i.1) (y' := ⟨1, true, i.1, 0, 0, []⟩) (u' := .slice none 0 0) rfl)
          clear x0 x1 x2 x3 x4 x5 xf
          obtain ⟨x0, x1, x2, x3, x4, x5, xf⟩ := K4.out.cells
          obtain ⟨r0, r1, r2, r3, r4, r5, rf⟩ := cells6 K4.out.2.2.1
          have cqr : W.heap.size ≠ q := by have := K4.out.2.2.2.1.1.1; omega
          have cqr2 : q ≠ W.heap.size := by omega
          have CE := Lib.hid (show cmdS l s = (⟨1, true, i.1, 0, 0, []⟩, i.2) by
            rw [RE.out]
            have hl : (locS l s2).1 = true := by unfold locS; exact decide_eq_true (Eb.out ▸ HLO.out)
            have qEb := Eb.out
            have qEs4 := Es4.out
            have qEi := Ei.out
            subst qEi; subst qEs4; subst qEb
            unfold restS datS cmpS tgtS
            rw [hl]
            rfl)
          go_wp2
          exact bodyPost_ret (results_cmd rfl _ _ W.heap.size _ _ _ _ _ _ rfl (stored6 K5.out.2.2.1 _ _ _ _ _ _)) rfl (CCmd.mk_ K5.out (By.nil _ _) HF.out HG.out rfl CE.out)
        · obtain ⟨b, hb⟩ : ∃ x, x = numS l s2 1 := ⟨_, rfl⟩
          have N := Lib.hid (cnum_any H3.out.1 1)
          rw [← hb] at N
          have Eb := Lib.hid hb
          clear hb
          go_wp2_with fail
          refine N.out.mono ?_
          rintro e wb ⟨rfl, hc⟩
          have K1 := Lib.hid (H3.out.num hc)
          clear hc N H3
          rw [← Eb.out] at hlo
          obtain ⟨s4, hs4⟩ : ∃ x, x = mustS b.2 (decide (b.1 ≤ 1)) 11 := ⟨_, rfl⟩
          have M := Lib.hid (cmust_any K1.out.1 (decide (b.1 ≤ 1)) 11)
          rw [← hs4] at M
          have Es4 := Lib.hid hs4
          have lo : (b.1 == 1) = false := by rw [beq_eq_false_iff_ne]; exact hlo
          have HLO := Lib.hid hlo
          clear hs4 hlo
          go_wp2_with fail
          refine M.out.mono ?_
          rintro e wm ⟨rfl, hc⟩
          have K2 := Lib.hid (K1.out.num hc)
          clear hc M K1
          obtain ⟨x0, x1, x2, x3, x4, x5, xf⟩ := K2.out.cells
          have K3 := Lib.hid (K2.out.set 1 (.bool false) (y' := ⟨1, false, 0, 0, 0, []⟩) (u' := .slice none 0 0) rfl)
          obtain ⟨i, hi⟩ : ∃ x, x = numS l s4 8 := ⟨_, rfl⟩
          have N := Lib.hid (cnum_any K3.out.1 8)
          rw [← hi] at N
          have Ei := Lib.hid hi
          clear hi
          go_wp2_with fail
          refine N.out.mono ?_
          rintro e wi ⟨rfl, hc⟩
          have K4 := Lib.hid (K3.out.num hc)
          clear hc N K2 K3 lo
          clear x0 x1 x2 x3 x4 x5 xf
          obtain ⟨x0, x1, x2, x3, x4, x5, xf⟩ := K4.out.cells
          have K5 := Lib.hid (K4.out.set 2 (.int .i64 i.1) (y' := ⟨1, false, i.1, 0, 0, []⟩) (u' := .slice none 0 0) rfl)
          obtain ⟨g, hg⟩ : ∃ x, x = numS l i.2 8 := ⟨_, rfl⟩
          have N := Lib.hid (cnum_any K5.out.1 8)
          rw [← hg] at N
          have Eg := Lib.hid hg
          clear hg
          go_wp2_with fail
          refine N.out.mono ?_
          rintro e wg ⟨rfl, hc⟩
          have K6 := Lib.hid (K5.out.num hc)
          clear hc N K4 K5
          clear x0 x1 x2 x3 x4 x5 xf
          obtain ⟨x0, x1, x2, x3, x4, x5, xf⟩ := K6.out.cells
          have K7 := Lib.hid (K6.out.set 3 (.int .i64 g.1) (y' := ⟨1, false, i.1, g.1, 0, []⟩) (u' := .slice none 0 0) rfl)
          clear x0 x1 x2 x3 x4 x5 xf
          obtain ⟨x0, x1, x2, x3, x4, x5, xf⟩ := K6.out.cells
          obtain ⟨r0, r1, r2, r3, r4, r5, rf⟩ := cells6 K6.out.2.2.1
          have cqr : W.heap.size ≠ q := by have := K6.out.2.2.2.1.1.1; omega
          have cqr2 : q ≠ W.heap.size := by omega
          have CE := Lib.hid (show cmdS l s = (⟨1, false, i.1, g.1, 0, []⟩, g.2) by
            rw [RE.out]
            have hl : (locS l s2).1 = false := by unfold locS; exact decide_eq_false (Eb.out ▸ HLO.out)
            have qEb := Eb.out
            have qEs4 := Es4.out
            have qEi := Ei.out
            have qEg := Eg.out
            subst qEg; subst qEi; subst qEs4; subst qEb
            unfold restS datS cmpS tgtS
            rw [hl]
            rfl)
          go_wp2
          exact bodyPost_ret (results_cmd rfl _ _ W.heap.size _ _ _ _ _ _ rfl (stored6 K7.out.2.2.1 _ _ _ _ _ _)) rfl (CCmd.mk_ K7.out (By.nil _ _) HF.out HG.out rfl CE.out)
      · by_cases hlo : (numS l s2 1).1 = 1
        · obtain ⟨b, hb⟩ : ∃ x, x = numS l s2 1 := ⟨_, rfl⟩
          have N := Lib.hid (cnum_any H3.out.1 1)
          rw [← hb] at N
          have Eb := Lib.hid hb
          clear hb
          go_wp2_with fail
          refine N.out.mono ?_
          rintro e wb ⟨rfl, hc⟩
          have K1 := Lib.hid (H3.out.num hc)
          clear hc N H3
          rw [← Eb.out] at hlo
          obtain ⟨s4, hs4⟩ : ∃ x, x = mustS b.2 (decide (b.1 ≤ 1)) 11 := ⟨_, rfl⟩
          have M := Lib.hid (cmust_any K1.out.1 (decide (b.1 ≤ 1)) 11)
          rw [← hs4] at M
          have Es4 := Lib.hid hs4
          have lo : (b.1 == 1) = true := by rw [beq_iff_eq]; exact hlo
          have HLO := Lib.hid hlo
          clear hs4 hlo
          go_wp2_with fail
          refine M.out.mono ?_
          rintro e wm ⟨rfl, hc⟩
          have K2 := Lib.hid (K1.out.num hc)
          clear hc M K1
          obtain ⟨x0, x1, x2, x3, x4, x5, xf⟩ := K2.out.cells
          have K3 := Lib.hid (K2.out.set 1 (.bool true) (y' := ⟨2, true, 0, 0, 0, []⟩) (u' := .slice none 0 0) rfl)
          obtain ⟨i, hi⟩ : ∃ x, x = numS l s4 8 := ⟨_, rfl⟩
          have N := Lib.hid (cnum_any K3.out.1 8)
          rw [← hi] at N
          have Ei := Lib.hid hi
          clear hi
          go_wp2_with fail
          refine N.out.mono ?_
          rintro e wi ⟨rfl, hc⟩
          have K4 := Lib.hid (K3.out.num hc)
          clear hc N K2 K3 lo
          clear x0 x1 x2 x3 x4 x5 xf
          obtain ⟨x0, x1, x2, x3, x4, x5, xf⟩ := K4.out.cells
          have K5 := Lib.hid (K4.out.set 2 (.int .i64 i.1) (y' := ⟨2, true, i.1, 0, 0, []⟩) (u' := .slice none 0 0) rfl)
          obtain ⟨c, hc⟩ : ∃ x, x = numS l i.2 8 := ⟨_, rfl⟩
          have N := Lib.hid (cnum_any K5.out.1 8)
          rw [← hc] at N
          have Ec := Lib.hid hc
          clear hc
          go_wp2_with fail
          refine N.out.mono ?_
          rintro e wc ⟨rfl, hc⟩
          have K8 := Lib.hid (K5.out.num hc)
          clear hc N K4 K5
          clear x0 x1 x2 x3 x4 x5 xf
          obtain ⟨x0, x1, x2, x3, x4, x5, xf⟩ := K8.out.cells
          have K9 := Lib.hid (K8.out.set 4 (.int .i64 c.1) (y' := ⟨2, true, i.1, 0, c.1, []⟩) (u' := .slice none 0 0) rfl)
          obtain ⟨n, hn⟩ : ∃ x, x = numS l c.2 2 := ⟨_, rfl⟩
          have N := Lib.hid (cnum_any K9.out.1 2)
          rw [← hn] at N
          have hnb : 0 ≤ n.1 ∧ n.1 ≤ 65535 := by rw [hn]; exact numR2_bd _ _ _
          have En := Lib.hid hn
          clear hn
          obtain ⟨hn0, hn1⟩ := hnb
          go_wp2_with fail
          refine N.out.mono ?_
          rintro e wn ⟨rfl, hc⟩
          have K10 := Lib.hid (K9.out.num hc)
          clear hc N K8 K9
          clear x0 x1 x2 x3 x4 x5 xf
          obtain ⟨s9, hs9⟩ : ∃ x, x = mustS n.2 (decide (n.1 ≤ 64)) 13 := ⟨_, rfl⟩
          have M := Lib.hid (cmust_any K10.out.1 (decide (n.1 ≤ 64)) 13)
          rw [← hs9] at M
          have Es9 := Lib.hid hs9
          clear hs9
          go_wp2_with fail
          refine M.out.mono ?_
          rintro e wm2 ⟨rfl, hc⟩
          have K11 := Lib.hid (K10.out.num hc)
          clear hc M K10
          obtain ⟨x0, x1, x2, x3, x4, x5, xf⟩ := K11.out.cells
          obtain ⟨c0, c1, cf⟩ := cells2 K11.out.1.1
          obtain ⟨by_, hby_⟩ : ∃ x, x = bytesR l s9.k s9.bad n.1 := ⟨_, rfl⟩
          have B := Lib.hid (rbytes_any K11.out.1.2.1 n.1 (by omega))
          rw [← hby_] at B
          have Eby := Lib.hid hby_
          clear hby_
          go_wp2_with fail
          refine B.out.mono ?_
          rintro e wb ⟨A9, c9, rfl, hy9, hr9⟩
          have K12 := Lib.hid (K11.out.num (K11.out.1.step hr9))
          have Y12 := Lib.hid (hy9.mono (G := fun b => W.heap.size < b ∧ b ≠ q) (fun b _ h => by have := (Array.getElem?_eq_some_iff.1 K11.out.2.1).1; have := K11.out.2.2.2.1.1.1; omega))
          clear x0 x1 x2 x3 x4 x5 xf
          clear c0 c1 cf hy9 hr9 B K11
          obtain ⟨x0, x1, x2, x3, x4, x5, xf⟩ := K12.out.cells
          have K13 := Lib.hid (K12.out.set 5 (.slice A9 by_.1.length c9) (y' := ⟨2, true, i.1, 0, c.1, by_.1⟩) (u' := .slice A9 by_.1.length c9) rfl)
          have Y13 := Lib.hid (Y12.out.keep (Keep.setCell (S := fun b => b = q) (p := ⟨q, 5, none⟩) (Keep.refl _ wb) (.inr rfl) (.slice A9 by_.1.length c9)) (fun b _ h e => h.2 e))
          have OK := Lib.hid (rok_any K13.out.1.2.1)
          obtain ⟨c0, c1, cf⟩ := cells2 K12.out.1.1
          have cq : P ≠ q := by have := K12.out.2.2.2.1.1; omega
          go_wp2_with fail
          refine OK.out.mono ?_
          rintro e wo ⟨rfl, rfl⟩
          obtain ⟨s11, hs11⟩ : ∃ x, x = mustS ⟨by_.2.1, by_.2.2, s9.e⟩ (!by_.2.2) 12 := ⟨_, rfl⟩
          have M := Lib.hid (cmust_any K13.out.1 (!by_.2.2) 12)
          rw [← hs11] at M
          have Es11 := Lib.hid hs11
          clear hs11
          go_wp2_with fail
          refine M.out.mono ?_
          rintro e wz ⟨rfl, hc⟩
          have K14 := Lib.hid (K13.out.num hc)
          have Y14 := Lib.hid ((Y13.out.keep hc.2 (fun b _ h e => by have := K13.out.2.2.2.1.1; have := h.1; omega)).mono (G := fun b => W.heap.size < b) (fun b _ h => h.1))
          clear hc M K13 K12 Y12 Y13 c0 c1 cf cq
          clear x0 x1 x2 x3 x4 x5 xf
          obtain ⟨x0, x1, x2, x3, x4, x5, xf⟩ := K14.out.cells
          obtain ⟨r0, r1, r2, r3, r4, r5, rf⟩ := cells6 K14.out.2.2.1
          have cqr : W.heap.size ≠ q := by have := K14.out.2.2.2.1.1.1; omega
          have cqr2 : q ≠ W.heap.size := by omega
          have CE := Lib.hid (show cmdS l s = (⟨2, true, i.1, 0, c.1, by_.1⟩, s11) by
            rw [RE.out]
            have hl : (locS l s2).1 = true := by unfold locS; exact decide_eq_true (Eb.out ▸ HLO.out)
            have qEb := Eb.out
            have qEs4 := Es4.out
            have qEi := Ei.out
            have qEc := Ec.out
            have qEn := En.out
            have qEs9 := Es9.out
            have qEby := Eby.out
            have qEs11 := Es11.out
            subst qEs11; subst qEby; subst qEs9; subst qEn; subst qEc; subst qEi; subst qEs4; subst qEb
            unfold restS datS cmpS tgtS
            rw [hl]
            rfl)
          go_wp2
          exact bodyPost_ret (results_cmd rfl _ _ W.heap.size _ _ _ _ _ _ rfl (stored6 K14.out.2.2.1 _ _ _ _ _ _)) rfl (CCmd.mk_ K14.out Y14.out HF.out HG.out rfl CE.out)
        · obtain ⟨b, hb⟩ : ∃ x, x = numS l s2 1 := ⟨_, rfl⟩
          have N := Lib.hid (cnum_any H3.out.1 1)
          rw [← hb] at N
          have Eb := Lib.hid hb
          clear hb
          go_wp2_with fail
          refine N.out.mono ?_
          rintro e wb ⟨rfl, hc⟩
          have K1 := Lib.hid (H3.out.num hc)
          clear hc N H3
          rw [← Eb.out] at hlo
          obtain ⟨s4, hs4⟩ : ∃ x, x = mustS b.2 (decide (b.1 ≤ 1)) 11 := ⟨_, rfl⟩
          have M := Lib.hid (cmust_any K1.out.1 (decide (b.1 ≤ 1)) 11)
          rw [← hs4] at M
          have Es4 := Lib.hid hs4
          have lo : (b.1 == 1) = false := by rw [beq_eq_false_iff_ne]; exact hlo
          have HLO := Lib.hid hlo
          clear hs4 hlo
          go_wp2_with fail
          refine M.out.mono ?_
          rintro e wm ⟨rfl, hc⟩
          have K2 := Lib.hid (K1.out.num hc)
          clear hc M K1
          obtain ⟨x0, x1, x2, x3, x4, x5, xf⟩ := K2.out.cells
          have K3 := Lib.hid (K2.out.set 1 (.bool false) (y' := ⟨2, false, 0, 0, 0, []⟩) (u' := .slice none 0 0) rfl)
          obtain ⟨i, hi⟩ : ∃ x, x = numS l s4 8 := ⟨_, rfl⟩
          have N := Lib.hid (cnum_any K3.out.1 8)
          rw [← hi] at N
          have Ei := Lib.hid hi
          clear hi
          go_wp2_with fail
          refine N.out.mono ?_
          rintro e wi ⟨rfl, hc⟩
          have K4 := Lib.hid (K3.out.num hc)
          clear hc N K2 K3 lo
          clear x0 x1 x2 x3 x4 x5 xf
          obtain ⟨x0, x1, x2, x3, x4, x5, xf⟩ := K4.out.cells
          have K5 := Lib.hid (K4.out.set 2 (.int .i64 i.1) (y' := ⟨2, false, i.1, 0, 0, []⟩) (u' := .slice none 0 0) rfl)
          obtain ⟨g, hg⟩ : ∃ x, x = numS l i.2 8 := ⟨_, rfl⟩
          have N := Lib.hid (cnum_any K5.out.1 8)
          rw [← hg] at N
          have Eg := Lib.hid hg
          clear hg
          go_wp2_with fail
          refine N.out.mono ?_
          rintro e wg ⟨rfl, hc⟩
          have K6 := Lib.hid (K5.out.num hc)
          clear hc N K4 K5
          clear x0 x1 x2 x3 x4 x5 xf
          obtain ⟨x0, x1, x2, x3, x4, x5, xf⟩ := K6.out.cells
          have K7 := Lib.hid (K6.out.set 3 (.int .i64 g.1) (y' := ⟨2, false, i.1, g.1, 0, []⟩) (u' := .slice none 0 0) rfl)
          obtain ⟨c, hc⟩ : ∃ x, x = numS l g.2 8 := ⟨_, rfl⟩
          have N := Lib.hid (cnum_any K7.out.1 8)
          rw [← hc] at N
          have Ec := Lib.hid hc
          clear hc
          go_wp2_with fail
          refine N.out.mono ?_
          rintro e wc ⟨rfl, hc⟩
          have K8 := Lib.hid (K7.out.num hc)
          clear hc N K6 K7
          clear x0 x1 x2 x3 x4 x5 xf
          obtain ⟨x0, x1, x2, x3, x4, x5, xf⟩ := K8.out.cells
          have K9 := Lib.hid (K8.out.set 4 (.int .i64 c.1) (y' := ⟨2, false, i.1, g.1, c.1, []⟩) (u' := .slice none 0 0) rfl)
          obtain ⟨n, hn⟩ : ∃ x, x = numS l c.2 2 := ⟨_, rfl⟩
          have N := Lib.hid (cnum_any K9.out.1 2)
          rw [← hn] at N
          have hnb : 0 ≤ n.1 ∧ n.1 ≤ 65535 := by rw [hn]; exact numR2_bd _ _ _
          have En := Lib.hid hn
          clear hn
          obtain ⟨hn0, hn1⟩ := hnb
          go_wp2_with fail
          refine N.out.mono ?_
          rintro e wn ⟨rfl, hc⟩
          have K10 := Lib.hid (K9.out.num hc)
          clear hc N K8 K9
          clear x0 x1 x2 x3 x4 x5 xf
          obtain ⟨s9, hs9⟩ : ∃ x, x = mustS n.2 (decide (n.1 ≤ 64)) 13 := ⟨_, rfl⟩
          have M := Lib.hid (cmust_any K10.out.1 (decide (n.1 ≤ 64)) 13)
          rw [← hs9] at M
          have Es9 := Lib.hid hs9
          clear hs9
          go_wp2_with fail
          refine M.out.mono ?_
          rintro e wm2 ⟨rfl, hc⟩
          have K11 := Lib.hid (K10.out.num hc)
          clear hc M K10
          obtain ⟨x0, x1, x2, x3, x4, x5, xf⟩ := K11.out.cells
          obtain ⟨c0, c1, cf⟩ := cells2 K11.out.1.1
          obtain ⟨by_, hby_⟩ : ∃ x, x = bytesR l s9.k s9.bad n.1 := ⟨_, rfl⟩
          have B := Lib.hid (rbytes_any K11.out.1.2.1 n.1 (by omega))
          rw [← hby_] at B
          have Eby := Lib.hid hby_
          clear hby_
          go_wp2_with fail
          refine B.out.mono ?_
          rintro e wb ⟨A9, c9, rfl, hy9, hr9⟩
          have K12 := Lib.hid (K11.out.num (K11.out.1.step hr9))
          have Y12 := Lib.hid (hy9.mono (G := fun b => W.heap.size < b ∧ b ≠ q) (fun b _ h => by have := (Array.getElem?_eq_some_iff.1 K11.out.2.1).1; have := K11.out.2.2.2.1.1.1; omega))
          clear x0 x1 x2 x3 x4 x5 xf
          clear c0 c1 cf hy9 hr9 B K11
          obtain ⟨x0, x1, x2, x3, x4, x5, xf⟩ := K12.out.cells
          have K13 := Lib.hid (K12.out.set 5 (.slice A9 by_.1.length c9) (y' := ⟨2, false, i.1, g.1, c.1, by_.1⟩) (u' := .slice A9 by_.1.length c9) rfl)
          have Y13 := Lib.hid (Y12.out.keep (Keep.setCell (S := fun b => b = q) (p := ⟨q, 5, none⟩) (Keep.refl _ wb) (.inr rfl) (.slice A9 by_.1.length c9)) (fun b _ h e => h.2 e))
          have OK := Lib.hid (rok_any K13.out.1.2.1)
          obtain ⟨c0, c1, cf⟩ := cells2 K12.out.1.1
          have cq : P ≠ q := by have := K12.out.2.2.2.1.1; omega
          go_wp2_with fail
          refine OK.out.mono ?_
          rintro e wo ⟨rfl, rfl⟩
          obtain ⟨s11, hs11⟩ : ∃ x, x = mustS ⟨by_.2.1, by_.2.2, s9.e⟩ (!by_.2.2) 12 := ⟨_, rfl⟩
          have M := Lib.hid (cmust_any K13.out.1 (!by_.2.2) 12)
          rw [← hs11] at M
          have Es11 := Lib.hid hs11
          clear hs11
          go_wp2_with fail
          refine M.out.mono ?_
          rintro e wz ⟨rfl, hc⟩
          have K14 := Lib.hid (K13.out.num hc)
          have Y14 := Lib.hid ((Y13.out.keep hc.2 (fun b _ h e => by have := K13.out.2.2.2.1.1; have := h.1; omega)).mono (G := fun b => W.heap.size < b) (fun b _ h => h.1))
          clear hc M K13 K12 Y12 Y13 c0 c1 cf cq
          clear x0 x1 x2 x3 x4 x5 xf
          obtain ⟨x0, x1, x2, x3, x4, x5, xf⟩ := K14.out.cells
          obtain ⟨r0, r1, r2, r3, r4, r5, rf⟩ := cells6 K14.out.2.2.1
          have cqr : W.heap.size ≠ q := by have := K14.out.2.2.2.1.1.1; omega
          have cqr2 : q ≠ W.heap.size := by omega
          have CE := Lib.hid (show cmdS l s = (⟨2, false, i.1, g.1, c.1, by_.1⟩, s11) by
            rw [RE.out]
            have hl : (locS l s2).1 = false := by unfold locS; exact decide_eq_false (Eb.out ▸ HLO.out)
            have qEb := Eb.out
            have qEs4 := Es4.out
            have qEi := Ei.out
            have qEg := Eg.out
            have qEc := Ec.out
            have qEn := En.out
            have qEs9 := Es9.out
            have qEby := Eby.out
            have qEs11 := Es11.out
            subst qEs11; subst qEby; subst qEs9; subst qEn; subst qEc; subst qEg; subst qEi; subst qEs4; subst qEb
            unfold restS datS cmpS tgtS
            rw [hl]
            rfl)
          go_wp2
          exact bodyPost_ret (results_cmd rfl _ _ W.heap.size _ _ _ _ _ _ rfl (stored6 K14.out.2.2.1 _ _ _ _ _ _)) rfl (CCmd.mk_ K14.out Y14.out HF.out HG.out rfl CE.out)
      · by_cases hlo : (numS l s2 1).1 = 1
        · obtain ⟨b, hb⟩ : ∃ x, x = numS l s2 1 := ⟨_, rfl⟩
          have N := Lib.hid (cnum_any H3.out.1 1)
          rw [← hb] at N
          have Eb := Lib.hid hb
          clear hb
          go_wp2_with fail
          refine N.out.mono ?_
          rintro e wb ⟨rfl, hc⟩
          have K1 := Lib.hid (H3.out.num hc)
          clear hc N H3
          rw [← Eb.out] at hlo
          obtain ⟨s4, hs4⟩ : ∃ x, x = mustS b.2 (decide (b.1 ≤ 1)) 11 := ⟨_, rfl⟩
          have M := Lib.hid (cmust_any K1.out.1 (decide (b.1 ≤ 1)) 11)
          rw [← hs4] at M
          have Es4 := Lib.hid hs4
          have lo : (b.1 == 1) = true := by rw [beq_iff_eq]; exact hlo
          have HLO := Lib.hid hlo
          clear hs4 hlo
          go_wp2_with fail
          refine M.out.mono ?_
          rintro e wm ⟨rfl, hc⟩
          have K2 := Lib.hid (K1.out.num hc)
          clear hc M K1
          obtain ⟨x0, x1, x2, x3, x4, x5, xf⟩ := K2.out.cells
          have K3 := Lib.hid (K2.out.set 1 (.bool true) (y' := ⟨3, true, 0, 0, 0, []⟩) (u' := .slice none 0 0) rfl)
          obtain ⟨i, hi⟩ : ∃ x, x = numS l s4 8 := ⟨_, rfl⟩
          have N := Lib.hid (cnum_any K3.out.1 8)
          rw [← hi] at N
          have Ei := Lib.hid hi
          clear hi
          go_wp2_with fail
          refine N.out.mono ?_
          rintro e wi ⟨rfl, hc⟩
          have K4 := Lib.hid (K3.out.num hc)
          clear hc N K2 K3 lo
          clear x0 x1 x2 x3 x4 x5 xf
          obtain ⟨x0, x1, x2, x3, x4, x5, xf⟩ := K4.out.cells
          have K5 := Lib.hid (K4.out.set 2 (.int .i64 i.1) (y' := ⟨3, true, i.1, 0, 0, []⟩) (u' := .slice none 0 0) rfl)
          obtain ⟨c, hc⟩ : ∃ x, x = numS l i.2 8 := ⟨_, rfl⟩
          have N := Lib.hid (cnum_any K5.out.1 8)
          rw [← hc] at N
          have Ec := Lib.hid hc
          clear hc
          go_wp2_with fail
          refine N.out.mono ?_
          rintro e wc ⟨rfl, hc⟩
          have K8 := Lib.hid (K5.out.num hc)
          clear hc N K4 K5
          clear x0 x1 x2 x3 x4 x5 xf
          obtain ⟨x0, x1, x2, x3, x4, x5, xf⟩ := K8.out.cells
          have K9 := Lib.hid (K8.out.set 4 (.int .i64 c.1) (y' := ⟨3, true, i.1, 0, c.1, []⟩) (u' := .slice none 0 0) rfl)
          clear x0 x1 x2 x3 x4 x5 xf
          obtain ⟨x0, x1, x2, x3, x4, x5, xf⟩ := K8.out.cells
          obtain ⟨r0, r1, r2, r3, r4, r5, rf⟩ := cells6 K8.out.2.2.1
          have cqr : W.heap.size ≠ q := by have := K8.out.2.2.2.1.1.1; omega
          have cqr2 : q ≠ W.heap.size := by omega
          have CE := Lib.hid (show cmdS l s = (⟨3, true, i.1, 0, c.1, []⟩, c.2) by
            rw [RE.out]
            have hl : (locS l s2).1 = true := by unfold locS; exact decide_eq_true (Eb.out ▸ HLO.out)
            have qEb := Eb.out
            have qEs4 := Es4.out
            have qEi := Ei.out
            have qEc := Ec.out
            subst qEc; subst qEi; subst qEs4; subst qEb
            unfold restS datS cmpS tgtS
            rw [hl]
            rfl)
          go_wp2
          exact bodyPost_ret (results_cmd rfl _ _ W.heap.size _ _ _ _ _ _ rfl (stored6 K9.out.2.2.1 _ _ _ _ _ _)) rfl (CCmd.mk_ K9.out (By.nil _ _) HF.out HG.out rfl CE.out)
        · obtain ⟨b, hb⟩ : ∃ x, x = numS l s2 1 := ⟨_, rfl⟩
          have N := Lib.hid (cnum_any H3.out.1 1)
          rw [← hb] at N
          have Eb := Lib.hid hb
          clear hb
          go_wp2_with fail
          refine N.out.mono ?_
          rintro e wb ⟨rfl, hc⟩
          have K1 := Lib.hid (H3.out.num hc)
          clear hc N H3
          rw [← Eb.out] at hlo
          obtain ⟨s4, hs4⟩ : ∃ x, x = mustS b.2 (decide (b.1 ≤ 1)) 11 := ⟨_, rfl⟩
          have M := Lib.hid (cmust_any K1.out.1 (decide (b.1 ≤ 1)) 11)
          rw [← hs4] at M
          have Es4 := Lib.hid hs4
          have lo : (b.1 == 1) = false := by rw [beq_eq_false_iff_ne]; exact hlo
          have HLO := Lib.hid hlo
          clear hs4 hlo
          go_wp2_with fail
          refine M.out.mono ?_
          rintro e wm ⟨rfl, hc⟩
          have K2 := Lib.hid (K1.out.num hc)
          clear hc M K1
          obtain ⟨x0, x1, x2, x3, x4, x5, xf⟩ := K2.out.cells
          have K3 := Lib.hid (K2.out.set 1 (.bool false) (y' := ⟨3, false, 0, 0, 0, []⟩) (u' := .slice none 0 0) rfl)
          obtain ⟨i, hi⟩ : ∃ x, x = numS l s4 8 := ⟨_, rfl⟩
          have N := Lib.hid (cnum_any K3.out.1 8)
          rw [← hi] at N
          have Ei := Lib.hid hi
          clear hi
          go_wp2_with fail
          refine N.out.mono ?_
          rintro e wi ⟨rfl, hc⟩
          have K4 := Lib.hid (K3.out.num hc)
          clear hc N K2 K3 lo
          clear x0 x1 x2 x3 x4 x5 xf
          obtain ⟨x0, x1, x2, x3, x4, x5, xf⟩ := K4.out.cells
          have K5 := Lib.hid (K4.out.set 2 (.int .i64 i.1) (y' := ⟨3, false, i.1, 0, 0, []⟩) (u' := .slice none 0 0) rfl)
          obtain ⟨g, hg⟩ : ∃ x, x = numS l i.2 8 := ⟨_, rfl⟩
          have N := Lib.hid (cnum_any K5.out.1 8)
          rw [← hg] at N
          have Eg := Lib.hid hg
          clear hg
          go_wp2_with fail
          refine N.out.mono ?_
          rintro e wg ⟨rfl, hc⟩
          have K6 := Lib.hid (K5.out.num hc)
          clear hc N K4 K5
          clear x0 x1 x2 x3 x4 x5 xf
          obtain ⟨x0, x1, x2, x3, x4, x5, xf⟩ := K6.out.cells
          have K7 := Lib.hid (K6.out.set 3 (.int .i64 g.1) (y' := ⟨3, false, i.1, g.1, 0, []⟩) (u' := .slice none 0 0) rfl)
          obtain ⟨c, hc⟩ : ∃ x, x = numS l g.2 8 := ⟨_, rfl⟩
          have N := Lib.hid (cnum_any K7.out.1 8)
          rw [← hc] at N
          have Ec := Lib.hid hc
          clear hc
          go_wp2_with fail
          refine N.out.mono ?_
          rintro e wc ⟨rfl, hc⟩
          have K8 := Lib.hid (K7.out.num hc)
          clear hc N K6 K7
          clear x0 x1 x2 x3 x4 x5 xf
          obtain ⟨x0, x1, x2, x3, x4, x5, xf⟩ := K8.out.cells
          have K9 := Lib.hid (K8.out.set 4 (.int .i64 c.1) (y' := ⟨3, false, i.1, g.1, c.1, []⟩) (u' := .slice none 0 0) rfl)
          clear x0 x1 x2 x3 x4 x5 xf
          obtain ⟨x0, x1, x2, x3, x4, x5, xf⟩ := K8.out.cells
          obtain ⟨r0, r1, r2, r3, r4, r5, rf⟩ := cells6 K8.out.2.2.1
          have cqr : W.heap.size ≠ q := by have := K8.out.2.2.2.1.1.1; omega
          have cqr2 : q ≠ W.heap.size := by omega
          have CE := Lib.hid (show cmdS l s = (⟨3, false, i.1, g.1, c.1, []⟩, c.2) by
            rw [RE.out]
            have hl : (locS l s2).1 = false := by unfold locS; exact decide_eq_false (Eb.out ▸ HLO.out)
            have qEb := Eb.out
            have qEs4 := Es4.out
            have qEi := Ei.out
            have qEg := Eg.out
            have qEc := Ec.out
            subst qEc; subst qEg; subst qEi; subst qEs4; subst qEb
            unfold restS datS cmpS tgtS
            rw [hl]
            rfl)
          go_wp2
          exact bodyPost_ret (results_cmd rfl _ _ W.heap.size _ _ _ _ _ _ rfl (stored6 K9.out.2.2.1 _ _ _ _ _ _)) rfl (CCmd.mk_ K9.out (By.nil _ _) HF.out HG.out rfl CE.out)
  · have e1 : (s2.e != 0) = true := by simp [he]
    have CE := Lib.hid (show cmdS l s = (⟨d, false, 0, 0, 0, []⟩, s2) by rw [HC.out, if_pos (.inl he)])
    clear he ME HC
    go_wp2
    exact bodyPost_ret (results_cmd rfl _ _ W.heap.size _ _ _ _ _ _ rfl (stored6 H3.out.2.2.1 _ _ _ _ _ _)) rfl (CCmd.mk_ H3.out (By.nil _ _) HF.out HG.out rfl CE.out)
end Go.Proofs.Ytfjgbnnjfapcmaa
namespace Go.Proofs.Ytfjgbnnjfapcmaa
open Go.RowKit
set_option maxRecDepth 100000
set_option linter.unusedVariables false

def zeroC : Cmd := ⟨0, false, 0, 0, 0, []⟩
def rs0 : RS := ⟨0, false, 0⟩
/-- What cmd.Get answers: the command, the next place, the error. -/
def getP (b : List UInt8) (at_ : Int) : Cmd × Int × Int :=
  if at_ < 0 ∨ (b.length : Int) < at_ then (zeroC, 0, 2)
  else if (cmdS (b.drop at_.toNat) rs0).2.e ≠ 0 then (zeroC, 0, (cmdS (b.drop at_.toNat) rs0).2.e)
  else ((cmdS (b.drop at_.toNat) rs0).1, (b.length : Int) - (((b.drop at_.toNat).length : Int) - (cmdS (b.drop at_.toNat) rs0).2.k), 0)
def GetPost (W : World) (r : Cmd × Int × Int) (e : Ending) (w' : World) : Prop :=
  ∃ A n c, e = .returned (.tuple #[cmdV r.1 (.slice A n c), .int .i64 r.2.1, .int .i64 r.2.2]) ∧ By w' (fun b => W.heap.size ≤ b) (.slice A n c) r.1.l ∧ Below W.heap.size W w'
theorem results_cmd3 {fn : Func} {p u v : Tmp} (h : fn.results = #[.cell p 83, .tmp u, .tmp v]) (tmps : Array Value) (w : World) (g : Nat) (c0 c1 c2 c3 c4 c5 : Value)
    (hp : tmps.getD p undef = .pointer (some ⟨g, 0, none⟩)) (hg : w.heap[g]? = some (.cells #[c0, c1, c2, c3, c4, c5] 83 (0, 0))) (a b : Value) (ha : tmps.getD u undef = a) (hb : tmps.getD v undef = b) :
    (results fn tmps).run Try.prog w = .ok (.tuple #[.agg #[c0, c1, c2, c3, c4, c5], a, b]) w := by
  have hr := run_loadVar_row (P := Try.prog) w g 83 83 _ (0, 0) _ hg under_cmd rfl size_cmd
  have hp' : tmps[p]?.getD undef = .pointer (some ⟨g, 0, none⟩) := by simpa using hp
  have ha' : tmps[u]?.getD undef = a := by simpa using ha
  have hb' : tmps[v]?.getD undef = b := by simpa using hb
  simp [results, h, hp', ha', hb', asAddr, hr]
theorem By.zero (W : World) (F : Nat → Prop) (A : Option Addr) : By W F (.slice A 0 0) [] := ⟨A, 0, rfl, Nat.le_refl _, Nat.zero_le _, fun _ => rfl, (Rd.nil W F A : Rd W F A 0 [])⟩
set_option maxHeartbeats 4000000 in
theorem cget_any (b : List UInt8) (v : Value) (F : Nat → Prop) (at_ : Int) (w : World) (hv : By w F v b) (hn : b.length ≤ 1099511627776) (hlo : -9223372036854775808 ≤ at_) (hhi : at_ ≤ 9223372036854775807) :
    Calls Try.prog 83 #[v, .int .i64 at_] w (GetPost w (getP b at_)) := by
  by_cases hat : at_ < 0 ∨ (b.length : Int) < at_
  · have E := Lib.hid (show getP b at_ = (zeroC, 0, 2) by unfold getP; rw [if_pos hat])
    obtain ⟨A, c, rfl, -⟩ := hv
    rw [E.out]
    generalize b.length = n at *
    by_cases h0 : at_ < 0
    · clear hat
      go_enter Try.func83, Try.ntmps83
      go_wp2
      exact bodyPost_ret (results_cmd3 rfl _ _ w.heap.size _ _ _ _ _ _ rfl (heap_alloc_new w _) _ _ rfl rfl) rfl ⟨none, 0, 0, rfl, By.nil _ _, by exact (by repeat first | exact Below.refl _ _ | refine Below.setCell ?_ (by first | omega | (simp; done) | (simp; omega)) _ | refine Below.alloc ?_ (by first | omega | (simp; done) | (simp; omega)) _ | refine Below.drew ?_ | refine below_drewN ?_ _ | assumption)⟩
    · have h1 : (n : Int) < at_ := hat.resolve_left h0
      clear hat
      go_enter Try.func83, Try.ntmps83
      go_wp2
      exact bodyPost_ret (results_cmd3 rfl _ _ w.heap.size _ _ _ _ _ _ rfl (heap_alloc_new w _) _ _ rfl rfl) rfl ⟨none, 0, 0, rfl, By.nil _ _, by exact (by repeat first | exact Below.refl _ _ | refine Below.setCell ?_ (by first | omega | (simp; done) | (simp; omega)) _ | refine Below.alloc ?_ (by first | omega | (simp; done) | (simp; omega)) _ | refine Below.drew ?_ | refine below_drewN ?_ _ | assumption)⟩
  obtain ⟨a, rfl⟩ := Int.eq_ofNat_of_zero_le (show 0 ≤ at_ by omega)
  have ha : a ≤ b.length := by omega
  obtain ⟨A, c, rfl, hbc, hcm, hnil, -⟩ := id hv
  obtain ⟨rest, hrest⟩ : ∃ rest, rest = b.drop a := ⟨_, rfl⟩
  have hrl : rest.length = b.length - a := by rw [hrest, List.length_drop]
  obtain ⟨q, hq⟩ : ∃ q, q = cmdS rest rs0 := ⟨_, rfl⟩
  have EE := Lib.hid (show q.2.e ≠ 0 → getP b a = (zeroC, 0, q.2.e) from fun h => by unfold getP; rw [if_neg hat, Int.toNat_natCast, ← hrest, ← hq, if_pos h])
  have EO := Lib.hid (show q.2.e = 0 → getP b a = (q.1, (b.length : Int) - ((rest.length : Int) - q.2.k), 0) from fun h => by unfold getP; rw [if_neg hat, Int.toNat_natCast, ← hrest, ← hq, if_neg (fun h2 => h2 h)])
  obtain ⟨A', hA'⟩ : ∃ A' : Option Addr, A' = if c = a then A else A.map (fun x => x.add a) := ⟨_, rfl⟩
  have RB := Lib.hid (show ∀ W, Keep (fun _ => False) w W → By W F (.slice A' (b.length - a) (c - a)) rest from fun W hk => by
    by_cases hc : c = a
    · have hz : rest = [] := by rw [hrest]; exact List.drop_eq_nil_of_le (by omega)
      rw [hA', if_pos hc, hz, show b.length - a = 0 by omega, show c - a = 0 by omega]
      exact By.zero W F A
    · have := (hv.keep hk (fun _ _ _ h => h)).piece (A' := A') (lo := a) (m := b.length - a) (c' := c - a) (by omega) (fun _ x hx => by rw [hA', if_neg hc, hx]; rfl) (by omega) (by omega) (fun hh => by
        rw [hA', if_neg hc] at hh
        rcases A with _ | x
        · have := hnil rfl; omega
        · cases hh)
      rw [hrest]
      rwa [List.take_of_length_le (by rw [List.length_drop]; omega)] at this)
  have RD := Lib.hid (fun W (hk : Keep (fun _ => False) w W) => read_any rest _ F W (RB.out W hk) (by omega))
  have GP := Lib.hid (show ∀ r, GetPost w r = GetPost w r from fun _ => rfl)
  have f0 : (0 : Int) ≤ (a : Int) := by omega
  have f1 : (a : Int) ≤ (b.length : Int) := by omega
  have HQ := Lib.hid hq
  have hrl2 : (rest.length : Int) = (b.length : Int) - a := by omega
  have HRL := Lib.hid hrl2
  clear hv hrest hrl hq hrl2 hnil hat
  generalize getP b (a : Int) = res at *
  generalize b.length = n at *
  have f2 : (a : Int) ≤ (c : Int) := by omega
  have hac : a ≤ c := by omega
  obtain ⟨y, s⟩ := q
  by_cases hc : c = a
  case' pos => rw [if_pos hc] at hA'; subst hA'; rw [show c - a = 0 by omega] at RD RB
  case' neg => rw [if_neg hc] at hA'; subst hA'
  all_goals
    go_enter Try.func83, Try.ntmps83
    go_wp2_with fail
    refine (RD.out _ (by exact (by repeat first | exact Keep.refl _ _ | refine Keep.alloc ?_ _ | refine Keep.drew ?_ | refine Keep.drewN ?_ _))).mono ?_
    rintro e w1 ⟨rp, rfl, hr, hrp, hb⟩
    have C1 := Lib.hid (show CRd (w1.alloc (.cells #[.pointer (some ⟨rp, 0, none⟩), .int .i64 0] 132)) w1.heap.size rp (fun x => w.heap.size < x ∧ x ≠ rp ∧ x < w1.heap.size) rest rs0 ∧ (w1.alloc (.cells #[.pointer (some ⟨rp, 0, none⟩), .int .i64 0] 132)).heap[w.heap.size]? = some (.cells #[.int .i64 0, .bool false, .int .i64 0, .int .i64 0, .int .i64 0, .slice none 0 0] 83 (0, 0)) ∧ Below w.heap.size w (w1.alloc (.cells #[.pointer (some ⟨rp, 0, none⟩), .int .i64 0] 132)) from
      have hsz := hb.size
      have hz : w.heap.size < w1.heap.size := by simp at hsz; omega
      have hrp2 : rp < w1.heap.size := by obtain ⟨vs, hh, _⟩ := hr; exact (Array.getElem?_eq_some_iff.1 hh).1
      have hrd : Rdr w1 rp (fun x => w.heap.size < x ∧ x ≠ rp ∧ x < w1.heap.size) rest 0 false := rdr_mono2 hr (fun x hx hh => ⟨by have := hh.1; simp at this; omega, hh.2, hx⟩) (by omega)
      ⟨⟨heap_alloc_new w1 _, rdr_keep hrd ((Keep.refl (fun _ => False) w1).alloc _) (fun h => h) (fun _ _ _ h => h), by omega, by omega⟩, (heap_alloc_old w1 _ hz).trans ((hb.block w.heap.size (by simp)).trans (heap_alloc_new w _)), (((Below.refl _ w).alloc (Nat.le_refl _) _).trans (hb.mono (by simp))).alloc (by omega) _⟩)
    have PZ := Lib.hid (show w.heap.size < w1.heap.size ∧ w.heap.size < rp by have := hb.size; simp at this hrp; omega)
    clear hr hrp hb RD
    have CM := Lib.hid (ccmd_any C1.out.1)
    rw [← HQ.out] at CM
    generalize hP : w1.heap.size = P at *
    go_wp2_with fail
    refine CM.out.mono ?_
    rintro e w2 ⟨A2, n2, c2, rfl, hy2, hc2⟩
    unfold cmdV
    have hr2 := (hc2.2.block w.heap.size (Array.getElem?_eq_some_iff.1 C1.out.2.1).1 (by have := PZ.out; omega)).trans C1.out.2.1
    obtain ⟨r0, r1, r2, r3, r4, r5, rf⟩ := cells6 hr2
    have K6 := keepS6 w2 w.heap.size (.int .i64 y.do_) (.bool y.loc) (.int .i64 y.idx) (.int .i64 y.gen) (.int .i64 y.comp) (.slice A2 n2 c2)
    have H2 := Lib.hid (show CRd (((((((w2.setCell ⟨w.heap.size, 0, none⟩ (.int .i64 y.do_)).setCell ⟨w.heap.size, 1, none⟩ (.bool y.loc)).setCell ⟨w.heap.size, 2, none⟩ (.int .i64 y.idx)).setCell ⟨w.heap.size, 3, none⟩ (.int .i64 y.gen)).setCell ⟨w.heap.size, 4, none⟩ (.int .i64 y.comp)).setCell ⟨w.heap.size, 5, none⟩ (.slice A2 n2 c2))) P rp (fun x => w.heap.size < x ∧ x ≠ rp ∧ x < P) rest s ∧ (((((((w2.setCell ⟨w.heap.size, 0, none⟩ (.int .i64 y.do_)).setCell ⟨w.heap.size, 1, none⟩ (.bool y.loc)).setCell ⟨w.heap.size, 2, none⟩ (.int .i64 y.idx)).setCell ⟨w.heap.size, 3, none⟩ (.int .i64 y.gen)).setCell ⟨w.heap.size, 4, none⟩ (.int .i64 y.comp)).setCell ⟨w.heap.size, 5, none⟩ (.slice A2 n2 c2))).heap[w.heap.size]? = some (.cells #[.int .i64 y.do_, .bool y.loc, .int .i64 y.idx, .int .i64 y.gen, .int .i64 y.comp, .slice A2 n2 c2] 83 (0, 0)) ∧ By (((((((w2.setCell ⟨w.heap.size, 0, none⟩ (.int .i64 y.do_)).setCell ⟨w.heap.size, 1, none⟩ (.bool y.loc)).setCell ⟨w.heap.size, 2, none⟩ (.int .i64 y.idx)).setCell ⟨w.heap.size, 3, none⟩ (.int .i64 y.gen)).setCell ⟨w.heap.size, 4, none⟩ (.int .i64 y.comp)).setCell ⟨w.heap.size, 5, none⟩ (.slice A2 n2 c2))) (fun x => w.heap.size < x) (.slice A2 n2 c2) y.l ∧ Below w.heap.size w (((((((w2.setCell ⟨w.heap.size, 0, none⟩ (.int .i64 y.do_)).setCell ⟨w.heap.size, 1, none⟩ (.bool y.loc)).setCell ⟨w.heap.size, 2, none⟩ (.int .i64 y.idx)).setCell ⟨w.heap.size, 3, none⟩ (.int .i64 y.gen)).setCell ⟨w.heap.size, 4, none⟩ (.int .i64 y.comp)).setCell ⟨w.heap.size, 5, none⟩ (.slice A2 n2 c2))) from
      have pz := PZ.out
      ⟨⟨(K6.block P (Array.getElem?_eq_some_iff.1 hc2.1.1).1 (by omega)).trans hc2.1.1, rdr_keep hc2.1.2.1 K6 (by omega) (fun x _ h e => by omega), hc2.1.2.2.1, hc2.1.2.2.2⟩, stored6 hr2 _ _ _ _ _ _,
        (hy2.mono (G := fun x => w.heap.size < x) (fun x _ h => by simp [hP] at h; omega)).keep K6 (fun x _ h e => by omega), (((Keep.of_below C1.out.2.2).trans hc2.2 (fun x _ e => by omega)).trans K6 (fun x _ e => by omega)).to_below (Nat.le_refl _)⟩)
    clear K6 hy2 hc2 hr2
    go_upto_region 5 with fail
    refine wp_world (S := fun X => CRd X P rp (fun x => w.heap.size < x ∧ x ≠ rp ∧ x < P) rest s ∧ X.heap[w.heap.size]? = some (.cells #[.int .i64 y.do_, .bool y.loc, .int .i64 y.idx, .int .i64 y.gen, .int .i64 y.comp, .slice A2 n2 c2] 83 (0, 0)) ∧ By X (fun x => w.heap.size < x) (.slice A2 n2 c2) y.l ∧ Below w.heap.size w X) H2.out ?_
    clear H2 r0 r1 r2 r3 r4 r5 rf CM C1
    intro X hX
    have HX := Lib.hid hX
    clear hX
    obtain ⟨c0, c1, cf⟩ := cells2 HX.out.1.1
    obtain ⟨r0, r1, r2, r3, r4, r5, rf⟩ := cells6 HX.out.2.1
    have pz := PZ.out.1
    have cPr : P ≠ w.heap.size := by omega
    have cPr2 : w.heap.size ≠ P := by omega
    clear pz
    by_cases he : s.e = 0
    · have e1 : (s.e != 0) = false := by simp [he]
      have EOh := EO.out he
      have LF := Lib.hid (fun W' (hk : Keep (fun x => x = w.heap.size) X W') => rleft_any (rdr_keep HX.out.1.2.1 hk (by have := PZ.out; omega) (fun x _ h e => by omega)))
      have hkl : s.k ≤ rest.length := by obtain ⟨_, _, _, _, h, _⟩ := HX.out.1.2.1; exact h
      have hrl := HRL.out
      clear e1
      clear EO EE
      generalize s.k = sk at *
      generalize rest.length = rl at *
      have ew : IntKind.i64.wrap ((n : Int) - ((rl : Int) - sk)) = (n : Int) - ((rl : Int) - sk) := IntWalk.i64_in _ (by omega)
      have EH := Lib.hid EOh
      clear EOh hrl
      have hr7 := Lib.hid (show ∀ W', Keep (fun x => x = w.heap.size) X W' → W'.heap[w.heap.size]? = some (.cells #[.int .i64 y.do_, .bool y.loc, .int .i64 y.idx, .int .i64 y.gen, .int .i64 y.comp, .slice A2 n2 c2] 83 (0, 0)) → (W'.cell? ⟨w.heap.size, 0, none⟩ = some (.int .i64 y.do_) ∧ W'.cell? ⟨w.heap.size, 1, none⟩ = some (.bool y.loc) ∧ W'.cell? ⟨w.heap.size, 2, none⟩ = some (.int .i64 y.idx) ∧ W'.cell? ⟨w.heap.size, 3, none⟩ = some (.int .i64 y.gen) ∧ W'.cell? ⟨w.heap.size, 4, none⟩ = some (.int .i64 y.comp) ∧ W'.cell? ⟨w.heap.size, 5, none⟩ = some (.slice A2 n2 c2) ∧ W'.cell? ⟨P, 0, none⟩ = some (.pointer (some ⟨rp, 0, none⟩)) ∧ Keep (fun x => x = w.heap.size) X W') from fun W' hk hh => ⟨(cells6 hh).1, (cells6 hh).2.1, (cells6 hh).2.2.1, (cells6 hh).2.2.2.1, (cells6 hh).2.2.2.2.1, (cells6 hh).2.2.2.2.2.1, hk.cell cPr c0, hk⟩)
      go_upto_region 7 with fail
      go_region_held3 (fun W' => W'.cell? ⟨w.heap.size, 0, none⟩ = some (.int .i64 y.do_) ∧ W'.cell? ⟨w.heap.size, 1, none⟩ = some (.bool y.loc) ∧ W'.cell? ⟨w.heap.size, 2, none⟩ = some (.int .i64 y.idx) ∧ W'.cell? ⟨w.heap.size, 3, none⟩ = some (.int .i64 y.gen) ∧ W'.cell? ⟨w.heap.size, 4, none⟩ = some (.int .i64 y.comp) ∧ W'.cell? ⟨w.heap.size, 5, none⟩ = some (.slice A2 n2 c2) ∧ W'.cell? ⟨P, 0, none⟩ = some (.pointer (some ⟨rp, 0, none⟩)) ∧ Keep (fun x => x = w.heap.size) X W') ((refine hr7.out _ ?_ ?_; (focus (repeat (with_reducible refine Keep.drew ?_)); first | (with_reducible exact Keep.refl _ _) | (with_reducible exact keepS6 _ _ _ _ _ _ _ _)); (focus (try simp only [heap_drew']); first | (with_reducible exact HX.out.2.1) | (with_reducible exact stored6 HX.out.2.1 _ _ _ _ _ _))))
        (first
          | (go_at_call 85; (with_reducible refine (LF.out _ (by repeat first | exact Keep.refl _ _ | refine Keep.drew ?_)).mono ?_); rintro e w7 ⟨rfl, rfl⟩)
          | fail)
      go_wp2
      have KK := keepS6 X w.heap.size (.int .i64 y.do_) (.bool y.loc) (.int .i64 y.idx) (.int .i64 y.gen) (.int .i64 y.comp) (.slice A2 n2 c2)
      have HS := stored6 HX.out.2.1 (.int .i64 y.do_) (.bool y.loc) (.int .i64 y.idx) (.int .i64 y.gen) (.int .i64 y.comp) (.slice A2 n2 c2)
      generalize ((((((X.setCell ⟨w.heap.size, 0, none⟩ (.int .i64 y.do_)).setCell ⟨w.heap.size, 1, none⟩ (.bool y.loc)).setCell ⟨w.heap.size, 2, none⟩ (.int .i64 y.idx)).setCell ⟨w.heap.size, 3, none⟩ (.int .i64 y.gen)).setCell ⟨w.heap.size, 4, none⟩ (.int .i64 y.comp)).setCell ⟨w.heap.size, 5, none⟩ (.slice A2 n2 c2)) = W7 at KK HS ⊢
      refine bodyPost_ret (results_cmd3 rfl _ _ w.heap.size _ _ _ _ _ _ rfl (show W7.drew.drew.heap[w.heap.size]? = _ from HS) _ _ rfl rfl) rfl ?_
      rw [EH.out]
      exact ⟨A2, n2, c2, rfl, (HX.out.2.2.1.keep KK.drew.drew (fun x _ h e => by omega)).mono (fun x _ h => by omega), ((Keep.of_below HX.out.2.2.2).trans KK.drew.drew (fun x _ e => by omega)).to_below (Nat.le_refl _)⟩
    · have e1 : (s.e != 0) = true := by simp [he]
      have EH := Lib.hid (EE.out he)
      clear he EO EE
      go_upto_region 6 with fail
      go_region
      go_wp2
      have KK := keepS6 X w.heap.size (.int .i64 0) (.bool false) (.int .i64 0) (.int .i64 0) (.int .i64 0) (.slice none 0 0)
      have HS := stored6 HX.out.2.1 (.int .i64 0) (.bool false) (.int .i64 0) (.int .i64 0) (.int .i64 0) (.slice none 0 0)
      generalize ((((((X.setCell ⟨w.heap.size, 0, none⟩ (.int .i64 0)).setCell ⟨w.heap.size, 1, none⟩ (.bool false)).setCell ⟨w.heap.size, 2, none⟩ (.int .i64 0)).setCell ⟨w.heap.size, 3, none⟩ (.int .i64 0)).setCell ⟨w.heap.size, 4, none⟩ (.int .i64 0)).setCell ⟨w.heap.size, 5, none⟩ (.slice none 0 0)) = W7 at KK HS ⊢
      refine bodyPost_ret (results_cmd3 rfl _ _ w.heap.size _ _ _ _ _ _ rfl (show W7.drew.heap[w.heap.size]? = _ from HS) _ _ rfl rfl) rfl ?_
      rw [EH.out]
      exact ⟨none, 0, 0, rfl, By.nil _ _, ((Keep.of_below HX.out.2.2.2).trans KK.drew (fun x _ e => by omega)).to_below (Nat.le_refl _)⟩
end Go.Proofs.Ytfjgbnnjfapcmaa
namespace Go.Proofs.Ytfjgbnnjfapcmaa
open Go.RowKit
set_option maxRecDepth 100000
set_option linter.unusedVariables false

theorem addr_add (g o k : Nat) : (⟨g, o, none⟩ : Addr).add k = ⟨g, o + k, none⟩ := by unfold Addr.add; split <;> simp_all
theorem By.tail {W : World} {F : Nat → Prop} {A : Option Addr} {n c a : Nat} {b : List UInt8} (hv : By W F (.slice A n c) b) (ha : a ≤ b.length) : By W F (.slice (if c = a then A else A.map (fun x => x.add a)) (b.length - a) (c - a)) (b.drop a) := by
  obtain ⟨A0, c0, e, hbc, hcm, hnil, -⟩ := id hv
  injection e with e1 e2 e3
  subst e1 e3
  by_cases hc : c = a
  · have hz : b.drop a = [] := List.drop_eq_nil_of_le (by omega)
    rw [if_pos hc, hz, show b.length - a = 0 by omega, show c - a = 0 by omega]
    exact By.zero W F A
  · have := hv.piece (A' := A.map (fun x => x.add a)) (lo := a) (m := b.length - a) (c' := c - a) (by omega) (fun _ x hx => by rw [hx]; rfl) (by omega) (by omega) (fun hh => by
      rcases A with _ | x
      · have := hnil rfl; omega
      · cases hh)
    rw [if_neg hc]
    rwa [List.take_of_length_le (by rw [List.length_drop]; omega)] at this
end Go.Proofs.Ytfjgbnnjfapcmaa

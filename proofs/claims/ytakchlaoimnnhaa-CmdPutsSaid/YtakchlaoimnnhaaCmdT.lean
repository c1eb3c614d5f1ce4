/- Contract of cmd.reader's cmd. -/
import Derived.Test.YtakchlaoimnnhaaCmdS
namespace Go.Proofs.Ytakchlaoimnnhaa
open Go.RowKit
set_option maxRecDepth 100000
set_option linter.unusedVariables false

def tgtS (l : List UInt8) (s : RS) (loc : Bool) : (Int × Int) × RS :=
  if loc = true then (((numS l s 8).1, 0), (numS l s 8).2) else (((numS l s 8).1, (numS l (numS l s 8).2 8).1), (numS l (numS l s 8).2 8).2)
def cmpS (l : List UInt8) (s : RS) (d : Int) : Int × RS := if d = 1 then (0, s) else numS l s 8
def lenS (l : List UInt8) (s : RS) : Int × RS := ((numS l s 2).1, mustS (numS l s 2).2 (decide ((numS l s 2).1 ≤ 64)) 13)
def datS (l : List UInt8) (s : RS) (d : Int) : List UInt8 × RS :=
  if d = 2 then ((bytesR l (lenS l s).2.k (lenS l s).2.bad (lenS l s).1).1, mustS ⟨(bytesR l (lenS l s).2.k (lenS l s).2.bad (lenS l s).1).2.1, (bytesR l (lenS l s).2.k (lenS l s).2.bad (lenS l s).1).2.2, (lenS l s).2.e⟩ (!(bytesR l (lenS l s).2.k (lenS l s).2.bad (lenS l s).1).2.2) 12) else ([], s)
def doS (l : List UInt8) (s : RS) : Int × RS := ((numS l s 1).1, mustS (numS l s 1).2 (knownC (numS l s 1).1) 11)
def locS (l : List UInt8) (s : RS) : Bool × RS := (decide ((numS l s 1).1 = 1), mustS (numS l s 1).2 (decide ((numS l s 1).1 ≤ 1)) 11)
def restS (l : List UInt8) (s : RS) (d : Int) : Cmd × RS :=
  (⟨d, (locS l s).1, (tgtS l (locS l s).2 (locS l s).1).1.1, (tgtS l (locS l s).2 (locS l s).1).1.2, (cmpS l (tgtS l (locS l s).2 (locS l s).1).2 d).1, (datS l (cmpS l (tgtS l (locS l s).2 (locS l s).1).2 d).2 d).1⟩,
    (datS l (cmpS l (tgtS l (locS l s).2 (locS l s).1).2 d).2 d).2)
def cmdS (l : List UInt8) (s : RS) : Cmd × RS := if (doS l s).2.e ≠ 0 ∨ (doS l s).1 = 0 then (⟨(doS l s).1, false, 0, 0, 0, []⟩, (doS l s).2) else restS l (doS l s).2 (doS l s).1
theorem numR2_bd (l : List UInt8) (k : Nat) (bad : Bool) : 0 ≤ (numR l k bad 2).1 ∧ (numR l k bad 2).1 ≤ 65535 := by
  unfold numR
  split
  · exact ⟨Int.le_refl _, by show (0 : Int) ≤ 65535; decide⟩
  · split
    · rename_i h
      unfold getZ
      rw [if_pos h]
      have h1 := getN_lt (pieceOf l (k : Int).toNat (wideN 2))
      have h2 : (pieceOf l (k : Int).toNat (wideN 2)).length ≤ 2 := List.length_take_le _ _
      have h3 : 256 ^ (pieceOf l (k : Int).toNat (wideN 2)).length ≤ 256 ^ 2 := Nat.pow_le_pow_right (by decide) h2
      have h4 : getN (pieceOf l (k : Int).toNat (wideN 2)) < 65536 := by omega
      show 0 ≤ wrap64 (getN (pieceOf l (k : Int).toNat (wideN 2)) : Nat) ∧ wrap64 (getN (pieceOf l (k : Int).toNat (wideN 2)) : Nat) ≤ 65535
      generalize getN (pieceOf l (k : Int).toNat (wideN 2)) = x at *
      rw [show wrap64 (x : Int) = x by unfold wrap64; omega]
      omega
    · exact ⟨Int.le_refl _, by show (0 : Int) ≤ 65535; decide⟩
theorem mustS_e {s : RS} {is : Bool} {z : Int} (hz : z ≠ 0) (h : (mustS s is z).e = 0) : is = true ∧ mustS s is z = s := by
  unfold mustS at h ⊢
  split at h
  · exact absurd h hz
  · rename_i hn
    rw [if_neg hn]
    refine ⟨?_, rfl⟩
    cases is
    · exact absurd ⟨rfl, h⟩ hn
    · rfl
theorem rdr_mono2 {w : World} {p : Nat} {F G : Nat → Prop} {l : List UInt8} {k : Nat} {bad : Bool} (h : Rdr w p F l k bad) (hf : ∀ b, b < w.heap.size → F b → G b) (hp : ¬ G p) : Rdr w p G l k bad := by
  obtain ⟨vs, h1, h2, h3, h4⟩ := h
  exact ⟨vs, h1, h2.mono hf, hp, h4⟩
theorem rdr_mono' {w : World} {p : Nat} {F G : Nat → Prop} {l : List UInt8} {k : Nat} {bad : Bool} (h : Rdr w p F l k bad) (hf : ∀ b, F b → G b) (hp : ¬ G p) : Rdr w p G l k bad := by
  obtain ⟨vs, h1, h2, h3, h4⟩ := h
  exact ⟨vs, h1, h2.mono (fun b _ h => hf b h), hp, h4⟩
/-- Where it stands: the command's box q, the result in W's next block. -/
def CSt (W Wi : World) (P rp : Nat) (F : Nat → Prop) (l : List UInt8) (s : RS) (q : Nat) (y : Cmd) (u : Value) : Prop :=
  CRd Wi P rp F l s ∧ Wi.heap[q]? = some (.cells #[.int .i64 y.do_, .bool y.loc, .int .i64 y.idx, .int .i64 y.gen, .int .i64 y.comp, u] 39 (0, 0)) ∧
    Wi.heap[W.heap.size]? = some (.cells #[.int .i64 0, .bool false, .int .i64 0, .int .i64 0, .int .i64 0, .slice none 0 0] 39 (0, 0)) ∧ ((W.heap.size < q ∧ P < W.heap.size ∧ rp < W.heap.size) ∧ ∀ b, F b → b < W.heap.size) ∧ Keep (fun b => b = P ∨ b = rp) W Wi
section
variable {W Wi Wj : World} {P rp : Nat} {F : Nat → Prop} {l : List UInt8} {s s' : RS} {q : Nat} {y : Cmd} {u : Value}
theorem CSt.num (h : CSt W Wi P rp F l s q y u) (k : CTo Wi P rp F l s' Wj) : CSt W Wj P rp F l s' q y u := by
  obtain ⟨h1, h2, h3, h4, h5⟩ := h
  exact ⟨k.1, (k.2.block q (Array.getElem?_eq_some_iff.1 h2).1 (by omega)).trans h2, (k.2.block _ (Array.getElem?_eq_some_iff.1 h3).1 (by omega)).trans h3, h4, h5.trans k.2 (fun _ _ h => h)⟩
theorem CSt.set (h : CSt W Wi P rp F l s q y u) (i : Nat) (v : Value) {y' : Cmd} {u' : Value}
    (he : (#[.int .i64 y.do_, .bool y.loc, .int .i64 y.idx, .int .i64 y.gen, .int .i64 y.comp, u] : Array Value).setIfInBounds i v = #[.int .i64 y'.do_, .bool y'.loc, .int .i64 y'.idx, .int .i64 y'.gen, .int .i64 y'.comp, u']) : CSt W (Wi.setCell ⟨q, i, none⟩ v) P rp F l s q y' u' := by
  obtain ⟨h1, h2, h3, h4, h5⟩ := h
  have hk : Keep (fun b => b = q) Wi (Wi.setCell ⟨q, i, none⟩ v) := Keep.setCell (S := fun b => b = q) (p := ⟨q, i, none⟩) (Keep.refl _ Wi) (.inr rfl) _
  refine ⟨⟨(hk.block P (Array.getElem?_eq_some_iff.1 h1.1).1 (by omega)).trans h1.1, rdr_keep h1.2.1 hk (by omega) (fun b _ hF e => by have := h4.2 b hF; omega), h1.2.2.1, h1.2.2.2⟩, by rw [heap_setCell_same Wi q i _ _ v h2, he], (hk.block _ (Array.getElem?_eq_some_iff.1 h3).1 (by omega)).trans h3, h4, h5.trans hk (fun b hb e => by omega)⟩
theorem CSt.cells (h : CSt W Wi P rp F l s q y u) : Wi.cell? ⟨q, 0, none⟩ = some (.int .i64 y.do_) ∧ Wi.cell? ⟨q, 1, none⟩ = some (.bool y.loc) ∧ Wi.cell? ⟨q, 2, none⟩ = some (.int .i64 y.idx) ∧ Wi.cell? ⟨q, 3, none⟩ = some (.int .i64 y.gen) ∧ Wi.cell? ⟨q, 4, none⟩ = some (.int .i64 y.comp) ∧ Wi.cell? ⟨q, 5, none⟩ = some u ∧ ∀ i, Wi.frozen? ⟨q, i, none⟩ = false := cells6 h.2.1
end
theorem under_cmd : Try.prog.underlying 39 = some (.struct (Try.prog.fieldsOf 39)) := by kernel_rfl
theorem size_cmd : (Try.prog.info? 39).map (·.size) = some 6 := by kernel_rfl
/-- What it leaves. -/
def CCmd (W : World) (P rp : Nat) (F : Nat → Prop) (l : List UInt8) (r : Cmd × RS) (e : Ending) (w' : World) : Prop :=
  ∃ A n c, e = .returned (cmdV r.1 (.slice A n c)) ∧ By w' (fun b => W.heap.size ≤ b) (.slice A n c) r.1.l ∧ CTo W P rp F l r.2 w'
/-- Behind the last store: the box is handed back. -/
theorem CSt.done {W Wi : World} {P rp : Nat} {F G : Nat → Prop} {l : List UInt8} {s : RS} {q : Nat} {y : Cmd} {A : Option Addr} {n c : Nat} (h : CSt W Wi P rp F l s q y (.slice A n c)) (hy : By Wi (fun b => W.heap.size < b) (.slice A n c) y.l) (hF : ∀ b, F b → G b) (hG : ¬ G P ∧ ¬ G rp) {wf : World}
    (hwf : wf = (((((Wi.setCell ⟨W.heap.size, 0, none⟩ (.int .i64 y.do_)).setCell ⟨W.heap.size, 1, none⟩ (.bool y.loc)).setCell ⟨W.heap.size, 2, none⟩ (.int .i64 y.idx)).setCell ⟨W.heap.size, 3, none⟩ (.int .i64 y.gen)).setCell ⟨W.heap.size, 4, none⟩ (.int .i64 y.comp)).setCell ⟨W.heap.size, 5, none⟩ (.slice A n c)) :
    wf.heap[W.heap.size]? = some (.cells #[.int .i64 y.do_, .bool y.loc, .int .i64 y.idx, .int .i64 y.gen, .int .i64 y.comp, .slice A n c] 39 (0, 0)) ∧ By wf (fun b => W.heap.size ≤ b) (.slice A n c) y.l ∧ CTo W P rp G l s wf := by
  obtain ⟨h1, h2, h3, h4, h5⟩ := h
  subst hwf
  have hk := keepS6 Wi W.heap.size (.int .i64 y.do_) (.bool y.loc) (.int .i64 y.idx) (.int .i64 y.gen) (.int .i64 y.comp) (.slice A n c)
  exact ⟨stored6 h3 _ _ _ _ _ _, (hy.keep hk (fun b _ h e => by omega)).mono (fun b _ h => by omega),
    ⟨⟨(hk.block P (Array.getElem?_eq_some_iff.1 h1.1).1 (by omega)).trans h1.1, rdr_mono' (rdr_keep h1.2.1 hk (by omega) (fun b _ hF e => by have := h4.2 b hF; omega)) hF hG.2, h1.2.2.1, hG.1⟩, h5.trans hk (fun b hb e => by omega)⟩⟩
end Go.Proofs.Ytakchlaoimnnhaa

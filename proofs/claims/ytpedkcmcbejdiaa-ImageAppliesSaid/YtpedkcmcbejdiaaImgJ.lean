/- Contract of image.Apply. -/
import Derived.Test.YtpedkcmcbejdiaaImgI
namespace Go.Proofs.Ytpedkcmcbejdiaa
open Go.RowKit
set_option maxRecDepth 100000
set_option linter.unusedVariables false
set_option linter.unusedSimpArgs false

def setAt (out : List UInt8) (i : Nat) (r : List UInt8) : List UInt8 := out.take (512 * i) ++ r ++ out.drop (512 * i + 512)
/-- What the entries from a place on make of bytes. -/
def appL : Nat → List UInt8 → Nat → Nat → Int → List UInt8 → Int × List UInt8
  | 0, _, _, _, _, out => (0, out)
  | f + 1, p, k, n, z, out =>
    if p.length ≤ k then (0, out) else if p.length < k + 514 then (12, [])
    else if n ≤ getN (pieceOf p k 2) ∨ (getN (pieceOf p k 2) : Int) ≤ z then (2, [])
    else appL f p (k + 514) n (getN (pieceOf p k 2)) (setAt out (getN (pieceOf p k 2)) (pieceOf p (k + 2) 512))
/-- A patch, applied to a disk's bytes. -/
def appI (a p : List UInt8) : Int × List UInt8 :=
  if p.length < 2 then (12, []) else if 4096 < getN (pieceOf p 0 2) then (11, []) else appL p.length p 2 (getN (pieceOf p 0 2)) (-1) (cutB a (512 * getN (pieceOf p 0 2)))
theorem setAt_len {out r : List UInt8} {i n : Nat} (ho : out.length = 512 * n) (hr : r.length = 512) (hi : i < n) : (setAt out i r).length = 512 * n := by
  unfold setAt
  rw [List.length_append, List.length_append, List.length_take, List.length_drop, ho, hr]; omega
/-- m bytes that a call made, all of their block. -/
def AllSt (W : World) (B : Nat) (v : Value) (m : Nat) (out : List UInt8) : Prop :=
  out.length = m ∧ m ≤ 2097152 ∧ ∃ A, v = .slice A m m ∧ (A = none → m = 0) ∧ (0 < m → ∃ g, A = some ⟨g, 0, none⟩ ∧ B ≤ g ∧ W.heap[g]? = some (.cells (bv out).toArray 5 (0, 0)))
section
variable {W W' : World} {B m : Nat} {v : Value} {out : List UInt8} {S : Nat → Prop}
theorem AllSt.keep (h : AllSt W B v m out) (hk : Keep S W W') (hs : ∀ b, B ≤ b → b < W.heap.size → ¬ S b) : AllSt W' B v m out := by
  obtain ⟨h1, h2, A, h3, h4, h5⟩ := h
  refine ⟨h1, h2, A, h3, h4, fun hm => ?_⟩
  obtain ⟨g, e, hb, hg⟩ := h5 hm
  have hl := (Array.getElem?_eq_some_iff.1 hg).1
  exact ⟨g, e, hb, (hk.block g hl (hs g hb hl)).trans hg⟩
theorem AllSt.by_ (h : AllSt W B v m out) : By W (fun x => B ≤ x) v out := by
  obtain ⟨h1, h2, A, rfl, h4, h5⟩ := h
  refine ⟨A, m, by rw [h1], by omega, by unfold maxLen; omega, fun e => h4 e, ⟨by rw [bv_len, Nat.mul_one], fun hm => ?_⟩⟩
  obtain ⟨g, e, hb, hg⟩ := h5 (by omega)
  refine ⟨g, 0, e, hb, fun i u hu => ?_⟩
  rw [Nat.zero_add, cell_of_row W g i _ _ _ hg]
  simpa using hu
theorem AllSt.of_own {A : Option Addr} (h : Own W B 5 1 (.slice A m m) m (bv out)) (hA : A = none → m = 0) (hm : m ≤ 2097152) : AllSt W B (.slice A m m) m out := by
  obtain ⟨hl, A', c', e, _, _, hg⟩ := h
  injection e with e1 e2 e3
  subst e1 e3
  rw [bv_len, Nat.mul_one] at hl
  refine ⟨hl, hm, A, rfl, hA, fun h0 => ?_⟩
  obtain ⟨g, cur, rfl, hb, hgg, hcs, htk⟩ := hg h0
  refine ⟨g, rfl, hb, ?_⟩
  rw [hgg]
  have : cur = (bv out).toArray := by
    apply Array.ext'
    rw [← htk, List.take_of_length_le (by rw [Array.length_toList, hcs]; exact Nat.le_refl _)]
  rw [this]
/-- Behind a copy of 512 bytes. -/
theorem AllSt.set {g i n : Nat} {r : List UInt8} (h : AllSt W B (.slice (some ⟨g, 0, none⟩) m m) m out) (hm : m = 512 * n) (hi : i < n) (hr : r.length = 512) (hl : Laid W W' g (512 * i) (bv out).toArray (bv r)) : AllSt W' B (.slice (some ⟨g, 0, none⟩) m m) m (setAt out i r) ∧ Keep (fun x => x = g) W W' ∧ B ≤ g ∧ g < W.heap.size := by
  obtain ⟨h1, h2, A, e, h4, h5⟩ := h
  injection e with e1 e2 e3
  subst e1
  obtain ⟨g', e', hb, hg⟩ := h5 (by omega)
  injection e' with e'
  injection e' with e'
  subst e'
  refine ⟨⟨by rw [setAt_len (n := n) (by omega) hr hi]; omega, h2, _, rfl, (fun e => by cases e), fun _ => ⟨g, rfl, hb, ?_⟩⟩, hl.keep, hb, (Array.getElem?_eq_some_iff.1 hg).1⟩
  rw [hl.block hg]
  have : splice (bv out).toArray.toList (512 * i) (bv r) = bv (setAt out i r) := by
    unfold splice setAt
    rw [bv_len, hr]
    simp [bv]
  rw [this]
end
/-- The place of the reader in block q. -/
def plW (W : World) (q : Nat) : Nat := match W.cell? ⟨q, 1, none⟩ with
  | some (.int _ z) => z.toNat
  | _ => 0
theorem plW_of {W : World} {q : Nat} {F : Nat → Prop} {l : List UInt8} {k : Nat} {bad : Bool} (h : Rdr W q F l k bad) : plW W q = k := by
  obtain ⟨vs, h1, _⟩ := h
  obtain ⟨_, x1, _, _⟩ := cells3 h1
  unfold plW
  rw [x1]
  simp
structure ApSt (w W : World) (q : Nat) (F : Nat → Prop) (B : Nat) (p : List UInt8) (k : Nat) (v : Value) (m : Nat) (out : List UInt8) (n : Nat) (z : Int) (res : Int × List UInt8) : Prop where
  rd : Rdr W q F p k false
  all : AllSt W B v m out
  below : Below w.heap.size w W
  hB : B ≤ W.heap.size
  ans : ∃ f, p.length - k ≤ f ∧ appL f p k n z out = res
theorem ApSt.next {w W : World} {q : Nat} {F : Nat → Prop} {B : Nat} {p : List UInt8} {k : Nat} {v : Value} {m : Nat} {out : List UInt8} {n : Nat} {z : Int} {res : Int × List UInt8} (h : ApSt w W q F B p k v m out n z res) : (p.length ≤ k ∧ res = (0, out)) ∨ (k < p.length ∧ ∃ f, p.length - k ≤ f + 1 ∧ res = (if p.length < k + 514 then (12, [])
    else if n ≤ getN (pieceOf p k 2) ∨ (getN (pieceOf p k 2) : Int) ≤ z then (2, [])
    else appL f p (k + 514) n (getN (pieceOf p k 2)) (setAt out (getN (pieceOf p k 2)) (pieceOf p (k + 2) 512)))) := by
  obtain ⟨f, hf, hr⟩ := h.ans
  by_cases hk : p.length ≤ k
  · refine .inl ⟨hk, ?_⟩
    rw [← hr]
    cases f with
    | zero => rfl
    | succ f => unfold appL; rw [if_pos hk]
  · obtain ⟨f, rfl⟩ : ∃ g, f = g + 1 := ⟨f - 1, by omega⟩
    refine .inr ⟨by omega, f, hf, ?_⟩
    unfold appL at hr
    rw [if_neg hk] at hr
    exact hr.symm
end Go.Proofs.Ytpedkcmcbejdiaa

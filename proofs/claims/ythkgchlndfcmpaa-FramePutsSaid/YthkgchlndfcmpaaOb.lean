/- Bytes that a call builds: its append, whatever the source; numbers as bytes. -/
import Derived.Test.YthkgchlndfcmpaaArgS
import Derived.Test.YthkgchlndfcmpaaLe2
namespace Go.Proofs.Ythkgchlndfcmpaa
open Go.RowKit
set_option maxRecDepth 100000
set_option linter.unusedVariables false

/-- v holds the bytes l, in memory of its own from block B on (or it has no room at all). -/
def Ob (W : World) (B : Nat) (v : Value) (l : List UInt8) : Prop := ∃ n, Own W B 5 1 v n (bv l)
section
variable {W W' : World} {B B' : Nat} {v : Value} {l m : List UInt8} {S : Nat → Prop}
theorem Ob.form (h : Ob W B v l) : ∃ A n c, v = .slice A n c := by
  obtain ⟨n, h⟩ := h
  obtain ⟨A, c, e, _⟩ := h.form
  exact ⟨A, n, c, e⟩
theorem Ob.by_ (h : Ob W B v l) : By W (fun k => B ≤ k) v l := by
  obtain ⟨n, h⟩ := h
  exact sl_by h.sl
theorem Ob.keep (h : Ob W B v l) (hk : Keep S W W') (hs : ∀ k, ownB v = some k → B ≤ k → k < W.heap.size → ¬ S k) : Ob W' B v l := by
  obtain ⟨n, h⟩ := h
  exact ⟨n, h.keep hk (fun k e => hs k e (h.ownB k e).1 (h.ownB k e).2)⟩
theorem Ob.same (h : Ob W B v l) (hk : Keep (fun _ => False) W W') : Ob W' B v l := h.keep hk (fun _ _ _ _ h => h)
theorem Ob.ownB_ (h : Ob W B v l) : ∀ k, ownB v = some k → B ≤ k ∧ k < W.heap.size := by
  obtain ⟨n, h⟩ := h
  exact h.ownB
theorem Ob.mono (h : Ob W B v l) (hb : B' ≤ B) : Ob W B' v l := by
  obtain ⟨n, h⟩ := h
  exact ⟨n, h.mono hb⟩
theorem Ob.nil (W : World) (B : Nat) (A : Option Addr) : Ob W B (.slice A 0 0) [] := ⟨0, Own.none_ _ _ _ _ _⟩
theorem Ob.len {A : Option Addr} {n c : Nat} (h : Ob W B (.slice A n c) l) : n = l.length := by
  obtain ⟨k, h⟩ := h
  have h1 := h.1
  obtain ⟨_, _, _, e, _⟩ := h
  injection e with _ e2 _
  rw [bv_len] at h1
  omega
/-- What an append onto it leaves. -/
theorem Ob.keeps (h : Ob W B v l) (hk : Keep (fun k => ownB v = some k) W W') : Keep (fun k => B ≤ k) W W' := hk.mono fun k _ e => (h.ownB_ k e).1
end
theorem step_app {ops : Array Oper} {o : Oper} {a : Act} {w : World} {K : Act → World → Prop} {Q : Exit → Act → World → Prop} {E : Prop} (hgd : Region.wanted o (yielded ops a.tmps) = true) (s x : Operand)
    (ho : o.op = .call { callee := .builtin .append, args := #[s, x], argTypes := #[37, 37] }) (B : Nat) (v : Value) (l : List UInt8) (hv : a.eval s = v) (hob : Ob w B v l)
    (F : Nat → Prop) (y : Value) (m : List UInt8) (hy : a.eval x = y) (hby : By w F y m) (h40 : l.length + m.length ≤ 140737488355328) (hB : B ≤ w.heap.size)
    (h : ∀ A n c w', Ob w' B (.slice A n c) (l ++ m) → Keep (fun k => ownB v = some k) w w' → K (a.put o.dst (.slice A n c)) w') :
    if Region.wanted o (yielded ops a.tmps) = true then Oper.wp Try.prog o a w K Q else E := by
  obtain ⟨ib, hib, hb0, hb1, hb2⟩ := info_parts info_byte
  obtain ⟨n, hown⟩ := hob
  have hn : n = l.length := by have := hown.1; rw [bv_len] at this; omega
  subst hn
  refine step_append_gen w hgd s x _ _ ho B 5 ib _ 1 1 Try.underlying37 hib hb0 hb1 hb2 rfl v _ (bv l) hv hown y m.length (bv m) hy (By.src hby Try.underlying37) (by unfold maxLen; omega) (by omega) hB ?_
  intro v' w' ho' hk _
  obtain ⟨A, c, rfl, _⟩ := ho'.form
  exact h A _ c w' ⟨_, by rw [bv_append]; exact ho'⟩ hk
theorem wpList_app {ops : Array Oper} {rest : List Oper} {o : Oper} {a : Act} {w : World} {Q : Exit → Act → World → Prop} (hgd : Region.wanted o (yielded ops a.tmps) = true) (s x : Operand)
    (ho : o.op = .call { callee := .builtin .append, args := #[s, x], argTypes := #[37, 37] }) (B : Nat) (v : Value) (l : List UInt8) (hv : a.eval s = v) (hob : Ob w B v l)
    (F : Nat → Prop) (y : Value) (m : List UInt8) (hy : a.eval x = y) (hby : By w F y m) (h40 : l.length + m.length ≤ 140737488355328) (hB : B ≤ w.heap.size)
    (h : ∀ A n c w', Ob w' B (.slice A n c) (l ++ m) → Keep (fun k => ownB v = some k) w w' → wpList Try.prog ops Q rest (a.put o.dst (.slice A n c)) w') : wpList Try.prog ops Q (o :: rest) a w :=
  wpList_step fun _ hK => step_app hgd s x ho B v l hv hob F y m hy hby h40 hB fun A n c w' h1 h2 => hK _ _ (h A n c w' h1 h2)
/-- One byte, as a literal. -/
theorem By.byte (w : World) (c : UInt8) (z : Int) (hz : z = (c.toNat : Int)) : By (w.alloc (.cells #[.int .u8 z] 5)) (fun k => k = w.heap.size) (.slice (some ⟨w.heap.size, 0, none⟩) 1 1) [c] := by
  subst hz
  exact By.lit w 5 [c] (by simp)
/-- A call that hands back bytes in new memory, all its own. -/
def ObPost (w : World) (l : List UInt8) (e : Ending) (w' : World) : Prop := ∃ A n c, e = .returned (.slice A n c) ∧ Ob w' w.heap.size (.slice A n c) l ∧ Below w.heap.size w w'
theorem refNumO (z y : Int) (width n : Nat) (hz : z = width) (hy : y = n) (hw : 1 ≤ width ∧ width ≤ 8) (hn : n < 18446744073709551616) (w : World) :
    Calls Try.prog 56 #[.int .i64 z, .int .i64 y] w (ObPost w (leB n width)) := by
  subst hz hy
  have e : wideN (width : Int) = width := by unfold wideN; rw [if_neg (by omega), if_neg (by omega)]; omega
  have e2 : word (n : Int) = n := by unfold word; omega
  have := refNum_any (width : Int) (n : Int) w
  rw [e, e2] at this
  refine this.mono fun e w' ⟨u, he, ho, hb⟩ => ?_
  obtain ⟨A, c, rfl, _⟩ := ho.form
  exact ⟨A, _, c, he, ⟨_, ho⟩, hb⟩
theorem refNumZ (z y : Int) (width : Nat) (hz : z = width) (hw : 1 ≤ width ∧ width ≤ 8) (w : World) :
    Calls Try.prog 56 #[.int .i64 z, .int .i64 y] w (ObPost w (leB (word y) width)) := by
  subst hz
  have e : wideN (width : Int) = width := by unfold wideN; rw [if_neg (by omega), if_neg (by omega)]; omega
  have := refNum_any (width : Int) y w
  rw [e] at this
  refine this.mono fun e w' ⟨u, he, ho, hb⟩ => ?_
  obtain ⟨A, c, rfl, _⟩ := ho.form
  exact ⟨A, _, c, he, ⟨_, ho⟩, hb⟩
end Go.Proofs.Ythkgchlndfcmpaa

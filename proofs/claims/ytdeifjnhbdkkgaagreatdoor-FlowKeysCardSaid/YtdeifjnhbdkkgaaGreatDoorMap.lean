/- A map of the call's own, as a function from keys to values, whatever the values are. No program in sight. -/
import Derived.Test.YtdeifjnhbdkkgaaGreatDoorMem
import Derived.Maps.Own
import Derived.Maps.Views
import Derived.DeepKeys4
namespace Go.Proofs.YtdeifjnhbdkkgaaGreatDoor
open Go.RowKit
open Go.Maps (Keyed IsMap)
open Go.WideElems (Fit rd rg pl)
set_option maxRecDepth 100000

/-- How a value reads: as itself. -/
def RV (v : Value) : Option (DataW Value × List MemPlace) := some (.held v, [])
/-- Block b is a map of at most n entries, that holds at each key what f says. -/
def MapV (w : World) (P : Program) (k : TypeId) (b n : Nat) (f : Value → Option Value) : Prop :=
  ∃ D : DataW Value, w.ownsMap P k RV b n D ∧ IsMap D ∧ ∀ v l, keyOf P k v = some l → ∀ z, D.atKey l z = match f v with
    | none => z
    | some c => .held c

section
variable {w w' : World} {P : Program} {k b n : Nat} {f g : Value → Option Value} {S : Nat → Prop}
theorem MapV.made (w : World) (P : Program) (k : TypeId) : MapV (w.alloc (.map #[] 0)) P k w.heap.size 0 (fun _ => none) :=
  ⟨_, World.ownsMap_made w P k RV, Maps.isMap_empty, fun _ _ _ _ => rfl⟩
theorem MapV.lt (h : MapV w P k b n f) : b < w.heap.size := by
  obtain ⟨D, h, _⟩ := h
  exact h.lt
theorem MapV.block (h : MapV w P k b n f) : ∃ es cl, w.heap[b]? = some (.map es cl) := by
  obtain ⟨D, ⟨es, cl, hb, _⟩, _⟩ := h
  exact ⟨es, cl, hb⟩
theorem MapV.ne_cells (h : MapV w P k b n f) {p : Nat} {t : TypeId} {cs : Array Value} {fr : Nat × Nat} (hp : w.heap[p]? = some (.cells cs t fr)) : p ≠ b := by
  rintro rfl
  obtain ⟨es, cl, hb⟩ := h.block
  rw [hp] at hb
  injection hb with hb
  cases hb
theorem MapV.keep (h : MapV w P k b n f) (hk : Keep S w w') (hs : ¬ S b) : MapV w' P k b n f := by
  obtain ⟨D, ⟨es, clock, hb, hr⟩, h2⟩ := h
  exact ⟨D, ⟨es, clock, (hk.block b (Array.getElem?_eq_some_iff.1 hb).1 hs).trans hb, hr⟩, h2⟩
theorem MapV.mono (h : MapV w P k b n f) {m : Nat} (hm : n ≤ m) : MapV w P k b m f := by
  obtain ⟨D, h1, h2⟩ := h
  exact ⟨D, h1.mono hm, h2⟩
theorem MapV.congr (h : MapV w P k b n f) (hg : ∀ v l, keyOf P k v = some l → f v = g v) : MapV w P k b n g := by
  obtain ⟨D, h1, h2, h3⟩ := h
  exact ⟨D, h1, h2, fun v l hv z => by rw [h3 v l hv z, hg v l hv]⟩
/-- 'v, ok := m[key]'. -/
theorem MapV.look (h : MapV w P k b n f) (K : Keyed P k) {t e : TypeId} (ht : P.underlying t = some (.map k e)) {z : Value} (hz : ∀ w, (zeroValue e).run P w = .ok z w) {key : Value} {kl : Lit} (hkey : keyOf P k key = some kl) :
    (Instr.lookup t (.map (some b)) key true).run P w = .ok (.tuple #[(f key).getD z, .bool (f key).isSome]) w := by
  obtain ⟨D, ⟨es, clock, hb, F, hs, rfl⟩, _, h3⟩ := h
  have h3 := h3 key kl hkey
  rcases Maps.fit_look true K ht (hz w) hb F hkey with ⟨hrun, _, hat⟩ | ⟨e0, y, _, _, hrun, hRv, hat, _⟩
  · rw [hrun]
    cases hf : f key with
    | none => rfl
    | some c =>
      have h1 := (hat .nil).symm.trans (h3 .nil)
      rw [hf] at h1
      cases h1
  · rw [hrun]
    have hy : y = (.held e0.val, []) := (Option.some.inj hRv).symm
    cases hf : f key with
    | none =>
      have h1 := (hat .nil).symm.trans (h3 .nil)
      rw [hf, hy] at h1
      cases h1
    | some c =>
      have h1 := (hat .nil).symm.trans (h3 .nil)
      rw [hf, hy] at h1
      injection h1 with h1
      subst h1
      rfl
/-- 'm[key]'. -/
theorem MapV.look1 (h : MapV w P k b n f) (K : Keyed P k) {t e : TypeId} (ht : P.underlying t = some (.map k e)) {z : Value} (hz : ∀ w, (zeroValue e).run P w = .ok z w) {key : Value} {kl : Lit} (hkey : keyOf P k key = some kl) :
    (Instr.lookup t (.map (some b)) key false).run P w = .ok ((f key).getD z) w := by
  obtain ⟨D, ⟨es, clock, hb, F, hs, rfl⟩, _, h3⟩ := h
  have h3 := h3 key kl hkey
  rcases Maps.fit_look false K ht (hz w) hb F hkey with ⟨hrun, _, hat⟩ | ⟨e0, y, _, _, hrun, hRv, hat, _⟩
  · rw [hrun]
    cases hf : f key with
    | none => rfl
    | some c =>
      have h1 := (hat .nil).symm.trans (h3 .nil)
      rw [hf] at h1
      cases h1
  · rw [hrun]
    have hy : y = (.held e0.val, []) := (Option.some.inj hRv).symm
    cases hf : f key with
    | none =>
      have h1 := (hat .nil).symm.trans (h3 .nil)
      rw [hf, hy] at h1
      cases h1
    | some c =>
      have h1 := (hat .nil).symm.trans (h3 .nil)
      rw [hf, hy] at h1
      injection h1 with h1
      subst h1
      rfl
/-- 'm[key] = val'. -/
theorem MapV.update (h : MapV w P k b n f) (K : Keyed P k) {t e : TypeId} (ht : P.underlying t = some (.map k e)) (hn : n < maxLen) {key : Value} (val : Value) {kl : Lit} (hkey : keyOf P k key = some kl)
    (hg : ∀ v l, keyOf P k v = some l → (v = key → g v = some val) ∧ (v ≠ key → g v = f v)) :
    ∃ w', (Instr.mapUpdate t (.map (some b)) key val).run P w = .ok () w' ∧ MapV w' P k b (n + 1) g ∧ Keep (fun x => x = b) w w' := by
  obtain ⟨D, hown, hm, h3⟩ := h
  obtain ⟨w', hrun, hown', hgr⟩ := hown.update K ht hn hkey (val := val) (d := .held val) (ps := []) rfl
  refine ⟨w', hrun, ⟨_, hown', hm.put _ _, fun v l hv z => ?_⟩, ⟨hgr.os, hgr.tape, hgr.output, hgr.size, fun x hx hne => hgr.block x hx (fun e => hne (Option.some.inj e))⟩⟩
  obtain ⟨g1, g2⟩ := hg v l hv
  by_cases e : v = key
  · subst e
    have : l = kl := Option.some.inj (hv.symm.trans hkey)
    subst this
    rw [g1 rfl, Maps.atKey_put_same hm (K.key hkey)]
  · have hne : l ≠ kl := fun h => e (K.inj hv (h ▸ hkey))
    rw [g2 e, Maps.atKey_put_other hne]
    exact h3 v l hv z
theorem wp_mapUpdate_gen {o : Oper} {a : Act} {C : Act → World → Prop} {Q : Exit → Act → World → Prop} (m x v : Operand) (t : TypeId) (ho : o.op = .mapUpdate t m x v) (h : MapV w P k b n f) (K : Keyed P k) {e : TypeId}
    (ht : P.underlying t = some (.map k e)) (hn : n < maxLen) {key : Value} (val : Value) {kl : Lit} (hkey : keyOf P k key = some kl) (hm : a.eval m = .map (some b)) (hx : a.eval x = key) (hv : a.eval v = val)
    (hg : ∀ v l, keyOf P k v = some l → (v = key → g v = some val) ∧ (v ≠ key → g v = f v))
    (hK : ∀ w', MapV w' P k b (n + 1) g → Keep (fun x => x = b) w w' → C (a.put o.dst undef) w') : o.wp P a w C Q := by
  obtain ⟨w', hrun, r1, r2⟩ := h.update K ht hn val hkey hg
  unfold Oper.wp
  simp [execOp, ho, hm, hx, hv, hrun, Result.andThen]
  exact hK w' r1 r2
theorem wpList_mapUpdate_gen {ops : Array Oper} {rest : List Oper} {o : Oper} {a : Act} {Q : Exit → Act → World → Prop} (hgd : Region.wanted o (yielded ops a.tmps) = true) (m x v : Operand) (t : TypeId) (ho : o.op = .mapUpdate t m x v)
    (h : MapV w P k b n f) (K : Keyed P k) {e : TypeId}
    (ht : P.underlying t = some (.map k e)) (hn : n < maxLen) {key : Value} (val : Value) {kl : Lit} (hkey : keyOf P k key = some kl) (hm : a.eval m = .map (some b)) (hx : a.eval x = key) (hv : a.eval v = val)
    (hg : ∀ v l, keyOf P k v = some l → (v = key → g v = some val) ∧ (v ≠ key → g v = f v))
    (hK : ∀ w', MapV w' P k b (n + 1) g → Keep (fun x => x = b) w w' → wpList P ops Q rest (a.put o.dst undef) w') : wpList P ops Q (o :: rest) a w :=
  wpList_step fun _ hK' => by
    rw [if_pos hgd]
    exact wp_mapUpdate_gen m x v t ho h K ht hn val hkey hm hx hv hg fun w' r1 r2 => hK' _ _ (hK w' r1 r2)
end
end Go.Proofs.YtdeifjnhbdkkgaaGreatDoor

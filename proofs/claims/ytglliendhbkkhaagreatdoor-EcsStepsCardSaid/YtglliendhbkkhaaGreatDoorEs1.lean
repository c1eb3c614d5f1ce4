/- One step of the document's; the program's do in the document's words. -/
import Derived.Test.YtglliendhbkkhaaGreatDoorEcsP
import Derived.Test.YtglliendhbkkhaaGreatDoorEcsD
namespace Go.Proofs.YtglliendhbkkhaaGreatDoor
open Go.RowKit
set_option maxRecDepth 100000
set_option linter.unusedVariables false
set_option linter.unusedSimpArgs false

/-- What a step makes of a state: the state, the name, the data, the error. -/
def stepR (c : Cf) (s : SZ) (t : StE) : SZ × IdZ × List UInt8 × Int :=
  if t.do_ = 1 then ((despawnR c.gens s t.id).1, ⟨0, 0⟩, [], (despawnR c.gens s t.id).2)
  else if t.do_ = 2 then ((setR c.l s t.id t.k t.data).1, ⟨0, 0⟩, [], (setR c.l s t.id t.k t.data).2)
  else if t.do_ = 3 then ((removeR c.l s t.id t.k).1, ⟨0, 0⟩, [], (removeR c.l s t.id t.k).2)
  else if t.do_ = 4 then (s, ⟨0, 0⟩, (getR c.l s t.id t.k).1, (getR c.l s t.id t.k).2)
  else ((spawnR c.ents s).1, (spawnR c.ents s).2.1, [], (spawnR c.ents s).2.2)
theorem szOk_of {c : Cf} (h : checkF c = 0) : SzOk c.l ∧ c.l.length ≤ 32 ∧ (1 ≤ c.ents ∧ c.ents ≤ 1024) ∧ (1 ≤ c.gens ∧ c.gens ≤ 1073741824) := by
  have hr : rightB c = true := by
    unfold checkF at h
    by_cases e : rightB c = true
    · exact e
    · rw [if_neg e] at h; cases h
  unfold rightB at hr
  obtain ⟨⟨-, -, h3, h4, h5⟩, h6⟩ := of_decide_eq_true hr
  refine ⟨⟨by omega, fun k hk => ?_⟩, h5, h3, h4⟩
  obtain ⟨-, -, h7, h8⟩ := h6 k hk
  refine ⟨h7, ?_⟩
  unfold szOf clampN
  rw [if_neg (by omega), if_neg (by omega)]
  exact Int.toNat_of_nonneg h7
section
variable {w : World} {c : Cf} {xp q : Nat} {B : CoB} {a : Co}
/-- The program's step. -/
theorem c_do (h : CoM w c xp B q a) (hi : InvC c a) (hl : c.l.length ≤ 1000) (hz : SzOk c.l) (hT : Tab w) (hG : ¬ CoF xp B a 0) (x : StE) (hk : seR x) (AD : Option Addr) (cD : Nat) (F : Nat → Prop) (hd : By w F (.slice AD x.data.length cD) x.data) (hF : ∀ b, F b → ¬ CoF xp B a b) (hq : q + 1 ≤ 1000000) (hsl : a.sigs.length + 1 ≤ 1000000) :
    ∃ a' q', InvC c a' ∧ absC a' = (stepR c (absC a) x).1 ∧ a'.sigs.length ≤ a.sigs.length + 1 ∧ q' ≤ q + 1 ∧ Calls Tryz.prog 22 #[.pointer (some ⟨xp, 0, none⟩), seV x (.slice AD x.data.length cD)] w fun e w' => ∃ A n cc, e = .returned (.tuple #[.agg #[.int .i64 (stepR c (absC a) x).2.1.ix, .int .i64 (stepR c (absC a) x).2.1.gen], .slice A n cc, .int .i64 (stepR c (absC a) x).2.2.2]) ∧ By w' (fun b => w.heap.size ≤ b) (.slice A n cc) (stepR c (absC a) x).2.2.1 ∧ CoTo w c xp (CoF xp B a) q' a' w' := by
  have hlt : ∀ k, CoF xp B a k → k < w.heap.size := fun k hk => h.lt k hk
  by_cases h1 : x.do_ = 1
  · obtain ⟨a', g1, g2, g3, g4⟩ := c_despawn h hi hT hG x.id
    have es : stepR c (absC a) x = ((despawnR c.gens (absC a) x.id).1, ⟨0, 0⟩, [], (despawnR c.gens (absC a) x.id).2) := by unfold stepR; rw [if_pos h1]
    rw [es]
    exact ⟨a', q, g1, g2, by rw [g3]; exact Nat.le_succ _, Nat.le_succ _, (do11_despawn hlt x h1 AD x.data.length cD g4).mono fun e w' ⟨e1, e2⟩ => ⟨none, 0, 0, e1, By.nil _ _, e2⟩⟩
  by_cases h2 : x.do_ = 2
  · obtain ⟨a', q', g1, g2, g3, g5, g4⟩ := c_set h hi hl hz hT hG x.id x.k hk x.data AD cD F hd hF hq hsl
    have es : stepR c (absC a) x = ((setR c.l (absC a) x.id x.k x.data).1, ⟨0, 0⟩, [], (setR c.l (absC a) x.id x.k x.data).2) := by unfold stepR; rw [if_neg h1, if_pos h2]
    rw [es]
    exact ⟨a', q', g1, g2, g3, g5, (do11_set hlt x h2 AD x.data.length cD g4).mono fun e w' ⟨e1, e2⟩ => ⟨none, 0, 0, e1, By.nil _ _, e2⟩⟩
  by_cases h3 : x.do_ = 3
  · obtain ⟨a', q', g1, g2, g3, g5, g4⟩ := c_remove h hi hl hT hG x.id x.k hk hq hsl
    have es : stepR c (absC a) x = ((removeR c.l (absC a) x.id x.k).1, ⟨0, 0⟩, [], (removeR c.l (absC a) x.id x.k).2) := by unfold stepR; rw [if_neg h1, if_neg h2, if_pos h3]
    rw [es]
    exact ⟨a', q', g1, g2, g3, g5, (do11_remove hlt x h3 AD x.data.length cD g4).mono fun e w' ⟨e1, e2⟩ => ⟨none, 0, 0, e1, By.nil _ _, e2⟩⟩
  by_cases h4 : x.do_ = 4
  · have es : stepR c (absC a) x = (absC a, ⟨0, 0⟩, (getR c.l (absC a) x.id x.k).1, (getR c.l (absC a) x.id x.k).2) := by unfold stepR; rw [if_neg h1, if_neg h2, if_neg h3, if_pos h4]
    rw [es]
    exact ⟨a, q, hi, rfl, Nat.le_succ _, Nat.le_succ _, (do11_get hlt x h4 AD x.data.length cD _ h (fun X hkX => c_get (h.same hkX) hi x.id x.k hk)).mono fun e w' ⟨A, n, cc, e1, e2, e3⟩ => ⟨A, n, cc, e1, e2.mono (fun b _ h => by have : w.heap.size + 2 ≤ b := h; show w.heap.size ≤ b; omega), h.to.same e3⟩⟩
  · obtain ⟨a', g1, g2, g3, g4⟩ := c_spawn h hi hl hT hG
    have es : stepR c (absC a) x = ((spawnR c.ents (absC a)).1, (spawnR c.ents (absC a)).2.1, [], (spawnR c.ents (absC a)).2.2) := by unfold stepR; rw [if_neg h1, if_neg h2, if_neg h3, if_neg h4]
    rw [es]
    exact ⟨a', q, g1, g2, by rw [g3]; exact Nat.le_succ _, Nat.le_succ _, (do11_spawn hlt x ⟨h1, h2, h3, h4⟩ AD x.data.length cD g4).mono fun e w' ⟨e1, e2⟩ => ⟨none, 0, 0, e1, By.nil _ _, e2⟩⟩
end
end Go.Proofs.YtglliendhbkkhaaGreatDoor

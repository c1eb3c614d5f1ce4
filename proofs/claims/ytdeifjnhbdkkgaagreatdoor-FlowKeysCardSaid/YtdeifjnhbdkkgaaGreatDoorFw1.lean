/- Keys and streams: plain. -/
import Derived.Test.YtdeifjnhbdkkgaaGreatDoorScr1
import Derived.Test.YtdeifjnhbdkkgaaGreatDoorLe1
import Derived.Test.YtdeifjnhbdkkgaaGreatDoorBitsPl
namespace Go.Proofs.YtdeifjnhbdkkgaaGreatDoor
open Go.RowKit
set_option maxRecDepth 100000
set_option linter.unusedVariables false
set_option linter.unusedSimpArgs false

/-- A key. -/
structure KyZ where
  kind : Int
  sig : Nat
  comp : Int
deriving DecidableEq, Inhabited
/-- May it be? -/
def rightK (k : KyZ) : Bool :=
  if k.kind = 0 ∨ k.kind = 1 then decide (k.sig = 0) && decide (k.comp = 0)
  else if k.kind = 2 then decide (k.comp = 0)
  else if k.kind = 3 then hasB k.sig k.comp
  else false
def rankK (k : KyZ) : Int := if k.kind ≤ 2 then k.kind else 2
/-- The first that is not zero. -/
def orK (a b c d : Int) : Int := if a ≠ 0 then a else if b ≠ 0 then b else if c ≠ 0 then c else d
def cmpZ (x y : Int) : Int := if x < y then -1 else if y < x then 1 else 0
/-- The program's order. -/
def orderK (a b : KyZ) : Int := orK (cmpZ (rankK a) (rankK b)) (cmpZ (a.sig : Int) (b.sig : Int)) (cmpZ a.kind b.kind) (cmpZ a.comp b.comp)
/-- The document's. -/
def orderR (a b : KyZ) : Int :=
  if a = b then 0
  else if a.kind < 2 ∨ b.kind < 2 then (if a.kind < b.kind then -1 else 1)
  else if a.sig < b.sig ∨ (a.sig = b.sig ∧ (a.kind < b.kind ∨ (a.kind = b.kind ∧ a.comp < b.comp))) then -1 else 1
theorem cmpZ_zero (x y : Int) : cmpZ x y = 0 ↔ x = y := by
  unfold cmpZ
  split
  · constructor <;> intro h <;> omega
  · split
    · constructor <;> intro h <;> omega
    · constructor <;> intro h <;> omega
theorem cmpZ_lt {x y : Int} (h : x < y) : cmpZ x y = -1 := by unfold cmpZ; rw [if_pos h]
theorem cmpZ_gt {x y : Int} (h : y < x) : cmpZ x y = 1 := by unfold cmpZ; rw [if_neg (by omega), if_pos h]
theorem cmpZ_self (x : Int) : cmpZ x x = 0 := (cmpZ_zero x x).2 rfl
theorem order_zero (a b : KyZ) : orderK a b = 0 ↔ a = b := by
  obtain ⟨k1, s1, c1⟩ := a
  obtain ⟨k2, s2, c2⟩ := b
  unfold orderK orK
  constructor
  · intro h
    dsimp only at h
    by_cases h1 : cmpZ (rankK ⟨k1, s1, c1⟩) (rankK ⟨k2, s2, c2⟩) = 0
    · rw [if_neg (by simpa using h1)] at h
      by_cases h2 : cmpZ (s1 : Int) (s2 : Int) = 0
      · rw [if_neg (by simpa using h2)] at h
        by_cases h3 : cmpZ k1 k2 = 0
        · rw [if_neg (by simpa using h3)] at h
          have e2 := (cmpZ_zero _ _).1 h2
          have e3 := (cmpZ_zero _ _).1 h3
          have e4 := (cmpZ_zero _ _).1 h
          have e2' : s1 = s2 := by omega
          rw [e2', e3, e4]
        · rw [if_pos h3] at h; exact absurd h h3
      · rw [if_pos h2] at h; exact absurd h h2
    · rw [if_pos h1] at h; exact absurd h h1
  · intro h
    rw [h]
    dsimp only
    simp only [cmpZ_self]
    rfl
theorem order_right {a b : KyZ} (ha : rightK a = true) (hb : rightK b = true) : orderK a b = orderR a b := by
  by_cases e : a = b
  · rw [(order_zero a b).2 e]; unfold orderR; rw [if_pos e]
  obtain ⟨k1, s1, c1⟩ := a
  obtain ⟨k2, s2, c2⟩ := b
  have kr : ∀ k : KyZ, rightK k = true → (k.kind = 0 ∨ k.kind = 1) ∧ k.sig = 0 ∧ k.comp = 0 ∨ k.kind = 2 ∨ k.kind = 3 := fun k h => by
    unfold rightK at h
    by_cases h1 : k.kind = 0 ∨ k.kind = 1
    · rw [if_pos h1, Bool.and_eq_true] at h
      exact .inl ⟨h1, of_decide_eq_true h.1, of_decide_eq_true h.2⟩
    · rw [if_neg h1] at h
      by_cases h2 : k.kind = 2
      · exact .inr (.inl h2)
      · rw [if_neg h2] at h
        by_cases h3 : k.kind = 3
        · exact .inr (.inr h3)
        · rw [if_neg h3] at h; cases h
  have ra := kr _ ha
  have rb := kr _ hb
  dsimp only at ra rb
  unfold orderR orderK rankK orK
  rw [if_neg e]
  dsimp only
  by_cases h2 : k1 < 2 ∨ k2 < 2
  · rw [if_pos h2]
    have hne : k1 ≠ k2 := fun e2 => by
      subst e2
      apply e
      rcases ra with ⟨_, r1, r2⟩ | r | r
      · rcases rb with ⟨_, q1, q2⟩ | q | q
        · rw [r1, r2, q1, q2]
        · omega
        · omega
      · omega
      · omega
    have hr : ∀ z : Int, (if z ≤ 2 then z else 2) = if z ≤ 2 then z else 2 := fun _ => rfl
    by_cases hlt : k1 < k2
    · have : (if k1 ≤ 2 then k1 else 2) < (if k2 ≤ 2 then k2 else 2) := by split <;> split <;> omega
      rw [cmpZ_lt this, if_pos (by decide), if_pos hlt]
    · have : (if k2 ≤ 2 then k2 else 2) < (if k1 ≤ 2 then k1 else 2) := by split <;> split <;> omega
      rw [cmpZ_gt this, if_pos (by decide), if_neg hlt]
  · rw [if_neg h2]
    have e1 : (if k1 ≤ 2 then k1 else 2) = (2 : Int) := by split <;> omega
    have e2 : (if k2 ≤ 2 then k2 else 2) = (2 : Int) := by split <;> omega
    rw [e1, e2, cmpZ_self, if_neg (by decide)]
    rcases Nat.lt_trichotomy s1 s2 with hs | hs | hs
    · rw [cmpZ_lt (by omega), if_pos (by decide), if_pos (.inl hs)]
    · subst hs
      rw [cmpZ_self, if_neg (by decide)]
      rcases Int.lt_trichotomy k1 k2 with hk | hk | hk
      · rw [cmpZ_lt hk, if_pos (by decide), if_pos (.inr ⟨rfl, .inl hk⟩)]
      · subst hk
        rw [cmpZ_self, if_neg (by decide)]
        rcases Int.lt_trichotomy c1 c2 with hc | hc | hc
        · rw [cmpZ_lt hc, if_pos (.inr ⟨rfl, .inr ⟨rfl, hc⟩⟩)]
        · subst hc; exact absurd rfl e
        · rw [cmpZ_gt hc, if_neg (by omega)]
      · rw [cmpZ_gt hk, if_pos (by decide), if_neg (by omega)]
    · rw [cmpZ_gt (by omega), if_pos (by decide), if_neg (by omega)]
/-- A stream. -/
structure FwZ where
  key : KyZ
  data : List UInt8
deriving DecidableEq, Inhabited
def fwN : Nst FwZ Value where
  cells p := [.int .i64 p.1.key.kind, .int .u64 (p.1.key.sig : Int), .int .i64 p.1.key.comp, p.2]
  m := 4
  pos := by decide
  len _ := rfl
  inn w F x u := By w F u x.data
  one h u hu := by
    obtain ⟨B, d, h2, -⟩ := h
    simp only [List.mem_cons, List.not_mem_nil, or_false] at hu
    rcases hu with rfl | rfl | rfl | rfl
    · rfl
    · rfl
    · rfl
    · rw [h2]; rfl
  keep h hk hs := By.keep h hk hs
  mono h hf := By.mono h hf
/-- The first of that key. -/
def findW (l : List FwZ) (k : KyZ) : List UInt8 × Bool := match l.find? (fun e => decide (e.key = k)) with | some e => (e.data, true) | none => ([], false)
end Go.Proofs.YtdeifjnhbdkkgaaGreatDoor

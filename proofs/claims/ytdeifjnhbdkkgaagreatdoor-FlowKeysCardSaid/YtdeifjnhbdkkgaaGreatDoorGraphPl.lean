/- Plain facts on the graph: a list of sets, each once. No program in sight. -/
import Derived.Test.YtdeifjnhbdkkgaaGreatDoorBitsPl
namespace Go.Proofs.YtdeifjnhbdkkgaaGreatDoor
set_option maxRecDepth 100000

/-- Where a set stands. -/
def pos (S : List Nat) (x : Nat) : Option Nat := S.findIdx? (fun y => y == x)
theorem pos_some {S : List Nat} {x k : Nat} : pos S x = some k ↔ S[k]? = some x ∧ ∀ j, j < k → S[j]? ≠ some x := by
  unfold pos
  rw [List.findIdx?_eq_some_iff_getElem]
  constructor
  · rintro ⟨h, h1, h2⟩
    refine ⟨by rw [List.getElem?_eq_getElem h]; simpa using h1, fun j hj he => ?_⟩
    rw [List.getElem?_eq_getElem (by omega)] at he
    exact h2 j hj (by simpa using he)
  · rintro ⟨h1, h2⟩
    have h : k < S.length := (List.getElem?_eq_some_iff.1 h1).1
    refine ⟨h, by rw [List.getElem?_eq_getElem h] at h1; simpa using h1, fun j hj => ?_⟩
    have := h2 j hj
    rw [List.getElem?_eq_getElem (by omega)] at this
    simpa using this
theorem pos_none {S : List Nat} {x : Nat} : pos S x = none ↔ x ∉ S := by
  unfold pos
  rw [List.findIdx?_eq_none_iff]
  constructor
  · intro h hx
    have := h x hx
    simp at this
  · intro h y hy
    have : y ≠ x := fun e => h (e ▸ hy)
    simpa using this
theorem pos_lt {S : List Nat} {x k : Nat} (h : pos S x = some k) : k < S.length := (List.getElem?_eq_some_iff.1 (pos_some.1 h).1).1
theorem pos_of_nodup {S : List Nat} (hn : S.Nodup) {x k : Nat} (h : S[k]? = some x) : pos S x = some k := by
  refine pos_some.2 ⟨h, fun j hj he => ?_⟩
  obtain ⟨h1, e1⟩ := List.getElem?_eq_some_iff.1 h
  obtain ⟨h2, e2⟩ := List.getElem?_eq_some_iff.1 he
  have := (List.getElem_inj hn).1 (e1.trans e2.symm)
  omega
theorem pos_snoc (S : List Nat) (y x : Nat) (hy : y ∉ S) : pos (S ++ [y]) x = if x = y then some S.length else pos S x := by
  by_cases e : x = y
  · subst e
    rw [if_pos rfl]
    refine pos_some.2 ⟨by simp, fun j hj he => ?_⟩
    rw [List.getElem?_append_left hj] at he
    exact hy (List.mem_of_getElem? he)
  · rw [if_neg e]
    cases h : pos S x with
    | none =>
      rw [pos_none] at h ⊢
      simp [h, e]
    | some k =>
      obtain ⟨h1, h2⟩ := pos_some.1 h
      have hk := pos_lt h
      refine pos_some.2 ⟨by rw [List.getElem?_append_left hk]; exact h1, fun j hj => ?_⟩
      rw [List.getElem?_append_left (by omega)]
      exact h2 j hj
/-- The sets once x is among them; its place. -/
def nodeS (S : List Nat) (x : Nat) : List Nat := if x ∈ S then S else S ++ [x]
def nodeI (S : List Nat) (x : Nat) : Nat := (pos S x).getD S.length
theorem nodeS_old {S : List Nat} {x k : Nat} (h : pos S x = some k) : nodeS S x = S ∧ nodeI S x = k := by
  have hx : x ∈ S := List.mem_of_getElem? (pos_some.1 h).1
  unfold nodeS nodeI
  rw [if_pos hx, h]
  exact ⟨rfl, rfl⟩
theorem nodeS_new {S : List Nat} {x : Nat} (h : pos S x = none) : nodeS S x = S ++ [x] ∧ nodeI S x = S.length := by
  unfold nodeS nodeI
  rw [if_neg (pos_none.1 h), h]
  exact ⟨rfl, rfl⟩
theorem nodeS_pos (S : List Nat) (x : Nat) : pos (nodeS S x) x = some (nodeI S x) := by
  cases h : pos S x with
  | some k => obtain ⟨e1, e2⟩ := nodeS_old h; rw [e1, e2, h]
  | none =>
    obtain ⟨e1, e2⟩ := nodeS_new h
    rw [e1, e2, pos_snoc S x x (pos_none.1 h), if_pos rfl]
theorem nodeS_keep {S : List Nat} {x y k : Nat} (h : pos S y = some k) : pos (nodeS S x) y = some k := by
  cases hx : pos S x with
  | some j => rw [(nodeS_old hx).1, h]
  | none =>
    rw [(nodeS_new hx).1, pos_snoc S x y (pos_none.1 hx)]
    have : y ≠ x := by rintro rfl; rw [h] at hx; cases hx
    rw [if_neg this, h]
theorem nodeS_at {S : List Nat} {x y k : Nat} (h : S[k]? = some y) : (nodeS S x)[k]? = some y := by
  unfold nodeS
  split
  · exact h
  · rw [List.getElem?_append_left (List.getElem?_eq_some_iff.1 h).1]; exact h
theorem nodeS_nodup {S : List Nat} (hn : S.Nodup) (x : Nat) : (nodeS S x).Nodup := by
  unfold nodeS
  split
  · exact hn
  · rename_i h
    exact List.nodup_append.2 ⟨hn, by simp, fun a ha b hb => by simp at hb; subst hb; exact fun e => h (e ▸ ha)⟩
theorem nodeS_len (S : List Nat) (x : Nat) : S.length ≤ (nodeS S x).length ∧ (nodeS S x).length ≤ S.length + 1 := by
  unfold nodeS; split <;> simp
theorem nodeS_bound {S : List Nat} {x m : Nat} (h : ∀ y ∈ S, y < m) (hx : x < m) : ∀ y ∈ nodeS S x, y < m := by
  unfold nodeS
  split
  · exact h
  · intro y hy
    rcases List.mem_append.1 hy with hy | hy
    · exact h y hy
    · simp at hy; subst hy; exact hx
theorem nodeI_lt (S : List Nat) (x : Nat) : nodeI S x < (nodeS S x).length := pos_lt (nodeS_pos S x)

/-- The set that a step leads to. -/
def stepSig (s : Nat) (c : Int) (b : Bool) : Nat := if b then s ||| bitN c else without s c
theorem stepSig_lt (s : Nat) (c : Int) (b : Bool) (h : s < 18446744073709551616) : stepSig s c b < 18446744073709551616 := by
  unfold stepSig
  split
  · exact with_lt s c h
  · exact without_lt s c h
/-- A step of a script: the sets behind it, the node. -/
def goS (S : List Nat) (act n c : Int) (sig : Nat) : List Nat × Int :=
  if act = 1 ∨ act = 2 then
    if 0 ≤ n ∧ n < S.length then
      let t := stepSig (S.getD n.toNat 0) c (decide (act = 1))
      (nodeS S t, nodeI S t)
    else (S, -1)
  else (nodeS S sig, nodeI S sig)
end Go.Proofs.YtdeifjnhbdkkgaaGreatDoor

/- Small words that all walks share. No program in sight. -/
import Derived.Test.YthkgchlndfcmpaaMem
import Derived.WalkKit
import Derived.Outline
import Derived.Lib.Hide
import Derived.WalkLawsBesides
import Derived.WalkSpells
import Derived.Deep.QuietTactic
import Derived.BigQuiet
namespace Go.Proofs.Ythkgchlndfcmpaa
open Go.RowKit
set_option maxRecDepth 100000

theorem ret_bool {a b : Bool} (h : a = b) : Ending.returned (.bool a) = .returned (.bool b) := by rw [h]
theorem ret_int {k : IntKind} {a b : Int} (h : a = b) : Ending.returned (.int k a) = .returned (.int k b) := by rw [h]
def iv (l : List Int) : List Value := l.map (Value.int .i64)
theorem iv_one (l : List Int) : ∀ u ∈ iv l, u.oneCell' = true := by
  intro u hu
  obtain ⟨_, _, rfl⟩ := List.mem_map.1 hu
  rfl
/-- What 'append(l, x)' appends: the one-element slice that it has just laid. -/
theorem src_one {P : Program} {tx e e' : TypeId} (w : World) (x : Value) (hk : P.underlying tx = some (.slice e')) (h1 : x.oneCell' = true) : Src P 1 tx (.slice (some ⟨w.heap.size, 0, none⟩) 1 1) 1 [x] (w.alloc (.cells #[x] e)) :=
  Src.ofSlice _ hk _ 1 1 [x] rfl (fun j u hu => by
    match j, hu with
    | 0, hu => simp at hu; subst hu; simp [Addr.add]) (fun u hu => by simp at hu; subst hu; exact h1)

/-- Sets and other 64-bit words, as cells. -/
def uv (l : List Nat) : List Value := l.map fun n : Nat => Value.int .u64 (n : Int)
theorem uv_one (l : List Nat) : ∀ u ∈ uv l, u.oneCell' = true := by
  intro u hu
  obtain ⟨_, _, rfl⟩ := List.mem_map.1 hu
  rfl
theorem uv_len (l : List Nat) : (uv l).length = l.length := by simp [uv]
theorem iv_len (l : List Int) : (iv l).length = l.length := by simp [iv]
theorem uv_at {l : List Nat} {k : Nat} (h : k < l.length) : (uv l)[k]? = some (.int .u64 (l.getD k 0 : Nat)) ∧ l[k]? = some (l.getD k 0) := by
  have e : l[k]? = some (l.getD k 0) := by rw [List.getElem?_eq_getElem h, List.getD_eq_getElem?_getD, List.getElem?_eq_getElem h]; rfl
  exact ⟨by rw [uv, List.getElem?_map, e]; rfl, e⟩
/-- An int's list, element by element. -/
theorem iv_at {l : List Int} {k : Nat} (h : k < l.length) : (iv l)[k]? = some (.int .i64 (l.getD k 0)) ∧ l[k]? = some (l.getD k 0) := by
  have e : l[k]? = some (l.getD k 0) := by rw [List.getElem?_eq_getElem h, List.getD_eq_getElem?_getD, List.getElem?_eq_getElem h]; rfl
  exact ⟨by rw [iv, List.getElem?_map, e]; rfl, e⟩
end Go.Proofs.Ythkgchlndfcmpaa

/- A list of byte slices that a call builds; its append. -/
import Derived.Test.YtakchlaoimnnhaaBys
import Derived.Test.YtakchlaoimnnhaaCells
namespace Go.Proofs.Ytakchlaoimnnhaa
open Go.RowKit
set_option maxRecDepth 100000
set_option linter.unusedVariables false

theorem info_bytes : (Try.prog.info? 22).map (fun i => (i.zero, i.size, i.bytes)) = some (some (.slice none 0 0), 1, 24) := by kernel_rfl
/-- The slice value u holds the byte slices R: all of it in new memory. -/
def ListSt (B : Nat) (w : World) (u : Value) (R : List (List UInt8)) : Prop :=
  ∃ cs, Own w B 22 1 u R.length cs ∧ ∀ (i : Nat) (r : List UInt8), R[i]? = some r → ∃ x, cs[i]? = some x ∧ By w (fun b => B ≤ b ∧ ownB u ≠ some b) x r
theorem ListSt.nil (B : Nat) (w : World) : ListSt B w (.slice none 0 0) [] := ⟨[], Own.none_ _ _ _ _ _, fun i r h => by simp at h⟩
theorem ListSt.keep {B : Nat} {w w' : World} {u : Value} {R : List (List UInt8)} {S : Nat → Prop} (h : ListSt B w u R) (hk : Keep S w w') (hs : ∀ b, B ≤ b → b < w.heap.size → ¬ S b) : ListSt B w' u R := by
  obtain ⟨cs, h1, h2⟩ := h
  refine ⟨cs, h1.keep hk (fun k e => by obtain ⟨h3, h4⟩ := h1.ownB k e; exact hs k h3 h4), fun i r hr => ?_⟩
  obtain ⟨x, hx, hb⟩ := h2 i r hr
  exact ⟨x, hx, hb.keep hk (fun b hl h => hs b h.1 hl)⟩
theorem ListSt.below {B : Nat} {w w' : World} {u : Value} {R : List (List UInt8)} (h : ListSt B w u R) (hb : Below w.heap.size w w') : ListSt B w' u R := h.keep (Keep.of_below' hb) (fun _ _ _ h => h)
theorem ListSt.bys {B : Nat} {w : World} {u : Value} {R : List (List UInt8)} (h : ListSt B w u R) : Bys w (fun b => B ≤ b) u R := by
  obtain ⟨cs, h1, h2⟩ := h
  refine ⟨cs, h1.sl, fun i r hr => ?_⟩
  obtain ⟨x, hx, hb⟩ := h2 i r hr
  exact ⟨x, hx, hb.mono (fun _ _ h => h.1)⟩
theorem ListSt.form {B : Nat} {w : World} {u : Value} {R : List (List UInt8)} (h : ListSt B w u R) : ∃ A c, u = .slice A R.length c := by
  obtain ⟨cs, h1, _⟩ := h
  obtain ⟨A, c, e, _⟩ := h1.form
  exact ⟨A, c, e⟩
/-- Behind 'append(u, x)': W is the world in which x lies, o the element's box. -/
theorem ListSt.push {B : Nat} {w W w' : World} {u u' x : Value} {R : List (List UInt8)} {r : List UInt8} {cs : List Value}
    (h1 : Own w B 22 1 u R.length cs) (h2 : ∀ (i : Nat) (r : List UInt8), R[i]? = some r → ∃ x, cs[i]? = some x ∧ By w (fun b => B ≤ b ∧ ownB u ≠ some b) x r)
    (hW : Keep (fun b => w.heap.size ≤ b) w W) (hx : By W (fun b => w.heap.size ≤ b) x r) (hBw : B ≤ w.heap.size)
    (ho : Own w' B 22 1 u' (R.length + 1) (cs ++ [x])) (hk : Keep (fun k => ownB u = some k) W w') (hn : ∀ k, ownB u' = some k → ownB u = some k ∨ W.heap.size ≤ k) : ListSt B w' u' (R ++ [r]) := by
  have hlen : cs.length = R.length := by have := h1.1; omega
  have hlt := fun k e => (h1.ownB k e).2
  have hsz := hW.size
  refine ⟨cs ++ [x], by rw [List.length_append]; exact ho, fun i r' hr => ?_⟩
  rcases Nat.lt_or_ge i R.length with hi | hi
  · rw [List.getElem?_append_left hi] at hr
    rw [List.getElem?_append_left (by omega)]
    obtain ⟨y, hy, hb⟩ := h2 i r' hr
    refine ⟨y, hy, (((hb.mono (G := fun b => (B ≤ b ∧ ownB u ≠ some b) ∧ b < w.heap.size) (fun b hl h => ⟨h, hl⟩)).keep hW (fun b _ h e => by have := h.2; omega)).keep hk (fun b _ h e => h.1.2 e)).mono (fun b _ h => ⟨h.1.1, fun e => ?_⟩)⟩
    rcases hn b e with e | e
    · exact h.1.2 e
    · have := h.2; omega
  · rw [List.getElem?_append_right hi] at hr
    rw [List.getElem?_append_right (by omega), hlen]
    match hj : i - R.length, hr with
    | 0, hr =>
      obtain rfl : r = r' := by simpa using hr
      refine ⟨x, rfl, ((hx.mono (G := fun b => w.heap.size ≤ b ∧ b < W.heap.size) (fun b hl h => ⟨h, hl⟩)).keep hk (fun b _ h e => by have := hlt b e; omega)).mono (fun b _ h => ⟨by omega, fun e => ?_⟩)⟩
      rcases hn b e with e | e
      · have := hlt b e; omega
      · omega
end Go.Proofs.Ytakchlaoimnnhaa

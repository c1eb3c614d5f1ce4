/- A list of acts that a call builds; what script.Get reads: plain. -/
import Derived.Test.YthkgchlndfcmpaaScrD
import Derived.Test.YthkgchlndfcmpaaScr8
import Derived.Test.YthkgchlndfcmpaaCmdW
namespace Go.Proofs.Ythkgchlndfcmpaa
open Go.RowKit
set_option maxRecDepth 100000
set_option linter.unusedVariables false

theorem info_act : (Try.prog.info? 45).map (fun i => (i.zero, i.size, i.bytes)) = some (some (.agg #[.int .i64 0, .int .i64 0, .bool false, .int .i64 0, .int .i64 0, .int .i64 0, .slice none 0 0, .int .i64 0, .int .i64 0, .int .i64 0, .slice none 0 0, .slice none 0 0]), 12, 144) := by kernel_rfl
/-- The slice value u holds the acts R, in memory of its own from block B on. -/
def ActSt (B : Nat) (w : World) (u : Value) (R : List Ac) : Prop :=
  ∃ us : List (Value × Value × Value), us.length = R.length ∧ Own w B 45 12 u R.length ((R.zip us).flatMap acL) ∧ ∀ (i : Nat) x v, R[i]? = some x → us[i]? = some v → AM w (fun b => ownB u ≠ some b) x v.1 v.2.1 v.2.2
section
variable {B : Nat} {w w' W : World} {u u' : Value} {R : List Ac}
theorem ActSt.nil (B : Nat) (w : World) : ActSt B w (.slice none 0 0) [] := ⟨[], rfl, Own.none_ _ _ _ _ _, fun i x v h => by simp at h⟩
theorem ActSt.same (h : ActSt B w u R) (hk : Keep (fun _ => False) w w') : ActSt B w' u R := by
  obtain ⟨us, h1, h2, h3⟩ := h
  exact ⟨us, h1, h2.keep hk (fun _ _ h => h), fun i x v hx hv => (h3 i x v hx hv).same hk⟩
theorem ActSt.form (h : ActSt B w u R) : ∃ A c, u = .slice A R.length c := by
  obtain ⟨us, _, h1, _⟩ := h
  obtain ⟨A, c, e, _⟩ := h1.form
  exact ⟨A, c, e⟩
theorem ActSt.own_lt (h : ActSt B w u R) {k : Nat} (e : ownB u = some k) : B ≤ k ∧ k < w.heap.size := by
  obtain ⟨us, _, h1, _⟩ := h
  exact h1.ownB k e
theorem zip_len {us : List (Value × Value × Value)} (h : us.length = R.length) : (R.zip us).length = R.length := by rw [List.length_zip, h, Nat.min_self]
theorem ActSt.as_ (h : ActSt B w u R) : AS w (fun _ => True) u R := by
  obtain ⟨us, h1, h2, h3⟩ := h
  refine ⟨us, h1, ?_, fun i x v hx hv => (h3 i x v hx hv).mono (fun _ _ _ => trivial)⟩
  have h4 : Own w B 45 12 u (R.zip us).length ((R.zip us).flatMap acL) := by rw [zip_len h1]; exact h2
  exact (Own.ml (n := 0) (by decide) acL_len h4).mono (fun _ _ _ => trivial)
/-- Behind an append of one. -/
theorem ActSt.push {us : List (Value × Value × Value)} {x : Ac} {v : Value × Value × Value} (h1 : us.length = R.length) (h2 : Own w B 45 12 u R.length ((R.zip us).flatMap acL)) (h3 : ∀ (i : Nat) x v, R[i]? = some x → us[i]? = some v → AM w (fun b => ownB u ≠ some b) x v.1 v.2.1 v.2.2)
    (hW : Keep (fun _ => False) w W) (hx : AM W (fun b => ownB u ≠ some b) x v.1 v.2.1 v.2.2)
    (ho : Own w' B 45 12 u' (R.length + 1) ((R.zip us).flatMap acL ++ acL (x, v))) (hk : Keep (fun k => ownB u = some k) W w') (hn : ∀ k, ownB u' = some k → ownB u = some k ∨ W.heap.size ≤ k) : ActSt B w' u' (R ++ [x]) := by
  have hz : (R ++ [x]).zip (us ++ [v]) = R.zip us ++ [(x, v)] := by rw [List.zip_append h1.symm]; rfl
  have mv : ∀ (y : Ac) (q : Value × Value × Value), AM W (fun b => ownB u ≠ some b) y q.1 q.2.1 q.2.2 → AM w' (fun b => ownB u' ≠ some b) y q.1 q.2.1 q.2.2 := fun y q h =>
    ((h.mono (G := fun b => ownB u ≠ some b ∧ b < W.heap.size) (fun b hb h => ⟨h, hb⟩)).keep hk (fun b _ h e => h.1 e)).mono (fun b _ h e => by
      rcases hn b e with e | e
      · exact h.1 e
      · have := h.2; omega)
  refine ⟨us ++ [v], by rw [List.length_append, List.length_append, h1]; rfl, ?_, fun i y q hy hq => ?_⟩
  · rw [hz, List.flatMap_append, List.flatMap_cons, List.flatMap_nil, List.append_nil, List.length_append]
    exact ho
  · rcases Nat.lt_or_ge i R.length with hi | hi
    · rw [List.getElem?_append_left hi] at hy
      rw [List.getElem?_append_left (by omega)] at hq
      exact mv y q ((h3 i y q hy hq).same hW)
    · rw [List.getElem?_append_right hi] at hy
      rw [List.getElem?_append_right (by omega), h1] at hq
      match hj : i - R.length, hy, hq with
      | 0, hy, hq =>
        obtain rfl : x = y := by simpa using hy
        obtain rfl : v = q := by simpa using hq
        exact mv _ _ hx
end
/-- What script.Get reads from a place on. -/
def getsP (b : List UInt8) : Nat → Int → List Ac → List Ac × Int
  | 0, _, _ => ([], 99)
  | f + 1, a, acc => if a = b.length then (acc, 0) else if (oneP b a.toNat).2.2 ≠ 0 then ([], (oneP b a.toNat).2.2) else getsP b f (oneP b a.toNat).2.1 (acc ++ [(oneP b a.toNat).1])
theorem numR_le {l : List UInt8} {k : Nat} {bad : Bool} (width : Int) (h : k ≤ l.length) : (numR l k bad width).2.1 ≤ l.length := by
  unfold numR
  split
  · exact h
  · split
    · rename_i h2
      have : (k : Int) + wideN width ≤ l.length := by unfold getOk at h2; simp at h2; omega
      show k + wideN width ≤ _
      omega
    · exact h
theorem faR_le {l : List UInt8} : ∀ (n k : Nat) (bad : Bool), k ≤ l.length → (faR l n k bad).2.1 ≤ l.length
  | 0, k, bad, h => h
  | n + 1, k, bad, h => by
    unfold faR
    split
    · exact h
    · exact faR_le n _ _ (numR_le _ (numR_le _ h))
theorem fuR_le {l : List UInt8} : ∀ (n k : Nat) (bad : Bool), k ≤ l.length → (fuR l n k bad).2.1 ≤ l.length
  | 0, k, bad, h => h
  | n + 1, k, bad, h => by
    unfold fuR
    split
    · exact h
    · exact fuR_le n _ _ (numR_le _ h)
theorem restA_le (t : List UInt8) (d : Int) : (restA t d).2.1 ≤ t.length := by
  unfold restA
  split
  · exact numR_le _ (numR_le _ (Nat.zero_le _))
  · split
    · exact numR_le _ (Nat.zero_le _)
    · split
      · show (crashR t 0 false).2.2.1 ≤ _
        unfold crashR
        exact fuR_le _ _ _ (numR_le _ (faR_le _ _ _ (numR_le _ (Nat.zero_le _))))
      · exact Nat.zero_le _
theorem oneP_next {b : List UInt8} {a : Nat} (ha : a < b.length) (h : (oneP b a).2.2 = 0) : (a : Int) < (oneP b a).2.1 ∧ (oneP b a).2.1 ≤ b.length := by
  unfold oneP at h ⊢
  split at h
  · exact absurd h (by decide)
  · rename_i h6
    rw [if_neg h6]
    split at h
    · rename_i h0
      rw [if_pos h0]
      simp only at h ⊢
      rw [getP_refP] at h ⊢
      obtain ⟨_, h1, h2, _⟩ := bytes_refP h
      omega
    · rename_i h0
      rw [if_neg h0]
      split at h
      · exact absurd h (by decide)
      · rename_i hb
        rw [if_neg hb]
        have h1 := restA_le (b.drop (a + 1)) (byteA b a)
        simp only
        rw [List.length_drop] at h1 ⊢
        omega
end Go.Proofs.Ythkgchlndfcmpaa

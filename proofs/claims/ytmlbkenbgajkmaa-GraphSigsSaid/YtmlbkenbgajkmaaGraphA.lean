/- A script of the graph's steps that came in. -/
import Derived.Test.YtmlbkenbgajkmaaProg
import Derived.Test.YtmlbkenbgajkmaaArgS
import Derived.Test.YtmlbkenbgajkmaaGraphPl
namespace Go.Proofs.Ytmlbkenbgajkmaa
open Go.ChangeShapes Go.WideShapes Go.ChangeAt Go.RowKit
set_option maxRecDepth 100000

structure GSt where
  act : Int
  sig : Nat
  n : Int
  c : Int
deriving Inhabited
def gcells (s : GSt) : List Value := [.int .i64 s.act, .int .u64 (s.sig : Int), .int .i64 s.n, .int .i64 s.c]
def gok (s : GSt) : Prop := s.sig < 18446744073709551616 ∧ (Lit.int .i64 s.c).wf = true
theorem gcells_len (s : GSt) : (gcells s).length = 4 := rfl
theorem cellsGStep : Try.prog.cellsOf 42 = 4 := by kernel_rfl
theorem argGSt {H : Type} {enc : TypeId × Value → H} {w : World} {base : Nat} {spare : Nat → Bool} {held : Bool} {A : Option Addr} {len cap : Nat} {d : DataW H} {p : List MemPlace}
    (h : DataW.Trod enc Try.prog w base spare held 35 (.slice A len cap) d p) : ∃ l, ArgSt gcells 4 gok w A len cap l := by
  refine argSt gcells_len (by omega) Try.underlying35 cellsGStep (fun n cs x hl hx => ?_) h
  obtain ⟨y0, y1, y2, y3, m, _, _, h0, h1, h2, h3⟩ := Joins.trod_struct4 Try.underlying42 hx
  have ci : Try.prog.cellsOf 3 = 1 := by kernel_rfl
  have cu : Try.prog.cellsOf 36 = 1 := by kernel_rfl
  simp only [ci, cu] at h0 h1 h2 h3
  match cs, hl with
  | [c0, c1, c2, c3], _ =>
    obtain ⟨a0, e0, _, w0⟩ := DataW.trod_int Try.underlying3 h0
    obtain ⟨a1, e1, _, w1⟩ := DataW.trod_int Try.underlying36 h1
    obtain ⟨a2, e2, _, w2⟩ := DataW.trod_int Try.underlying3 h2
    obtain ⟨a3, e3, _, w3⟩ := DataW.trod_int Try.underlying3 h3
    simp at e0 e1 e2 e3
    subst e0 e1 e2 e3
    obtain ⟨k, rfl, hk⟩ := wf_u64 w1
    exact ⟨⟨a0, k, a2, a3⟩, rfl, hk, w3⟩

/-- A script: the sets behind it. -/
def goAll (S : List Nat) : List GSt → List Nat
  | [] => S
  | s :: l => goAll (goS S s.act s.n s.c s.sig).1 l
theorem goAll_snoc (S : List Nat) (l : List GSt) (s : GSt) : goAll S (l ++ [s]) = (goS (goAll S l) s.act s.n s.c s.sig).1 := by
  induction l generalizing S with
  | nil => rfl
  | cons x l ih => exact ih _
theorem goAll_take (S : List Nat) (l : List GSt) {k : Nat} {s : GSt} (h : l[k]? = some s) : goAll S (l.take (k + 1)) = (goS (goAll S (l.take k)) s.act s.n s.c s.sig).1 := by
  rw [List.take_add_one, h]
  exact goAll_snoc _ _ _
theorem goS_len (S : List Nat) (a n c : Int) (sig : Nat) : S.length ≤ (goS S a n c sig).1.length ∧ (goS S a n c sig).1.length ≤ S.length + 1 := by
  unfold goS
  split
  · split
    · exact nodeS_len _ _
    · exact ⟨Nat.le_refl _, Nat.le_succ _⟩
  · exact nodeS_len _ _
theorem goAll_len (l : List GSt) (S : List Nat) : (goAll S l).length ≤ S.length + l.length ∧ S.length ≤ (goAll S l).length := by
  induction l generalizing S with
  | nil => exact ⟨Nat.le_refl _, Nat.le_refl _⟩
  | cons s l ih =>
    have h1 := ih (goS S s.act s.n s.c s.sig).1
    have h2 := goS_len S s.act s.n s.c s.sig
    simp only [goAll, List.length_cons]
    omega
theorem goS_small {S : List Nat} (a n c : Int) {sig : Nat} (h : ∀ x ∈ S, x < 18446744073709551616) (hs : sig < 18446744073709551616) : ∀ x ∈ (goS S a n c sig).1, x < 18446744073709551616 := by
  unfold goS
  split
  · split
    · refine nodeS_bound h (stepSig_lt _ _ _ ?_)
      rename_i hn
      rw [List.getD_eq_getElem?_getD, List.getElem?_eq_getElem (by omega)]
      exact h _ (List.getElem_mem _)
    · exact h
  · exact nodeS_bound h hs
theorem goS_nodup {S : List Nat} (a n c : Int) (sig : Nat) (h : S.Nodup) : (goS S a n c sig).1.Nodup := by
  unfold goS
  split
  · split
    · exact nodeS_nodup h _
    · exact h
  · exact nodeS_nodup h _
theorem goAll_ok (l : List GSt) (S : List Nat) (hl : ∀ s ∈ l, gok s) (h : ∀ x ∈ S, x < 18446744073709551616) (hn : S.Nodup) : (∀ x ∈ goAll S l, x < 18446744073709551616) ∧ (goAll S l).Nodup := by
  induction l generalizing S with
  | nil => exact ⟨h, hn⟩
  | cons s l ih => exact ih _ (fun x hx => hl x (List.mem_cons_of_mem _ hx)) (goS_small _ _ _ h (hl s List.mem_cons_self).1) (goS_nodup _ _ _ _ hn)
end Go.Proofs.Ytmlbkenbgajkmaa

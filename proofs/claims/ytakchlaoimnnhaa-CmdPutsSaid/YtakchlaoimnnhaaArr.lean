/- Arrays of bytes by value: equality; laying bytes over a part. -/
import Derived.Test.YtakchlaoimnnhaaBys
import Derived.Test.YtakchlaoimnnhaaMem2
import Derived.Laws.StructEq
import Derived.Deep.MidRow
import Derived.Deep.WholeRow
namespace Go.Proofs.Ytakchlaoimnnhaa
open Go.RowKit
set_option maxRecDepth 100000
set_option linter.unusedVariables false

section
variable {P : Program}
theorem run_part_byte (w : World) (e : TypeId) (he : P.underlying e = some (.int .u8)) (l : List UInt8) (i : Nat) (hi : i < l.length) :
    (part e (bv l).toArray i).run P w = .ok (.int .u8 ((l.getD i 0).toNat : Int)) w := by
  have h := (bv_at hi).1
  have hagg : (isAgg e).run P w = .ok false w := by
    unfold isAgg
    rw [Sem.run_bind, run_underlying he w]
    rfl
  simp only [part, Sem.run_bind, hagg, Result.andThen_ok, Bool.false_eq_true, if_false, Sem.run_ite]
  have h2 : (bv l).toArray[i]? = some (.int .u8 ((l.getD i 0).toNat : Int)) := by simpa using h
  rw [h2]
  rfl
theorem bytes_eq_of {xs ys : List UInt8} (hl : xs.length = ys.length) (h : ∀ i, i < xs.length → xs.getD i 0 = ys.getD i 0) : xs = ys := by
  apply List.ext_getElem hl
  intro i h1 h2
  have := h i h1
  rwa [List.getD_eq_getElem?_getD, List.getD_eq_getElem?_getD, List.getElem?_eq_getElem h1, List.getElem?_eq_getElem h2] at this
def eqFrom (xs ys : List UInt8) : Nat → Nat → Bool
  | _, 0 => true
  | k, m + 1 => xs.getD k 0 == ys.getD k 0 && eqFrom xs ys (k + 1) m
theorem eqFrom_iff (xs ys : List UInt8) : ∀ m k, eqFrom xs ys k m = true ↔ ∀ i, k ≤ i → i < k + m → xs.getD i 0 = ys.getD i 0
  | 0, k => ⟨fun _ i h1 h2 => by omega, fun _ => rfl⟩
  | m + 1, k => by
    rw [eqFrom, Bool.and_eq_true, beq_iff_eq, eqFrom_iff xs ys m (k + 1)]
    constructor
    · rintro ⟨h1, h2⟩ i h3 h4
      rcases Nat.eq_or_lt_of_le h3 with rfl | h5
      · exact h1
      · exact h2 i h5 (by omega)
    · intro h
      exact ⟨h k (Nat.le_refl _) (by omega), fun i h3 h4 => h i (by omega) (by omega)⟩
theorem eqFrom_all {xs ys : List UInt8} {n : Nat} (hx : xs.length = n) (hy : ys.length = n) : eqFrom xs ys 0 n = decide (xs = ys) := by
  rw [Bool.eq_iff_iff, eqFrom_iff, decide_eq_true_iff]
  constructor
  · intro h; exact bytes_eq_of (by omega) (fun i hi => h i (by omega) (by omega))
  · rintro rfl i _ _; rfl
theorem forIn_bytes (e : TypeId) (D : Nat) (he : P.underlying e = some (.int .u8)) (hin : ∀ (w : World) (a b : Int), (Op.equalIn D e (.int .u8 a) (.int .u8 b)).run P w = .ok (a == b) w)
    (xs ys : List UInt8) (w : World) : ∀ m k, k + m ≤ xs.length → k + m ≤ ys.length → Sem.run P
          (forIn (List.range' k m 1) ((none : Option Bool), ()) fun i __s => do
            let __do_lift ← part e (bv xs).toArray i
            let __do_lift_1 ← part e (bv ys).toArray i
            let __do_lift ← Op.equalIn D e __do_lift __do_lift_1
            if (!__do_lift) = true then pure (ForInStep.done (some false, ())) else pure (ForInStep.yield (none, ())))
          w = .ok (if eqFrom xs ys k m = true then (none, ()) else (some false, ())) w
  | 0, k, _, _ => by simp [eqFrom, List.range']
  | m + 1, k, h1, h2 => by
    have ih := forIn_bytes e D he hin xs ys w m (k + 1) (by omega) (by omega)
    rw [List.range'_succ, List.forIn_cons]
    simp only [Sem.run_bind, run_part_byte w e he xs k (by omega), run_part_byte w e he ys k (by omega), Result.andThen_ok, hin, Sem.run_ite]
    by_cases h : xs.getD k 0 = ys.getD k 0
    · rw [h, beq_self_eq_true]
      simp only [Bool.not_true, Bool.false_eq_true, if_false, Sem.run_pure, Result.andThen_ok]
      rw [ih, eqFrom, h, beq_self_eq_true, Bool.true_and]
    · have h3 : (((xs.getD k 0).toNat : Int) == ((ys.getD k 0).toNat : Int)) = false := by
        rw [beq_eq_false_iff_ne]
        intro hh
        exact h (UInt8.toNat_inj.1 (by omega))
      rw [h3]
      simp only [Bool.not_false, if_true, Sem.run_pure, Result.andThen_ok]
      rw [eqFrom, show (xs.getD k 0 == ys.getD k 0) = false by rw [beq_eq_false_iff_ne]; exact h]
      rfl
theorem equal_loop (e : TypeId) (D : Nat) (n : Nat) (he : P.underlying e = some (.int .u8)) (hin : ∀ (w : World) (a b : Int), (Op.equalIn D e (.int .u8 a) (.int .u8 b)).run P w = .ok (a == b) w)
    (t : TypeId) (ht : P.underlying t = some (.array n e)) (hso : ∀ w, (sizeOf e).run P w = .ok 1 w) (xs ys : List UInt8) (hx : xs.length = n) (hy : ys.length = n) (w : World) :
    (Op.equalIn (D + 1) t (.agg (bv xs).toArray) (.agg (bv ys).toArray)).run P w = .ok (decide (xs = ys)) w := by
  simp only [Op.equalIn, Sem.run_bind, run_underlying ht, Result.andThen_ok, hso, Nat.mul_one]
  rw [Std.Legacy.Range.forIn_eq_forIn_range']
  have h := forIn_bytes (P := P) e D he hin xs ys w n 0 (by omega) (by omega)
  rw [show [:n].start = 0 from rfl, show [:n].size = n by simp [Std.Legacy.Range.size], show [:n].step = 1 from rfl, h, eqFrom_all hx hy]
  by_cases hh : xs = ys
  · rw [decide_eq_true hh]; rfl
  · rw [decide_eq_false hh]; rfl
/-- Two arrays of bytes, compared. -/
theorem run_equal_bytes (w : World) (t e : TypeId) (n d : Nat) (ht : P.underlying t = some (.array n e)) (he : P.underlying e = some (.int .u8)) (hs : (P.info? e).map (·.size) = some 1)
    (xs ys : List UInt8) (hx : xs.length = n) (hy : ys.length = n) :
    (Op.equalIn (d + 2) t (.agg (bv xs).toArray) (.agg (bv ys).toArray)).run P w = .ok (decide (xs = ys)) w := by
  refine equal_loop e (d + 1) n he (fun w a b => run_equalIn_int w d e .u8 .u8 a b he) t ht (fun w => ?_) xs ys hx hy w
  cases hq : P.info? e with
  | none => simp [hq] at hs
  | some i => simp [hq] at hs; simp [sizeOf, typeInfo, hq, hs]
end
end Go.Proofs.Ytakchlaoimnnhaa

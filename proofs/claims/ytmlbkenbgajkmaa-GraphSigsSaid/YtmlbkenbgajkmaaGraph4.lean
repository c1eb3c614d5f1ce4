/- Contracts of graph.New, vivariumlaw10.do, vivariumref10.Find, Node, Go. -/
import Derived.Test.YtmlbkenbgajkmaaGraph3
import Derived.Test.YtmlbkenbgajkmaaBits6
namespace Go.Proofs.Ytmlbkenbgajkmaa
open Go.RowKit
open Go.Maps (Keyed)
set_option maxRecDepth 100000

theorem gr_new (w : World) :
    Calls Try.prog 23 #[] w fun e w' => ∃ p Foot bl L, e = .returned (.pointer (some ⟨p, 0, none⟩)) ∧ Gr w' p Foot 0 [0] bl L ∧ Below w.heap.size w w' ∧ ∀ k, Foot k → w.heap.size ≤ k := by
  have hmm := @run_makeMap Try.prog
  have m0 := MapV.made (w.alloc (.cells #[.int .u64 0] 36)) Try.prog 36
  rw [World.size_alloc] at m0
  have hkey : keyOf Try.prog 36 (.int .u64 0) = some (.int .u64 0) := keyU64 0 (by omega)
  obtain ⟨w1, hrun, hm1, hk1⟩ := m0.update keyedU64 Try.underlying99 (by unfold maxLen; omega) (.int .i64 0) hkey (g := placeF [0]) (fun v l hv => by
    obtain ⟨a, rfl, ha⟩ := keyU64_inv hv
    obtain ⟨n, rfl⟩ := Int.eq_ofNat_of_zero_le ha
    have hp : pos [0] n = if n = 0 then some 0 else none := pos_snoc [] 0 n (by simp)
    constructor
    · intro e
      injection e with _ e
      obtain rfl : n = 0 := by omega
      rfl
    · intro e
      have : n ≠ 0 := fun h => e (by rw [h]; rfl)
      simp [placeF, hp, this])
  have hs1 : w.heap.size + 2 ≤ w1.heap.size := by have := hk1.size; simpa using this
  have hb0 : w1.heap[w.heap.size]? = some (.cells #[.int .u64 0] 36 (0, 0)) := by
    refine (hk1.block w.heap.size (by simp; omega) (by omega)).trans ?_
    rw [Below.heap_alloc _ _ _ (by simp)]
    exact heap_alloc_new w _
  have hkw : Keep (fun _ => False) w w1 := ⟨hk1.os, hk1.tape, hk1.output, by omega, fun k hk _ => by
    rw [hk1.block k (by simp; omega) (by omega), Below.heap_alloc _ _ _ (by simp; omega), Below.heap_alloc _ _ _ hk]⟩
  have HS := Lib.hid (And.intro hm1 (And.intro hk1 (And.intro hs1 (And.intro hb0 hkw))))
  clear hm1 hk1 hs1 hb0 hkw m0 hkey
  go_enter Try.func23, Try.ntmps23
  go_wp2
  go_ret
  obtain ⟨hm1, hk1, hs1, hb0, hkw⟩ := HS.out
  have ka := (Keep.refl (fun _ => False) w1).alloc (.map #[] 0)
  have kb := ka.alloc (.cells #[.slice (some ⟨w.heap.size, 0, none⟩) 1 1, .map (some (w.heap.size + 1)), .map (some w1.heap.size)] 102)
  refine ⟨w1.heap.size + 1, fun k => w.heap.size ≤ k ∧ k < w1.heap.size + 2, w1.heap.size, fun _ => none, rfl, ⟨⟨.slice (some ⟨w.heap.size, 0, none⟩) 1 1, w.heap.size + 1, ?_, ?_, ?_, ?_, ?_, by omega, ⟨by omega, by omega⟩, ⟨by omega, by omega⟩, ?_⟩, ⟨by omega, by omega⟩, ?_, ?_, by simp, by decide, by decide⟩, ?_, fun k hk => hk.1⟩
  · exact heap_alloc2_new w1 _ _
  · refine (Own.keep (S := fun _ => False) (w := w1) ?_ kb (fun _ _ h => h))
    exact ⟨rfl, some ⟨w.heap.size, 0, none⟩, 1, rfl, Nat.le_refl _, by unfold maxLen; omega, fun _ => ⟨w.heap.size, #[.int .u64 0], rfl, Nat.zero_le _, hb0, rfl, rfl⟩⟩
  · exact hm1.keep kb (fun h => h)
  · exact (MapV.made w1 Try.prog 113).keep ((Keep.refl (fun _ => False) _).alloc _) (fun h => h)
  · intro n c b m h
    cases h
  · intro k hk
    simp [ownB] at hk
    omega
  · intro k hk
    simp
    omega
  · intro x hx
    simp at hx
    omega
  · exact hkw.to_below'.trans ((kb.to_below').mono hkw.size)
end Go.Proofs.Ytmlbkenbgajkmaa

/- Contract of cmd.Put, of any command. -/
import Derived.Test.YthkgchlndfcmpaaCmdR
import Derived.Test.YthkgchlndfcmpaaCmdP
namespace Go.Proofs.Ythkgchlndfcmpaa
open Go.RowKit
set_option maxRecDepth 100000
set_option linter.unusedVariables false

theorem cput_any (x : Cmd) (u v : Value) (l : List UInt8) (F G : Nat → Prop) (w : World) (hv : By w F v l) (hn : l.length ≤ 1099511627776) (hq : By w G u x.l) (hm : x.l.length ≤ 1099511627776) :
    Calls Try.prog 105 #[v, cmdV x u] w (BytesPost w (l ++ bytesC x)) := by
  obtain ⟨d, loc, idx, gen, comp, q⟩ := x
  have hq0 := hq
  obtain ⟨B, c2, rfl, -⟩ := hq
  unfold cmdV
  by_cases hd : knownC d = false
  · rw [show bytesC ⟨d, loc, idx, gen, comp, q⟩ = [255] from by unfold bytesC; rw [if_pos hd]]
    exact cput_not d idx gen comp loc B _ c2 l v F w hv hn hd
  have hd2 : d = 0 ∨ d = 1 ∨ d = 2 ∨ d = 3 := by
    have : 0 ≤ d ∧ d ≤ 3 := by
      by_cases h : 0 ≤ d ∧ d ≤ 3
      · exact h
      · exact absurd (decide_eq_false h) hd
    omega
  clear hd
  rcases hd2 with rfl | rfl | rfl | rfl
  · rw [show bytesC ⟨0, loc, idx, gen, comp, q⟩ = [0] from by show leB (word 0) 1 ++ [] = _; rw [List.append_nil]; rfl]
    exact cput_0 idx gen comp loc B _ c2 l v F w hv hn
  · rcases loc with _ | _
    · rw [show bytesC ⟨1, false, idx, gen, comp, q⟩ = leB (word 1) 1 ++ (leB (word 0) 1 ++ (leB (word idx) 8 ++ leB (word gen) 8)) from by
        show leB (word 1) 1 ++ (([0] ++ (leB (word idx) 8 ++ leB (word gen) 8)) ++ ([] ++ [])) = _
        rw [List.append_nil, List.append_nil]; rfl]
      exact cput_1f idx gen comp B _ c2 l v F w hv hn
    · rw [show bytesC ⟨1, true, idx, gen, comp, q⟩ = leB (word 1) 1 ++ (leB (word 1) 1 ++ leB (word idx) 8) from by
        show leB (word 1) 1 ++ (([1] ++ leB (word idx) 8) ++ ([] ++ [])) = _
        rw [List.append_nil, List.append_nil]; rfl]
      exact cput_1t idx gen comp B _ c2 l v F w hv hn
  · rcases loc with _ | _
    · rw [show bytesC ⟨2, false, idx, gen, comp, q⟩ = leB (word 2) 1 ++ ((leB (word 0) 1 ++ (leB (word idx) 8 ++ leB (word gen) 8)) ++ (leB (word comp) 8 ++ (leB (word (q.length : Nat)) 2 ++ q))) from rfl]
      exact cput_2f idx gen comp B _ c2 l v F w hv hn q G hq0 hm
    · rw [show bytesC ⟨2, true, idx, gen, comp, q⟩ = leB (word 2) 1 ++ ((leB (word 1) 1 ++ leB (word idx) 8) ++ (leB (word comp) 8 ++ (leB (word (q.length : Nat)) 2 ++ q))) from rfl]
      exact cput_2t idx gen comp B _ c2 l v F w hv hn q G hq0 hm
  · rcases loc with _ | _
    · rw [show bytesC ⟨3, false, idx, gen, comp, q⟩ = leB (word 3) 1 ++ ((leB (word 0) 1 ++ (leB (word idx) 8 ++ leB (word gen) 8)) ++ leB (word comp) 8) from by
        show leB (word 3) 1 ++ (([0] ++ (leB (word idx) 8 ++ leB (word gen) 8)) ++ (leB (word comp) 8 ++ [])) = _
        rw [List.append_nil]; rfl]
      exact cput_3f idx gen comp B _ c2 l v F w hv hn
    · rw [show bytesC ⟨3, true, idx, gen, comp, q⟩ = leB (word 3) 1 ++ ((leB (word 1) 1 ++ leB (word idx) 8) ++ leB (word comp) 8) from by
        show leB (word 3) 1 ++ (([1] ++ leB (word idx) 8) ++ (leB (word comp) 8 ++ [])) = _
        rw [List.append_nil]; rfl]
      exact cput_3t idx gen comp B _ c2 l v F w hv hn
end Go.Proofs.Ythkgchlndfcmpaa

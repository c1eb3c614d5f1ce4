/- Contracts of cmd.Plain, vivariumref13.Plain, Exact, cmd.Same, whatever the commands. -/
import Derived.Test.YthkgchlndfcmpaaCmd4
namespace Go.Proofs.Ythkgchlndfcmpaa
open Go.RowKit
set_option maxRecDepth 100000
set_option linter.unusedVariables false

/-- A call that leaves a command, its bytes in blocks of G. -/
def CmdPost (w : World) (G : Nat → Prop) (y : Cmd) (e : Ending) (w' : World) : Prop := ∃ A c, e = .returned (cmdV y (.slice A y.l.length c)) ∧ By w' G (.slice A y.l.length c) y.l ∧ Below w.heap.size w w'
theorem knownC_cases (d : Int) : knownC d = false ∧ (d < 0 ∨ (0 ≤ d ∧ 3 < d)) ∨ d = 0 ∨ d = 1 ∨ d = 2 ∨ d = 3 := by
  by_cases h : 0 ≤ d ∧ d ≤ 3
  · omega
  · exact .inl ⟨by unfold knownC; rw [decide_eq_false h], by omega⟩
theorem rplain_any (x : Cmd) (v : Value) (F : Nat → Prop) (w : World) (hv : By w F v x.l) :
    Calls Try.prog 79 #[cmdV x v] w (CmdPost w (fun b => F b ∨ w.heap.size ≤ b) (plainC x)) := by
  obtain ⟨d, loc, idx, gen, comp, l⟩ := x
  have hv0 : By w F v l := hv
  obtain ⟨A, c, rfl, _, _, _, _⟩ := id hv0
  have nil : ∀ w', By w' (fun b => F b ∨ w.heap.size ≤ b) (.slice none 0 0) [] := fun w' => By.nil _ _
  have keepv : ∀ w', Below w.heap.size w w' → By w' (fun b => F b ∨ w.heap.size ≤ b) (.slice A l.length c) l := fun w' hb => (hv0.below hb).mono (fun _ _ h => .inl h)
  rcases knownC_cases d with ⟨hk, hd⟩ | rfl | rfl | rfl | rfl
  · refine (rplain_not d idx gen comp loc A l.length c w hd).mono fun e w' ⟨he, hb⟩ => ?_
    have e1 : plainC ⟨d, loc, idx, gen, comp, l⟩ = ⟨d, loc, idx, gen, comp, l⟩ := by unfold plainC; rw [if_pos hk]
    rw [e1]
    exact ⟨A, c, he, keepv w' hb, hb⟩
  · exact (rplain_0 idx gen comp loc A l.length c w).mono fun e w' ⟨he, hb⟩ => ⟨none, 0, he, nil w', hb⟩
  · cases loc
    · exact (rplain_1f idx gen comp A l.length c w).mono fun e w' ⟨he, hb⟩ => ⟨none, 0, he, nil w', hb⟩
    · exact (rplain_1t idx gen comp A l.length c w).mono fun e w' ⟨he, hb⟩ => ⟨none, 0, he, nil w', hb⟩
  · cases loc
    · exact (rplain_2f idx gen comp A l.length c w).mono fun e w' ⟨he, hb⟩ => ⟨A, c, he, keepv w' hb, hb⟩
    · exact (rplain_2t idx gen comp A l.length c w).mono fun e w' ⟨he, hb⟩ => ⟨A, c, he, keepv w' hb, hb⟩
  · cases loc
    · exact (rplain_3f idx gen comp A l.length c w).mono fun e w' ⟨he, hb⟩ => ⟨none, 0, he, nil w', hb⟩
    · exact (rplain_3t idx gen comp A l.length c w).mono fun e w' ⟨he, hb⟩ => ⟨none, 0, he, nil w', hb⟩
theorem pplain_any (x : Cmd) (v : Value) (F : Nat → Prop) (w : World) (hv : By w F v x.l) (hn : x.l.length ≤ 140737488355328) :
    Calls Try.prog 76 #[cmdV x v] w (CmdPost w (fun b => w.heap.size ≤ b) (plainC x)) := by
  obtain ⟨d, loc, idx, gen, comp, l⟩ := x
  have hv0 : By w F v l := hv
  obtain ⟨A, c, rfl, _, _, _, _⟩ := id hv0
  have nil : ∀ w', By w' (fun b => w.heap.size ≤ b) (.slice none 0 0) [] := fun w' => By.nil _ _
  rcases knownC_cases d with ⟨hk, hd⟩ | rfl | rfl | rfl | rfl
  · refine (pplain_not d idx gen comp loc l _ F w hk hv0 hn).mono fun e w' ⟨A', c', he, hb, hbel⟩ => ?_
    have e1 : plainC ⟨d, loc, idx, gen, comp, l⟩ = ⟨d, loc, idx, gen, comp, l⟩ := by unfold plainC; rw [if_pos hk]
    rw [e1]
    exact ⟨A', c', he, hb, hbel⟩
  · exact (pplain_0 idx gen comp loc A l.length c w).mono fun e w' ⟨he, hb⟩ => ⟨none, 0, he, nil w', hb⟩
  · cases loc
    · exact (pplain_1f idx gen comp A l.length c w).mono fun e w' ⟨he, hb⟩ => ⟨none, 0, he, nil w', hb⟩
    · exact (pplain_1t idx gen comp A l.length c w).mono fun e w' ⟨he, hb⟩ => ⟨none, 0, he, nil w', hb⟩
  · cases loc
    · exact (pplain_2f idx gen comp l _ F w hv0 hn).mono fun e w' ⟨A', c', he, hb, hbel⟩ => ⟨A', c', he, hb, hbel⟩
    · exact (pplain_2t idx gen comp l _ F w hv0 hn).mono fun e w' ⟨A', c', he, hb, hbel⟩ => ⟨A', c', he, hb, hbel⟩
  · cases loc
    · exact (pplain_3f idx gen comp A l.length c w).mono fun e w' ⟨he, hb⟩ => ⟨none, 0, he, nil w', hb⟩
    · exact (pplain_3t idx gen comp A l.length c w).mono fun e w' ⟨he, hb⟩ => ⟨none, 0, he, nil w', hb⟩
theorem exact_any (a b : Cmd) (u v : Value) (F G : Nat → Prop) (w : World) (hu : By w F u a.l) (hv : By w G v b.l) :
    Calls Try.prog 75 #[cmdV a u, cmdV b v] w fun e w' => e = .returned (.bool (exactC a b)) ∧ Below w.heap.size w w' := by
  have hs := fun W (hk : Keep (fun _ => False) w W) => same_any a.l b.l u v F G W (hu.keep hk (fun _ _ _ h => h)) (hv.keep hk (fun _ _ _ h => h))
  obtain ⟨A, c, rfl, _, _, _, _⟩ := hu
  obtain ⟨B, d, rfl, _, _, _, _⟩ := hv
  exact exact_raw a.do_ a.idx a.gen a.comp b.do_ b.idx b.gen b.comp a.loc b.loc _ A B _ c _ d w hs
end Go.Proofs.Ythkgchlndfcmpaa

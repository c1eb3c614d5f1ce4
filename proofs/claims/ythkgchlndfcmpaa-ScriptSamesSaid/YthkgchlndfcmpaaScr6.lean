/- script.Plain and vivariumref31.Plain, of any act. -/
import Derived.Test.YthkgchlndfcmpaaScr5
import Derived.Test.YthkgchlndfcmpaaScrPb
namespace Go.Proofs.Ythkgchlndfcmpaa
open Go.RowKit
set_option maxRecDepth 100000
set_option linter.unusedVariables false

theorem rplainA_any (x : Ac) (u1 u2 u3 : Value) (F : Nat → Prop) (w : World) (h : AM w F x u1 u2 u3) :
    Calls Try.prog 29 #[actV x u1 u2 u3] w (APost w (fun b => F b ∨ w.heap.size ≤ b) (plainA x)) := by
  obtain ⟨A1, c1, e1, -⟩ := h.1
  obtain ⟨A2, c2, e2⟩ := h.2.1.form
  obtain ⟨A3, c3, e3⟩ := h.2.2.form
  subst e1 e2 e3
  obtain ⟨d, cm, room, frames, nn, fa, fu⟩ := x
  by_cases h0 : d = 0
  · subst h0; exact rp_0 cm room frames nn fa fu A1 A2 A3 _ _ _ c1 c2 c3 F w h
  by_cases h4 : d = 4
  · subst h4; exact rp_4 cm room frames nn fa fu A1 A2 A3 _ _ _ c1 c2 c3 F w h
  by_cases h5 : d = 5
  · subst h5; exact rp_5 cm room frames nn fa fu A1 A2 A3 _ _ _ c1 c2 c3 F w h
  by_cases h6 : d = 6
  · subst h6; exact rp_6 cm room frames nn fa fu A1 A2 A3 _ _ _ c1 c2 c3 F w h
  · exact rp_o d cm room frames nn fa fu A1 A2 A3 _ _ _ c1 c2 c3 F w h0 h4 h5 h6 h
theorem splainA_any (x : Ac) (u1 u2 u3 : Value) (F : Nat → Prop) (w : World) (h : AM w F x u1 u2 u3) (hs : smallA x) :
    Calls Try.prog 28 #[actV x u1 u2 u3] w (APost w (fun b => F b ∨ w.heap.size ≤ b) (plainA x)) := by
  obtain ⟨A1, c1, e1, -⟩ := h.1
  obtain ⟨A2, c2, e2⟩ := h.2.1.form
  obtain ⟨A3, c3, e3⟩ := h.2.2.form
  subst e1 e2 e3
  obtain ⟨d, cm, room, frames, nn, fa, fu⟩ := x
  by_cases h0 : d = 0
  · subst h0; exact sp_0 cm room frames nn fa fu A1 A2 A3 _ _ _ c1 c2 c3 F w (by have := hs.1; simp only at this; omega) h
  by_cases h4 : d = 4
  · subst h4; exact sp_4 cm room frames nn fa fu A1 A2 A3 _ _ _ c1 c2 c3 F w h
  by_cases h5 : d = 5
  · subst h5; exact sp_5 cm room frames nn fa fu A1 A2 A3 _ _ _ c1 c2 c3 F w h
  by_cases h6 : d = 6
  · subst h6; exact sp_6 cm room frames nn fa fu A1 A2 A3 _ _ _ c1 c2 c3 F w hs.2 h
  · exact sp_o d cm room frames nn fa fu A1 A2 A3 _ _ _ c1 c2 c3 F w h0 h4 h5 h6 h
end Go.Proofs.Ythkgchlndfcmpaa

/- Rows in memory; vivariumref09.SameIDs, SameParts, SameTold of two alike. -/
import Derived.Test.YtdeifjnhbdkkgaaGreatDoorTabA
import Derived.Test.YtdeifjnhbdkkgaaGreatDoorSame
namespace Go.Proofs.YtdeifjnhbdkkgaaGreatDoor
open Go.RowKit
set_option maxRecDepth 100000
set_option linter.unusedVariables false
set_option linter.unusedSimpArgs false

/-- A row: whose, and its parts. -/
structure EnZ where
  id : IdZ
  parts : List PtZ
deriving DecidableEq, Inhabited
def entN : Nst EnZ Value where
  cells p := [.int .i64 p.1.id.ix, .int .i64 p.1.id.gen, p.2]
  m := 3
  pos := by decide
  len _ := rfl
  inn w F x u := NS parN w F u x.parts
  one h u hu := by
    obtain ⟨A, c, rfl, -⟩ := h.form
    simp only [List.mem_cons, List.not_mem_nil, or_false] at hu
    rcases hu with rfl | rfl | rfl <;> rfl
  keep h hk hs := NS.keep h hk hs
  mono h hf := NS.mono h hf
theorem info_ent : (Tryz.prog.info? 94).map (fun i => (i.zero, i.size, i.bytes)) = some (some (.agg #[.int .i64 0, .int .i64 0, .slice none 0 0]), 3, 40) := by kernel_rfl
/-- A name of a list of names. -/
theorem ids_at {w : World} {F : Nat → Prop} {A : Option Addr} {n c k : Nat} {l : List IdZ} (h : Sl w F 2 (.slice A n c) n (l.flatMap idC)) (hl : l.length = n) (hk : k < n) :
    ∃ b off, A = some ⟨b, off, none⟩ ∧ F b ∧ w.cell? ⟨b, off + k * 2, none⟩ = some (.int .i64 (l.getD k default).ix) ∧ w.cell? ⟨b, off + k * 2 + 1, none⟩ = some (.int .i64 (l.getD k default).gen) := by
  obtain ⟨A9, c9, e9, _, _, _, hr⟩ := h
  injection e9 with e91 e92 e93
  subst e91
  obtain ⟨b, o, rfl, hF, hc⟩ := hr.2 (by omega)
  obtain ⟨h1, h2⟩ := flat_atId (l := l) (k := k) (by omega)
  exact ⟨b, o, rfl, hF, hc _ _ h1, by have := hc _ _ h2; rwa [← Nat.add_assoc] at this⟩
end Go.Proofs.YtdeifjnhbdkkgaaGreatDoor

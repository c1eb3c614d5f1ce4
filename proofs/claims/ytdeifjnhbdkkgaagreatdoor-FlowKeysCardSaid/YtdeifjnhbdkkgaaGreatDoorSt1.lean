/- Steps and states of layer 11 in memory; vivariumref11.Much, Same; vivariumref04.SameList of two alike. -/
import Derived.Test.YtdeifjnhbdkkgaaGreatDoorTabG
namespace Go.Proofs.YtdeifjnhbdkkgaaGreatDoor
open Go.RowKit
set_option maxRecDepth 100000
set_option linter.unusedVariables false
set_option linter.unusedSimpArgs false

/-- A step. -/
structure StE where
  do_ : Int
  id : IdZ
  k : Int
  data : List UInt8
deriving DecidableEq, Inhabited
def seN : Nst StE Value where
  cells p := [.int .i64 p.1.do_, .int .i64 p.1.id.ix, .int .i64 p.1.id.gen, .int .i64 p.1.k, p.2]
  m := 5
  pos := by decide
  len _ := rfl
  inn w F x u := By w F u x.data
  one h u hu := by
    obtain ⟨B, d, h2, -⟩ := h
    simp only [List.mem_cons, List.not_mem_nil, or_false] at hu
    rcases hu with rfl | rfl | rfl | rfl | rfl
    · rfl
    · rfl
    · rfl
    · rfl
    · rw [h2]; rfl
  keep h hk hs := By.keep h hk hs
  mono h hf := By.mono h hf
def Much11 (l : List StE) (e : Ending) : Prop := ∃ b : Bool, e = .returned (.bool b) ∧ (b = false → l.length ≤ 60 ∧ ∀ x ∈ l, x.data.length ≤ 200)
theorem ivI_at {l : List Int} {k : Nat} {d : Int} (h : k < l.length) : (iv l)[k]? = some (.int .i64 (l.getD k d)) := by
  rw [List.getD_eq_getElem?_getD, List.getElem?_eq_getElem h]
  simp [iv, h]
/-- A number of a list of numbers. -/
theorem nums_at {w : World} {F : Nat → Prop} {A : Option Addr} {n c k : Nat} {l : List Int} (h : Sl w F 1 (.slice A n c) n (iv l)) (hl : l.length = n) (hk : k < n) :
    ∃ b off, A = some ⟨b, off, none⟩ ∧ F b ∧ w.cell? ⟨b, off + k, none⟩ = some (.int .i64 (l.getD k 0)) := by
  obtain ⟨A9, c9, e9, _, _, _, hr⟩ := h
  injection e9 with e91 e92 e93
  subst e91
  obtain ⟨b, o, rfl, hF, hc⟩ := hr.2 (by omega)
  exact ⟨b, o, rfl, hF, hc _ _ (ivI_at (by omega))⟩
/-- A state in memory. -/
structure SZ where
  gens : List Int
  free : List Int
  ents : List EnZ
deriving DecidableEq, Inhabited
def StM (w : World) (F : Nat → Prop) (u : Value) (s : SZ) : Prop :=
  ∃ vg vf ve, u = .agg #[vg, vf, ve] ∧ Sl w F 1 vg s.gens.length (iv s.gens) ∧ Sl w F 1 vf s.free.length (iv s.free) ∧ NS entN w F ve s.ents
section
variable {w w' : World} {F G S : Nat → Prop} {u : Value} {s : SZ}
theorem StM.keep (h : StM w F u s) (hk : Keep S w w') (hs : ∀ b, b < w.heap.size → F b → ¬ S b) : StM w' F u s := by
  obtain ⟨vc, vs, vr, rfl, h1, h2, h3⟩ := h
  exact ⟨vc, vs, vr, rfl, h1.keep hk hs, h2.keep hk hs, h3.keep hk hs⟩
theorem StM.same (h : StM w F u s) (hk : Keep (fun _ => False) w w') : StM w' F u s := h.keep hk (fun _ _ _ h => h)
theorem StM.mono (h : StM w F u s) (hf : ∀ b, b < w.heap.size → F b → G b) : StM w G u s := by
  obtain ⟨vc, vs, vr, rfl, h1, h2, h3⟩ := h
  exact ⟨vc, vs, vr, rfl, h1.mono hf, h2.mono hf, h3.mono hf⟩
/-- Its form. -/
theorem StM.form (h : StM w F u s) : ∃ Ac cc As cs Ar cr, u = .agg #[.slice Ac s.gens.length cc, .slice As s.free.length cs, .slice Ar s.ents.length cr] ∧ s.gens.length ≤ cc ∧ cc ≤ maxLen ∧ s.free.length ≤ cs ∧ cs ≤ maxLen ∧ s.ents.length ≤ cr ∧ cr ≤ maxLen ∧
    Sl w F 1 (.slice Ac s.gens.length cc) s.gens.length (iv s.gens) ∧ Sl w F 1 (.slice As s.free.length cs) s.free.length (iv s.free) ∧ NS entN w F (.slice Ar s.ents.length cr) s.ents := by
  obtain ⟨vc, vs, vr, rfl, h1, h2, h3⟩ := h
  have k1 := h1
  have k2 := h2
  obtain ⟨Ac, cc, rfl, a1, a2, -⟩ := h1
  obtain ⟨As, cs, rfl, b1, b2, -⟩ := h2
  obtain ⟨Ar, cr, rfl, d1, d2⟩ := h3.form
  exact ⟨Ac, cc, As, cs, Ar, cr, rfl, a1, a2, b1, b2, d2, d1, k1, k2, h3⟩
end
end Go.Proofs.YtdeifjnhbdkkgaaGreatDoor
namespace Go.Proofs.YtdeifjnhbdkkgaaGreatDoor
open Go.RowKit
open Go.ChangeShapes Go.WideShapes
set_option maxRecDepth 100000
set_option linter.unusedVariables false
set_option linter.unusedSimpArgs false

def seV (x : StE) (d : Value) : Value := .agg #[.int .i64 x.do_, .int .i64 x.id.ix, .int .i64 x.id.gen, .int .i64 x.k, d]
def seR (x : StE) : Prop := -9223372036854775808 ≤ x.k ∧ x.k ≤ 9223372036854775807
section
variable {H : Type} {enc : TypeId × Value → H} {w : World} {base : Nat} {spare : Nat → Bool} {held : Bool} {A : Option Addr} {len cap : Nat} {d : DataW H} {p : List MemPlace}
end
end Go.Proofs.YtdeifjnhbdkkgaaGreatDoor

/- A core in memory. -/
import Derived.Test.YtdeifjnhbdkkgaaGreatDoorIds1
import Derived.Test.YtdeifjnhbdkkgaaGreatDoorGraph5
import Derived.Test.YtdeifjnhbdkkgaaGreatDoorTab7
import Derived.Test.YtdeifjnhbdkkgaaGreatDoorComp5
namespace Go.Proofs.YtdeifjnhbdkkgaaGreatDoor
open Go.RowKit
set_option maxRecDepth 100000
set_option linter.unusedVariables false
set_option linter.unusedSimpArgs false

/-- Where an index stands: a node, a row, whether it is there at all. -/
structure Sp where
  node : Nat
  row : Nat
  there : Bool
deriving DecidableEq, Inhabited
def spC (x : Sp) : List Value := [.int .i64 (x.node : Int), .int .i64 (x.row : Int), .bool x.there]
theorem spC_len (x : Sp) : (spC x).length = 3 := rfl
/-- A table: whose rows, and its columns. -/
structure Tz where
  ids : List IdZ
  col : Nat → List (List UInt8)
/-- A core: names, the graph's sets, a table for each of the first ones, where each index stands. -/
structure Co where
  na : Na
  sigs : List Nat
  tabs : List Tz
  spots : List Sp
/-- The blocks of a core: its names, graph, tables, spots, components; which part a block belongs to. -/
structure CoB where
  ip : Nat
  vs : Value
  vf : Value
  gp : Nat
  GF : Nat → Prop
  vT : Value
  vS : Value
  uC : Value
  CF : Nat → Prop
  tp : Nat → Nat
  mb : Nat → Nat
  tv : Nat → Value
  cp : Nat → Nat → Nat
  FC : Nat → Nat → Nat → Prop
  tag : Nat → Nat
/-- The blocks of part n: 0 the core's own, 1 names, 2 the graph, 3 the list of tables, 4 the spots, 5 the components, 6 + j table j. -/
def Cls (xp : Nat) (B : CoB) (sigs : List Nat) (m : Nat) (n k : Nat) : Prop :=
  (n = 0 ∧ k = xp) ∨ (n = 1 ∧ IdF B.ip B.vs B.vf k) ∨ (n = 2 ∧ B.GF k) ∨ (n = 3 ∧ ownB B.vT = some k) ∨ (n = 4 ∧ ownB B.vS = some k) ∨ (n = 5 ∧ B.CF k) ∨ ∃ j, n = 6 + j ∧ j < m ∧ TF (B.tp j) (B.mb j) (B.tv j) (B.FC j) (sigs.getD j 0) k
structure CoM (w : World) (c : Cf) (xp : Nat) (B : CoB) (q : Nat) (a : Co) : Prop where
  box : w.heap[xp]? = some (.cells #[.int .i64 c.log, .int .i64 c.pages, .int .i64 c.ents, .int .i64 c.gens, B.uC, .pointer (some ⟨B.ip, 0, none⟩), .pointer (some ⟨B.gp, 0, none⟩), B.vT, B.vS] 76 (0, 0))
  names : IdM w B.ip B.vs B.vf a.na
  graph : GrIs w B.gp B.GF q a.sigs
  oT : Own w 0 77 1 B.vT a.tabs.length ((List.range a.tabs.length).map fun j => .pointer (some ⟨B.tp j, 0, none⟩))
  oS : Own w 0 89 3 B.vS a.spots.length (a.spots.flatMap spC)
  comps : CL w B.CF B.uC c.l
  clt : ∀ k, B.CF k → k < w.heap.size
  tab : ∀ j t, a.tabs[j]? = some t → Tb w (B.tp j) (B.mb j) (B.tv j) (B.cp j) (B.FC j) (a.sigs.getD j 0) (szOf c.l) t.ids t.col ∧ ∀ d, d ∈ bl (a.sigs.getD j 0) 64 → (t.col d).length = t.ids.length
  tags : ∀ n k, Cls xp B a.sigs a.tabs.length n k → B.tag k = n
  few : a.tabs.length ≤ a.sigs.length
  asked : q ≤ 1000000
  sgs : a.sigs.length ≤ 1000000
  spf : a.spots.length ≤ 1024
/-- All its blocks. -/
def CoF (xp : Nat) (B : CoB) (a : Co) (k : Nat) : Prop := ∃ n, Cls xp B a.sigs a.tabs.length n k
section
variable {w w' : World} {c : Cf} {xp q : Nat} {B : CoB} {a : Co} {S : Nat → Prop}
theorem GrIs.lt {w : World} {p q : Nat} {F : Nat → Prop} {S : List Nat} (h : GrIs w p F q S) : ∀ k, F k → k < w.heap.size := by
  obtain ⟨q', bl, L, _, h⟩ := h
  exact h.lt
theorem CoM.lt (h : CoM w c xp B q a) : ∀ k, CoF xp B a k → k < w.heap.size := fun k ⟨n, hk⟩ => by
  rcases hk with ⟨-, rfl⟩ | ⟨-, hk⟩ | ⟨-, hk⟩ | ⟨-, hk⟩ | ⟨-, hk⟩ | ⟨-, hk⟩ | ⟨j, -, hj, hk⟩
  · exact (Array.getElem?_eq_some_iff.1 h.box).1
  · exact h.names.lt k hk
  · exact h.graph.lt k hk
  · exact (h.oT.ownB k hk).2
  · exact (h.oS.ownB k hk).2
  · exact h.clt k hk
  · exact (h.tab j _ (List.getElem?_eq_getElem hj)).1.lt k hk
theorem CoM.keep (h : CoM w c xp B q a) (hk : Keep S w w') (hs : ∀ k, CoF xp B a k → ¬ S k) : CoM w' c xp B q a :=
  ⟨(hk.block xp (Array.getElem?_eq_some_iff.1 h.box).1 (hs xp ⟨0, .inl ⟨rfl, rfl⟩⟩)).trans h.box, h.names.keep hk (fun k e => hs k ⟨1, .inr (.inl ⟨rfl, e⟩)⟩), h.graph.keep hk (fun k e => hs k ⟨2, .inr (.inr (.inl ⟨rfl, e⟩))⟩),
    h.oT.keep hk (fun k e => hs k ⟨3, .inr (.inr (.inr (.inl ⟨rfl, e⟩)))⟩), h.oS.keep hk (fun k e => hs k ⟨4, .inr (.inr (.inr (.inr (.inl ⟨rfl, e⟩))))⟩), h.comps.keep hk (fun k _ e => hs k ⟨5, .inr (.inr (.inr (.inr (.inr (.inl ⟨rfl, e⟩)))))⟩),
    fun k e => Nat.lt_of_lt_of_le (h.clt k e) hk.size, fun j t ht => ⟨(h.tab j t ht).1.keep hk (fun k e => hs k ⟨6 + j, .inr (.inr (.inr (.inr (.inr (.inr ⟨j, rfl, (List.getElem?_eq_some_iff.1 ht).1, e⟩)))))⟩), (h.tab j t ht).2⟩, h.tags, h.few, h.asked, h.sgs, h.spf⟩
theorem CoM.same (h : CoM w c xp B q a) (hk : Keep (fun _ => False) w w') : CoM w' c xp B q a := h.keep hk (fun _ _ h => h)
/-- Parts are apart. -/
theorem CoM.apart (h : CoM w c xp B q a) {n n' k : Nat} (h1 : Cls xp B a.sigs a.tabs.length n k) (h2 : Cls xp B a.sigs a.tabs.length n' k) : n = n' := (h.tags n k h1).symm.trans (h.tags n' k h2)
end
/-- Where a call leaves a core. -/
def CoTo (w : World) (c : Cf) (xp : Nat) (Foot : Nat → Prop) (q : Nat) (a : Co) (w' : World) : Prop :=
  ∃ B, CoM w' c xp B q a ∧ Keep Foot w w' ∧ ∀ k, CoF xp B a k → Foot k ∨ w.heap.size ≤ k
section
variable {w w1 w' : World} {c : Cf} {xp q : Nat} {B : CoB} {a : Co} {S Foot : Nat → Prop}
theorem CoM.to (h : CoM w c xp B q a) : CoTo w c xp (CoF xp B a) q a w := ⟨B, h, Keep.refl _ _, fun k hk => .inl hk⟩
theorem CoTo.same (h : CoTo w c xp Foot q a w1) (hk : Keep (fun _ => False) w1 w') : CoTo w c xp Foot q a w' := by
  obtain ⟨B, h1, h2, h3⟩ := h
  exact ⟨B, h1.same hk, h2.trans hk (fun _ _ h => h.elim), h3⟩
theorem CoTo.from_ (hk : Keep (fun _ => False) w w1) (h : CoTo w1 c xp Foot q a w') : CoTo w c xp Foot q a w' := by
  obtain ⟨B, h1, h2, h3⟩ := h
  exact ⟨B, h1, (hk.mono (fun _ _ h => h.elim)).trans h2 (fun _ _ h => h), fun k e => (h3 k e).imp_right (fun e => Nat.le_trans hk.size e)⟩
/-- The names have turned. -/
theorem CoM.namesTo_ (h : CoM w c xp B q a) {na : Na} (ht : IdTo w B.ip (IdF B.ip B.vs B.vf) na w') : ∃ B', (CoM w' c xp B' q ⟨na, a.sigs, a.tabs, a.spots⟩ ∧ Keep (CoF xp B a) w w' ∧ ∀ k, CoF xp B' ⟨na, a.sigs, a.tabs, a.spots⟩ k → CoF xp B a k ∨ w.heap.size ≤ k) ∧ B'.tp = B.tp ∧ B'.gp = B.gp := by
  obtain ⟨vs, vf, h1, h2, h3⟩ := ht
  have hlt := h.lt
  have hne : ∀ n k, n ≠ 1 → Cls xp B a.sigs a.tabs.length n k → ¬ IdF B.ip B.vs B.vf k := fun n k hn hc e => hn (h.apart hc (.inr (.inl ⟨rfl, e⟩)))
  have cls : ∀ n k, Cls xp { B with vs := vs, vf := vf } a.sigs a.tabs.length n k → (n ≠ 1 ∧ Cls xp B a.sigs a.tabs.length n k) ∨ (n = 1 ∧ IdF B.ip vs vf k) := fun n k hk => by
    rcases hk with ⟨hn, hk⟩ | ⟨hn, hk⟩ | ⟨hn, hk⟩ | ⟨hn, hk⟩ | ⟨hn, hk⟩ | ⟨hn, hk⟩ | ⟨j, hn, hj, hk⟩
    · exact .inl ⟨by omega, .inl ⟨hn, hk⟩⟩
    · exact .inr ⟨hn, hk⟩
    · exact .inl ⟨by omega, .inr (.inr (.inl ⟨hn, hk⟩))⟩
    · exact .inl ⟨by omega, .inr (.inr (.inr (.inl ⟨hn, hk⟩)))⟩
    · exact .inl ⟨by omega, .inr (.inr (.inr (.inr (.inl ⟨hn, hk⟩))))⟩
    · exact .inl ⟨by omega, .inr (.inr (.inr (.inr (.inr (.inl ⟨hn, hk⟩)))))⟩
    · exact .inl ⟨by omega, .inr (.inr (.inr (.inr (.inr (.inr ⟨j, hn, hj, hk⟩)))))⟩
  refine ⟨{ B with vs := vs, vf := vf, tag := fun k => if w.heap.size ≤ k then 1 else B.tag k }, ⟨⟨?_, h1, ?_, ?_, ?_, ?_, ?_, ?_, ?_, h.few, h.asked, h.sgs, h.spf⟩, h2.mono (fun k _ e => ⟨1, .inr (.inl ⟨rfl, e⟩)⟩), ?_⟩, rfl, rfl⟩
  · exact (h2.block xp (Array.getElem?_eq_some_iff.1 h.box).1 (hne 0 xp (by decide) (.inl ⟨rfl, rfl⟩))).trans h.box
  · exact h.graph.keep h2 (fun k e => hne 2 k (by decide) (.inr (.inr (.inl ⟨rfl, e⟩))))
  · exact h.oT.keep h2 (fun k e => hne 3 k (by decide) (.inr (.inr (.inr (.inl ⟨rfl, e⟩)))))
  · exact h.oS.keep h2 (fun k e => hne 4 k (by decide) (.inr (.inr (.inr (.inr (.inl ⟨rfl, e⟩))))))
  · exact h.comps.keep h2 (fun k _ e => hne 5 k (by decide) (.inr (.inr (.inr (.inr (.inr (.inl ⟨rfl, e⟩)))))))
  · exact fun k e => Nat.lt_of_lt_of_le (h.clt k e) h2.size
  · exact fun j t ht => ⟨(h.tab j t ht).1.keep h2 (fun k e => hne (6 + j) k (by omega) (.inr (.inr (.inr (.inr (.inr (.inr ⟨j, rfl, (List.getElem?_eq_some_iff.1 ht).1, e⟩))))))), (h.tab j t ht).2⟩
  · intro n k hk
    show (if w.heap.size ≤ k then 1 else B.tag k) = n
    rcases cls n k hk with ⟨hn, hk⟩ | ⟨hn, hk⟩
    · have := hlt k ⟨n, hk⟩
      rw [if_neg (by omega)]; exact h.tags n k hk
    · by_cases hl : w.heap.size ≤ k
      · rw [if_pos hl]; exact hn.symm
      · rw [if_neg hl, hn]
        exact h.tags 1 k (.inr (.inl ⟨rfl, (h3 k hk).resolve_right hl⟩))
  · rintro k ⟨n, hk⟩
    rcases cls n k hk with ⟨hn, hk⟩ | ⟨hn, hk⟩
    · exact .inl ⟨n, hk⟩
    · exact (h3 k hk).imp_left fun e => ⟨1, .inr (.inl ⟨rfl, e⟩)⟩
theorem CoM.namesTo (h : CoM w c xp B q a) {na : Na} (ht : IdTo w B.ip (IdF B.ip B.vs B.vf) na w') : CoTo w c xp (CoF xp B a) q ⟨na, a.sigs, a.tabs, a.spots⟩ w' := by
  obtain ⟨B', h', -⟩ := h.namesTo_ ht
  exact ⟨B', h'⟩
/-- The graph has turned. -/
theorem CoM.graphTo_ (h : CoM w c xp B q a) {S' : List Nat} {q' : Nat} (ht : GrTo w B.gp B.GF q' S' w') (hpre : ∀ j, j < a.tabs.length → S'.getD j 0 = a.sigs.getD j 0) (hlen : a.sigs.length ≤ S'.length) (hq : q' ≤ 1000000) (hs : S'.length ≤ 1000000) : ∃ B', (CoM w' c xp B' q' ⟨a.na, S', a.tabs, a.spots⟩ ∧ Keep (CoF xp B a) w w' ∧ ∀ k, CoF xp B' ⟨a.na, S', a.tabs, a.spots⟩ k → CoF xp B a k ∨ w.heap.size ≤ k) ∧ B'.tp = B.tp ∧ B'.gp = B.gp := by
  obtain ⟨GF', h1, h2, h3⟩ := ht
  have hlt := h.lt
  have hne : ∀ n k, n ≠ 2 → Cls xp B a.sigs a.tabs.length n k → ¬ B.GF k := fun n k hn hc e => hn (h.apart hc (.inr (.inr (.inl ⟨rfl, e⟩))))
  have cls : ∀ n k, Cls xp { B with GF := GF' } S' a.tabs.length n k → (n ≠ 2 ∧ Cls xp B a.sigs a.tabs.length n k) ∨ (n = 2 ∧ GF' k) := fun n k hk => by
    rcases hk with ⟨hn, hk⟩ | ⟨hn, hk⟩ | ⟨hn, hk⟩ | ⟨hn, hk⟩ | ⟨hn, hk⟩ | ⟨hn, hk⟩ | ⟨j, hn, hj, hk⟩
    · exact .inl ⟨by omega, .inl ⟨hn, hk⟩⟩
    · exact .inl ⟨by omega, .inr (.inl ⟨hn, hk⟩)⟩
    · exact .inr ⟨hn, hk⟩
    · exact .inl ⟨by omega, .inr (.inr (.inr (.inl ⟨hn, hk⟩)))⟩
    · exact .inl ⟨by omega, .inr (.inr (.inr (.inr (.inl ⟨hn, hk⟩))))⟩
    · exact .inl ⟨by omega, .inr (.inr (.inr (.inr (.inr (.inl ⟨hn, hk⟩)))))⟩
    · rw [hpre j hj] at hk
      exact .inl ⟨by omega, .inr (.inr (.inr (.inr (.inr (.inr ⟨j, hn, hj, hk⟩)))))⟩
  refine ⟨{ B with GF := GF', tag := fun k => if w.heap.size ≤ k then 2 else B.tag k }, ⟨⟨?_, ?_, h1, ?_, ?_, ?_, ?_, ?_, ?_, Nat.le_trans h.few hlen, hq, hs, h.spf⟩, h2.mono (fun k _ e => ⟨2, .inr (.inr (.inl ⟨rfl, e⟩))⟩), ?_⟩, rfl, rfl⟩
  · exact (h2.block xp (Array.getElem?_eq_some_iff.1 h.box).1 (hne 0 xp (by decide) (.inl ⟨rfl, rfl⟩))).trans h.box
  · exact h.names.keep h2 (fun k e => hne 1 k (by decide) (.inr (.inl ⟨rfl, e⟩)))
  · exact h.oT.keep h2 (fun k e => hne 3 k (by decide) (.inr (.inr (.inr (.inl ⟨rfl, e⟩)))))
  · exact h.oS.keep h2 (fun k e => hne 4 k (by decide) (.inr (.inr (.inr (.inr (.inl ⟨rfl, e⟩))))))
  · exact h.comps.keep h2 (fun k _ e => hne 5 k (by decide) (.inr (.inr (.inr (.inr (.inr (.inl ⟨rfl, e⟩)))))))
  · exact fun k e => Nat.lt_of_lt_of_le (h.clt k e) h2.size
  · intro j t ht
    have hj := (List.getElem?_eq_some_iff.1 ht).1
    show Tb w' _ _ _ _ _ (S'.getD j 0) _ _ _ ∧ ∀ d, d ∈ bl (S'.getD j 0) 64 → _
    rw [hpre j hj]
    exact ⟨(h.tab j t ht).1.keep h2 (fun k e => hne (6 + j) k (by omega) (.inr (.inr (.inr (.inr (.inr (.inr ⟨j, rfl, hj, e⟩))))))), (h.tab j t ht).2⟩
  · intro n k hk
    show (if w.heap.size ≤ k then 2 else B.tag k) = n
    rcases cls n k hk with ⟨hn, hk⟩ | ⟨hn, hk⟩
    · have := hlt k ⟨n, hk⟩
      rw [if_neg (by omega)]; exact h.tags n k hk
    · by_cases hl : w.heap.size ≤ k
      · rw [if_pos hl]; exact hn.symm
      · rw [if_neg hl, hn]
        exact h.tags 2 k (.inr (.inr (.inl ⟨rfl, (h3 k hk).resolve_right hl⟩)))
  · rintro k ⟨n, hk⟩
    rcases cls n k hk with ⟨hn, hk⟩ | ⟨hn, hk⟩
    · exact .inl ⟨n, hk⟩
    · exact (h3 k hk).imp_left fun e => ⟨2, .inr (.inr (.inl ⟨rfl, e⟩))⟩
theorem CoM.graphTo (h : CoM w c xp B q a) {S' : List Nat} {q' : Nat} (ht : GrTo w B.gp B.GF q' S' w') (hpre : ∀ j, j < a.tabs.length → S'.getD j 0 = a.sigs.getD j 0) (hlen : a.sigs.length ≤ S'.length) (hq : q' ≤ 1000000) (hs : S'.length ≤ 1000000) : CoTo w c xp (CoF xp B a) q' ⟨a.na, S', a.tabs, a.spots⟩ w' := by
  obtain ⟨B', h', -⟩ := h.graphTo_ ht hpre hlen hq hs
  exact ⟨B', h'⟩
/-- A table has turned. -/
theorem CoM.tabTo_ (h : CoM w c xp B q a) {j : Nat} (hj : j < a.tabs.length) {ids : List IdZ} {col : Nat → List (List UInt8)} (ht : TbTo w (TF (B.tp j) (B.mb j) (B.tv j) (B.FC j) (a.sigs.getD j 0)) (B.tp j) (a.sigs.getD j 0) (szOf c.l) ids col w') (hl : ∀ d, d ∈ bl (a.sigs.getD j 0) 64 → (col d).length = ids.length) : ∃ B', (CoM w' c xp B' q ⟨a.na, a.sigs, a.tabs.set j ⟨ids, col⟩, a.spots⟩ ∧ Keep (CoF xp B a) w w' ∧ ∀ k, CoF xp B' ⟨a.na, a.sigs, a.tabs.set j ⟨ids, col⟩, a.spots⟩ k → CoF xp B a k ∨ w.heap.size ≤ k) ∧ B'.tp = B.tp ∧ B'.gp = B.gp := by
  obtain ⟨mb, tv, cp, FC, h1, h2, h3⟩ := ht
  have hlt := h.lt
  have hne : ∀ n k, n ≠ 6 + j → Cls xp B a.sigs a.tabs.length n k → ¬ TF (B.tp j) (B.mb j) (B.tv j) (B.FC j) (a.sigs.getD j 0) k := fun n k hn hc e => hn (h.apart hc (.inr (.inr (.inr (.inr (.inr (.inr ⟨j, rfl, hj, e⟩)))))))
  have hlen : (a.tabs.set j ⟨ids, col⟩).length = a.tabs.length := List.length_set
  have cls : ∀ n k, Cls xp { B with mb := fun i => if i = j then mb else B.mb i, tv := fun i => if i = j then tv else B.tv i, FC := fun i => if i = j then FC else B.FC i, cp := fun i => if i = j then cp else B.cp i } a.sigs (a.tabs.set j ⟨ids, col⟩).length n k → (n ≠ 6 + j ∧ Cls xp B a.sigs a.tabs.length n k) ∨ (n = 6 + j ∧ TF (B.tp j) mb tv FC (a.sigs.getD j 0) k) := fun n k hk => by
    rw [hlen] at hk
    rcases hk with ⟨hn, hk⟩ | ⟨hn, hk⟩ | ⟨hn, hk⟩ | ⟨hn, hk⟩ | ⟨hn, hk⟩ | ⟨hn, hk⟩ | ⟨i, hn, hi, hk⟩
    · exact .inl ⟨by omega, .inl ⟨hn, hk⟩⟩
    · exact .inl ⟨by omega, .inr (.inl ⟨hn, hk⟩)⟩
    · exact .inl ⟨by omega, .inr (.inr (.inl ⟨hn, hk⟩))⟩
    · exact .inl ⟨by omega, .inr (.inr (.inr (.inl ⟨hn, hk⟩)))⟩
    · exact .inl ⟨by omega, .inr (.inr (.inr (.inr (.inl ⟨hn, hk⟩))))⟩
    · exact .inl ⟨by omega, .inr (.inr (.inr (.inr (.inr (.inl ⟨hn, hk⟩)))))⟩
    · by_cases e : i = j
      · subst e
        simp only [if_pos] at hk
        exact .inr ⟨hn, hk⟩
      · simp only [if_neg e] at hk
        exact .inl ⟨by omega, .inr (.inr (.inr (.inr (.inr (.inr ⟨i, hn, hi, hk⟩)))))⟩
  refine ⟨{ B with mb := fun i => if i = j then mb else B.mb i, tv := fun i => if i = j then tv else B.tv i, FC := fun i => if i = j then FC else B.FC i, cp := fun i => if i = j then cp else B.cp i, tag := fun k => if w.heap.size ≤ k then 6 + j else B.tag k }, ⟨⟨?_, ?_, ?_, ?_, ?_, ?_, ?_, ?_, ?_, by rw [hlen]; exact h.few, h.asked, h.sgs, h.spf⟩, h2.mono (fun k _ e => ⟨6 + j, .inr (.inr (.inr (.inr (.inr (.inr ⟨j, rfl, hj, e⟩)))))⟩), ?_⟩, rfl, rfl⟩
  · exact (h2.block xp (Array.getElem?_eq_some_iff.1 h.box).1 (hne 0 xp (by omega) (.inl ⟨rfl, rfl⟩))).trans h.box
  · exact h.names.keep h2 (fun k e => hne 1 k (by omega) (.inr (.inl ⟨rfl, e⟩)))
  · exact h.graph.keep h2 (fun k e => hne 2 k (by omega) (.inr (.inr (.inl ⟨rfl, e⟩))))
  · show Own w' 0 _ 1 B.vT (a.tabs.set j ⟨ids, col⟩).length ((List.range (a.tabs.set j ⟨ids, col⟩).length).map _)
    rw [hlen]
    exact h.oT.keep h2 (fun k e => hne 3 k (by omega) (.inr (.inr (.inr (.inl ⟨rfl, e⟩)))))
  · exact h.oS.keep h2 (fun k e => hne 4 k (by omega) (.inr (.inr (.inr (.inr (.inl ⟨rfl, e⟩))))))
  · exact h.comps.keep h2 (fun k _ e => hne 5 k (by omega) (.inr (.inr (.inr (.inr (.inr (.inl ⟨rfl, e⟩)))))))
  · exact fun k e => Nat.lt_of_lt_of_le (h.clt k e) h2.size
  · intro i t ht
    by_cases e : i = j
    · subst e
      rw [List.getElem?_set_self hj] at ht
      obtain rfl := Option.some.inj ht
      simp only [if_pos]
      exact ⟨h1, hl⟩
    · rw [List.getElem?_set_ne (Ne.symm e)] at ht
      simp only [if_neg e]
      have hi := (List.getElem?_eq_some_iff.1 ht).1
      exact ⟨(h.tab i t ht).1.keep h2 (fun k e' => hne (6 + i) k (by omega) (.inr (.inr (.inr (.inr (.inr (.inr ⟨i, rfl, hi, e'⟩))))))), (h.tab i t ht).2⟩
  · intro n k hk
    show (if w.heap.size ≤ k then 6 + j else B.tag k) = n
    rcases cls n k hk with ⟨hn, hk⟩ | ⟨hn, hk⟩
    · have := hlt k ⟨n, hk⟩
      rw [if_neg (by omega)]; exact h.tags n k hk
    · by_cases hl : w.heap.size ≤ k
      · rw [if_pos hl]; exact hn.symm
      · rw [if_neg hl, hn]
        exact h.tags (6 + j) k (.inr (.inr (.inr (.inr (.inr (.inr ⟨j, rfl, hj, (h3 k hk).resolve_right hl⟩))))))
  · rintro k ⟨n, hk⟩
    rcases cls n k hk with ⟨hn, hk⟩ | ⟨hn, hk⟩
    · exact .inl ⟨n, hk⟩
    · exact (h3 k hk).imp_left fun e => ⟨6 + j, .inr (.inr (.inr (.inr (.inr (.inr ⟨j, rfl, hj, e⟩)))))⟩
theorem CoM.tabTo (h : CoM w c xp B q a) {j : Nat} (hj : j < a.tabs.length) {ids : List IdZ} {col : Nat → List (List UInt8)} (ht : TbTo w (TF (B.tp j) (B.mb j) (B.tv j) (B.FC j) (a.sigs.getD j 0)) (B.tp j) (a.sigs.getD j 0) (szOf c.l) ids col w') (hl : ∀ d, d ∈ bl (a.sigs.getD j 0) 64 → (col d).length = ids.length) : CoTo w c xp (CoF xp B a) q ⟨a.na, a.sigs, a.tabs.set j ⟨ids, col⟩, a.spots⟩ w' := by
  obtain ⟨B', h', -⟩ := h.tabTo_ hj ht hl
  exact ⟨B', h'⟩
/-- The spots have turned. -/
theorem CoM.spotsTo_ (h : CoM w c xp B q a) {vS : Value} {sp : List Sp} (hb : w'.heap[xp]? = some (.cells #[.int .i64 c.log, .int .i64 c.pages, .int .i64 c.ents, .int .i64 c.gens, B.uC, .pointer (some ⟨B.ip, 0, none⟩), .pointer (some ⟨B.gp, 0, none⟩), B.vT, vS] 76 (0, 0)))
    (hS : Own w' 0 89 3 vS sp.length (sp.flatMap spC)) (h2 : Keep (fun k => k = xp ∨ ownB B.vS = some k) w w') (h3 : ∀ k, ownB vS = some k → ownB B.vS = some k ∨ w.heap.size ≤ k) (hf : sp.length ≤ 1024) : ∃ B', (CoM w' c xp B' q ⟨a.na, a.sigs, a.tabs, sp⟩ ∧ Keep (CoF xp B a) w w' ∧ ∀ k, CoF xp B' ⟨a.na, a.sigs, a.tabs, sp⟩ k → CoF xp B a k ∨ w.heap.size ≤ k) ∧ B'.tp = B.tp ∧ B'.gp = B.gp := by
  have hlt := h.lt
  have hne : ∀ n k, n ≠ 0 → n ≠ 4 → Cls xp B a.sigs a.tabs.length n k → ¬ (k = xp ∨ ownB B.vS = some k) := fun n k h0 h4 hc e => by
    rcases e with e | e
    · exact h0 (h.apart hc (.inl ⟨rfl, e⟩))
    · exact h4 (h.apart hc (.inr (.inr (.inr (.inr (.inl ⟨rfl, e⟩))))))
  have cls : ∀ n k, Cls xp { B with vS := vS } a.sigs a.tabs.length n k → (n ≠ 4 ∧ Cls xp B a.sigs a.tabs.length n k) ∨ (n = 4 ∧ ownB vS = some k) := fun n k hk => by
    rcases hk with ⟨hn, hk⟩ | ⟨hn, hk⟩ | ⟨hn, hk⟩ | ⟨hn, hk⟩ | ⟨hn, hk⟩ | ⟨hn, hk⟩ | ⟨j, hn, hj, hk⟩
    · exact .inl ⟨by omega, .inl ⟨hn, hk⟩⟩
    · exact .inl ⟨by omega, .inr (.inl ⟨hn, hk⟩)⟩
    · exact .inl ⟨by omega, .inr (.inr (.inl ⟨hn, hk⟩))⟩
    · exact .inl ⟨by omega, .inr (.inr (.inr (.inl ⟨hn, hk⟩)))⟩
    · exact .inr ⟨hn, hk⟩
    · exact .inl ⟨by omega, .inr (.inr (.inr (.inr (.inr (.inl ⟨hn, hk⟩)))))⟩
    · exact .inl ⟨by omega, .inr (.inr (.inr (.inr (.inr (.inr ⟨j, hn, hj, hk⟩)))))⟩
  refine ⟨{ B with vS := vS, tag := fun k => if w.heap.size ≤ k then 4 else B.tag k }, ⟨⟨hb, ?_, ?_, ?_, hS, ?_, ?_, ?_, ?_, h.few, h.asked, h.sgs, hf⟩, h2.mono (fun k _ e => by
    rcases e with e | e
    · exact ⟨0, .inl ⟨rfl, e⟩⟩
    · exact ⟨4, .inr (.inr (.inr (.inr (.inl ⟨rfl, e⟩))))⟩), ?_⟩, rfl, rfl⟩
  · exact h.names.keep h2 (fun k e => hne 1 k (by decide) (by decide) (.inr (.inl ⟨rfl, e⟩)))
  · exact h.graph.keep h2 (fun k e => hne 2 k (by decide) (by decide) (.inr (.inr (.inl ⟨rfl, e⟩))))
  · exact h.oT.keep h2 (fun k e => hne 3 k (by decide) (by decide) (.inr (.inr (.inr (.inl ⟨rfl, e⟩)))))
  · exact h.comps.keep h2 (fun k _ e => hne 5 k (by decide) (by decide) (.inr (.inr (.inr (.inr (.inr (.inl ⟨rfl, e⟩)))))))
  · exact fun k e => Nat.lt_of_lt_of_le (h.clt k e) h2.size
  · exact fun j t ht => ⟨(h.tab j t ht).1.keep h2 (fun k e => hne (6 + j) k (by omega) (by omega) (.inr (.inr (.inr (.inr (.inr (.inr ⟨j, rfl, (List.getElem?_eq_some_iff.1 ht).1, e⟩))))))), (h.tab j t ht).2⟩
  · intro n k hk
    show (if w.heap.size ≤ k then 4 else B.tag k) = n
    rcases cls n k hk with ⟨hn, hk⟩ | ⟨hn, hk⟩
    · have := hlt k ⟨n, hk⟩
      rw [if_neg (by omega)]; exact h.tags n k hk
    · by_cases hl : w.heap.size ≤ k
      · rw [if_pos hl]; exact hn.symm
      · rw [if_neg hl, hn]
        exact h.tags 4 k (.inr (.inr (.inr (.inr (.inl ⟨rfl, (h3 k hk).resolve_right hl⟩)))))
  · rintro k ⟨n, hk⟩
    rcases cls n k hk with ⟨hn, hk⟩ | ⟨hn, hk⟩
    · exact .inl ⟨n, hk⟩
    · exact (h3 k hk).imp_left fun e => ⟨4, .inr (.inr (.inr (.inr (.inl ⟨rfl, e⟩))))⟩
theorem CoM.spotsTo (h : CoM w c xp B q a) {vS : Value} {sp : List Sp} (hb : w'.heap[xp]? = some (.cells #[.int .i64 c.log, .int .i64 c.pages, .int .i64 c.ents, .int .i64 c.gens, B.uC, .pointer (some ⟨B.ip, 0, none⟩), .pointer (some ⟨B.gp, 0, none⟩), B.vT, vS] 76 (0, 0)))
    (hS : Own w' 0 89 3 vS sp.length (sp.flatMap spC)) (h2 : Keep (fun k => k = xp ∨ ownB B.vS = some k) w w') (h3 : ∀ k, ownB vS = some k → ownB B.vS = some k ∨ w.heap.size ≤ k) (hf : sp.length ≤ 1024) : CoTo w c xp (CoF xp B a) q ⟨a.na, a.sigs, a.tabs, sp⟩ w' := by
  obtain ⟨B', h', -⟩ := h.spotsTo_ hb hS h2 h3 hf
  exact ⟨B', h'⟩
/-- A table more. -/
theorem CoM.tabPush (h : CoM w c xp B q a) {vT : Value} {tp mb : Nat} {tv : Value} {cp : Nat → Nat} {FC : Nat → Nat → Prop} (hm : a.tabs.length < a.sigs.length) (hb : w'.heap[xp]? = some (.cells #[.int .i64 c.log, .int .i64 c.pages, .int .i64 c.ents, .int .i64 c.gens, B.uC, .pointer (some ⟨B.ip, 0, none⟩), .pointer (some ⟨B.gp, 0, none⟩), vT, B.vS] 76 (0, 0)))
    (hT : Own w' 0 77 1 vT (a.tabs.length + 1) (((List.range a.tabs.length).map fun j => .pointer (some ⟨B.tp j, 0, none⟩)) ++ [.pointer (some ⟨tp, 0, none⟩)])) (h2 : Keep (fun k => k = xp ∨ ownB B.vT = some k) w w') (h3 : ∀ k, ownB vT = some k → ownB B.vT = some k ∨ w.heap.size ≤ k)
    (ht : Tb w' tp mb tv cp FC (a.sigs.getD a.tabs.length 0) (szOf c.l) [] (fun _ => [])) (h4 : ∀ k, TF tp mb tv FC (a.sigs.getD a.tabs.length 0) k → w.heap.size ≤ k) (h5 : ∀ k, TF tp mb tv FC (a.sigs.getD a.tabs.length 0) k → ownB vT ≠ some k) : ∃ B', (CoM w' c xp B' q ⟨a.na, a.sigs, a.tabs ++ [⟨[], fun _ => []⟩], a.spots⟩ ∧ Keep (CoF xp B a) w w' ∧ ∀ k, CoF xp B' ⟨a.na, a.sigs, a.tabs ++ [⟨[], fun _ => []⟩], a.spots⟩ k → CoF xp B a k ∨ w.heap.size ≤ k) ∧ B'.gp = B.gp := by
  have hlt := h.lt
  have hne : ∀ n k, n ≠ 0 → n ≠ 3 → Cls xp B a.sigs a.tabs.length n k → ¬ (k = xp ∨ ownB B.vT = some k) := fun n k h0 h4 hc e => by
    rcases e with e | e
    · exact h0 (h.apart hc (.inl ⟨rfl, e⟩))
    · exact h4 (h.apart hc (.inr (.inr (.inr (.inl ⟨rfl, e⟩)))))
  obtain ⟨m, hmm⟩ : ∃ m, a.tabs.length = m := ⟨_, rfl⟩
  have hlen : (a.tabs ++ [(⟨[], fun _ => []⟩ : Tz)]).length = m + 1 := by rw [List.length_append, hmm]; rfl
  rw [hmm] at hm hT ht h4 h5
  have cls : ∀ n k, Cls xp { B with vT := vT, tp := fun i => if i = m then tp else B.tp i, mb := fun i => if i = m then mb else B.mb i, tv := fun i => if i = m then tv else B.tv i, FC := fun i => if i = m then FC else B.FC i, cp := fun i => if i = m then cp else B.cp i } a.sigs (a.tabs ++ [(⟨[], fun _ => []⟩ : Tz)]).length n k → (n ≠ 3 ∧ n ≠ 6 + m ∧ Cls xp B a.sigs a.tabs.length n k) ∨ (n = 3 ∧ ownB vT = some k) ∨ (n = 6 + m ∧ TF tp mb tv FC (a.sigs.getD m 0) k) := fun n k hk => by
    rw [hlen] at hk
    rcases hk with ⟨hn, hk⟩ | ⟨hn, hk⟩ | ⟨hn, hk⟩ | ⟨hn, hk⟩ | ⟨hn, hk⟩ | ⟨hn, hk⟩ | ⟨i, hn, hi, hk⟩
    · exact .inl ⟨by omega, by omega, .inl ⟨hn, hk⟩⟩
    · exact .inl ⟨by omega, by omega, .inr (.inl ⟨hn, hk⟩)⟩
    · exact .inl ⟨by omega, by omega, .inr (.inr (.inl ⟨hn, hk⟩))⟩
    · exact .inr (.inl ⟨hn, hk⟩)
    · exact .inl ⟨by omega, by omega, .inr (.inr (.inr (.inr (.inl ⟨hn, hk⟩))))⟩
    · exact .inl ⟨by omega, by omega, .inr (.inr (.inr (.inr (.inr (.inl ⟨hn, hk⟩)))))⟩
    · by_cases e : i = m
      · subst e
        simp only [if_pos] at hk
        exact .inr (.inr ⟨hn, hk⟩)
      · simp only [if_neg e] at hk
        exact .inl ⟨by omega, by omega, .inr (.inr (.inr (.inr (.inr (.inr ⟨i, hn, by omega, hk⟩)))))⟩
  refine ⟨{ B with vT := vT, tp := fun i => if i = m then tp else B.tp i, mb := fun i => if i = m then mb else B.mb i, tv := fun i => if i = m then tv else B.tv i, FC := fun i => if i = m then FC else B.FC i, cp := fun i => if i = m then cp else B.cp i, tag := fun k => if w.heap.size ≤ k then (if ownB vT = some k then 3 else 6 + m) else B.tag k }, ⟨⟨hb, ?_, ?_, ?_, ?_, ?_, ?_, ?_, ?_, by rw [hlen]; exact hm, h.asked, h.sgs, h.spf⟩, h2.mono (fun k _ e => by
    rcases e with e | e
    · exact ⟨0, .inl ⟨rfl, e⟩⟩
    · exact ⟨3, .inr (.inr (.inr (.inl ⟨rfl, e⟩)))⟩), ?_⟩, rfl⟩
  · exact h.names.keep h2 (fun k e => hne 1 k (by decide) (by decide) (.inr (.inl ⟨rfl, e⟩)))
  · exact h.graph.keep h2 (fun k e => hne 2 k (by decide) (by decide) (.inr (.inr (.inl ⟨rfl, e⟩))))
  · show Own w' 0 _ 1 vT (a.tabs ++ [(⟨[], fun _ => []⟩ : Tz)]).length ((List.range (a.tabs ++ [(⟨[], fun _ => []⟩ : Tz)]).length).map fun j => Value.pointer (some ⟨if j = m then tp else B.tp j, 0, none⟩))
    rw [hlen, List.range_succ, List.map_append]
    have e1 : (List.range m).map (fun j => Value.pointer (some ⟨if j = m then tp else B.tp j, 0, none⟩)) = (List.range m).map (fun j => Value.pointer (some ⟨B.tp j, 0, none⟩)) := List.map_congr_left fun j hj => by
      have := List.mem_range.1 hj
      rw [if_neg (by omega)]
    rw [e1]
    simpa using hT
  · exact h.oS.keep h2 (fun k e => hne 4 k (by decide) (by decide) (.inr (.inr (.inr (.inr (.inl ⟨rfl, e⟩))))))
  · exact h.comps.keep h2 (fun k _ e => hne 5 k (by decide) (by decide) (.inr (.inr (.inr (.inr (.inr (.inl ⟨rfl, e⟩)))))))
  · exact fun k e => Nat.lt_of_lt_of_le (h.clt k e) h2.size
  · intro i t hti
    by_cases e : i = m
    · subst e
      rw [List.getElem?_append_right (by omega), hmm, Nat.sub_self] at hti
      obtain rfl := Option.some.inj hti
      simp only [if_pos]
      exact ⟨ht, fun _ _ => rfl⟩
    · have hi : i < m := by
        have := (List.getElem?_eq_some_iff.1 hti).1
        rw [hlen] at this; omega
      rw [List.getElem?_append_left (by omega)] at hti
      simp only [if_neg e]
      exact ⟨(h.tab i t hti).1.keep h2 (fun k e' => hne (6 + i) k (by omega) (by omega) (.inr (.inr (.inr (.inr (.inr (.inr ⟨i, rfl, by omega, e'⟩))))))), (h.tab i t hti).2⟩
  · intro n k hk
    show (if w.heap.size ≤ k then (if ownB vT = some k then 3 else 6 + m) else B.tag k) = n
    rcases cls n k hk with ⟨-, -, hk⟩ | ⟨hn, hk⟩ | ⟨hn, hk⟩
    · have := hlt k ⟨n, hk⟩
      rw [if_neg (by omega)]; exact h.tags n k hk
    · by_cases hl : w.heap.size ≤ k
      · rw [if_pos hl, if_pos hk]; exact hn.symm
      · rw [if_neg hl, hn]
        exact h.tags 3 k (.inr (.inr (.inr (.inl ⟨rfl, (h3 k hk).resolve_right hl⟩))))
    · rw [if_pos (h4 k hk), if_neg (h5 k hk)]; exact hn.symm
  · rintro k ⟨n, hk⟩
    rcases cls n k hk with ⟨-, -, hk⟩ | ⟨hn, hk⟩ | ⟨hn, hk⟩
    · exact .inl ⟨n, hk⟩
    · exact (h3 k hk).imp_left fun e => ⟨3, .inr (.inr (.inr (.inl ⟨rfl, e⟩)))⟩
    · exact .inr (h4 k hk)
end
end Go.Proofs.YtdeifjnhbdkkgaaGreatDoor
namespace Go.Proofs.YtdeifjnhbdkkgaaGreatDoor
open Go.RowKit
set_option maxRecDepth 100000
set_option linter.unusedVariables false
set_option linter.unusedSimpArgs false

theorem under_confE : Tryz.prog.underlying 42 = some (.struct (Tryz.prog.fieldsOf 42)) := by kernel_rfl
theorem size_confE : (Tryz.prog.info? 42).map (·.size) = some 5 := by kernel_rfl
theorem results_confE {fn : Func} {p : Tmp} (h : fn.results = #[.cell p 42]) (tmps : Array Value) (w : World) (g : Nat) (c0 c1 c2 c3 c4 : Value)
    (hp : tmps.getD p undef = .pointer (some ⟨g, 0, none⟩)) (hg : w.heap[g]? = some (.cells #[c0, c1, c2, c3, c4] 42 (0, 0))) : (results fn tmps).run Tryz.prog w = .ok (.agg #[c0, c1, c2, c3, c4]) w :=
  results_cell_row h tmps w g 42 _ (0, 0) _ hp hg under_confE rfl size_confE
theorem ccells_one (l : List Cp) : ∀ u ∈ l.flatMap ccells, u.oneCell' = true := fun u hu => by
  obtain ⟨x, _, hx⟩ := List.mem_flatMap.1 hu
  simp only [ccells, List.mem_cons, List.not_mem_nil, or_false] at hx
  rcases hx with rfl | rfl <;> rfl
theorem CL.sl {w : World} {F : Nat → Prop} {u : Value} {l : List Cp} (h : CL w F u l) : Sl w F 2 u l.length (l.flatMap ccells) := by
  obtain ⟨A, c, h1, h2, h3, h4, h5⟩ := h
  exact ⟨A, c, h1, h2, h3, h5, h4⟩
theorem CL.of_sl {w : World} {F : Nat → Prop} {u : Value} {l : List Cp} (h : Sl w F 2 u l.length (l.flatMap ccells)) : CL w F u l := by
  obtain ⟨A, c, h1, h2, h3, h5, h4⟩ := h
  exact ⟨A, c, h1, h2, h3, h4, h5⟩
/-- A declaration's own copy. -/
theorem e_own (w : World) (c : Cf) (u : Value) (F : Nat → Prop) (hu : CL w F u c.l) (hl : c.l.length ≤ 1000000) : Calls Tryz.prog 31 #[confV c u] w fun e w' => ∃ u', e = .returned (confV c u') ∧ CL w' (fun k => w.heap.size ≤ k ∧ k < w'.heap.size) u' c.l ∧ Below w.heap.size w w' := by
  have CC := Lib.hid (fun X (hk : Keep (fun _ => False) w X) => clone_comp c.l.length (c.l.flatMap ccells) u F X (hu.same hk).sl (ccells_one c.l) (by omega))
  have HL := Lib.hid hl
  obtain ⟨Au, cu, rfl, -⟩ := hu
  unfold confV
  generalize c.log = z0 at *
  generalize c.pages = z1 at *
  generalize c.ents = z2 at *
  generalize c.gens = z3 at *
  generalize c.l = l at *
  clear hl
  go_enter Tryz.func31, Tryz.ntmps31
  go_wp2_with fail
  with_reducible refine (CC.out _ (by exact (by repeat first | (with_reducible assumption) | (with_reducible exact Keep.refl _ _) | (with_reducible refine Keep.alloc ?_ _) | (with_reducible refine Keep.drew ?_) | (with_reducible refine Keep.drewN ?_ _) | (with_reducible refine Keep.setCell ?_ (.inl (by first | omega | (simp; done) | (simp; omega) | fail)) _)))).mono ?_
  rintro e w1 ⟨A1, c1, rfl, ho, hb⟩
  have kb := Keep.of_below' hb
  have K1 := Lib.hid (show Keep (fun _ => False) w w1 ∧ w1.heap[w.heap.size]? = some (.cells #[.int .i64 z0, .int .i64 z1, .int .i64 z2, .int .i64 z3, .slice Au l.length cu] 42 (0, 0)) ∧ w1.heap[w.heap.size + 1]? = some (.cells #[.int .i64 0, .int .i64 0, .int .i64 0, .int .i64 0, .slice none 0 0] 42 (0, 0)) ∧ w.heap.size + 2 ≤ w1.heap.size from ⟨Keep.trans (T := fun _ => False) (by exact (by repeat first | (with_reducible assumption) | (with_reducible exact Keep.refl _ _) | (with_reducible refine Keep.alloc ?_ _) | (with_reducible refine Keep.drew ?_) | (with_reducible refine Keep.drewN ?_ _) | (with_reducible refine Keep.setCell ?_ (.inl (by first | omega | (simp; done) | (simp; omega) | fail)) _))) kb (fun _ _ h => h), (kb.block _ (by simp; omega) (fun h => h)).trans ((((Keep.refl (fun _ => False) _).alloc _).block _ (by simp) (fun h => h)).trans (heap_alloc_new w _)), (kb.block _ (by simp) (fun h => h)).trans (heap_alloc_at _ _ _ (by simp)), by have := kb.size; simp at this; omega⟩)
  have O1 := Lib.hid (ho.mono (base' := w.heap.size) (by simp; omega))
  clear kb hb ho
  obtain ⟨x0, x1, x2, x3, x4, xf⟩ := cells5 K1.out.2.1
  obtain ⟨y0, y1, y2, y3, y4, yf⟩ := cells5 K1.out.2.2.1
  have hz := K1.out.2.2.2
  have n1 : ¬ w.heap.size = w.heap.size + 1 := by omega
  have n2 : ¬ w.heap.size + 1 = w.heap.size := by omega
  go_wp2
  generalize hv : Value.slice A1 l.length c1 = v1 at *
  have r1 := (((Keep.refl (fun b => b = w.heap.size) w1).setCell (p := ⟨w.heap.size, 4, none⟩) (.inr rfl) v1).block (w.heap.size + 1) (by omega) n2).trans K1.out.2.2.1
  have r2 := heap_setCell_same _ _ 4 _ _ v1 (heap_setCell_same _ _ 3 _ _ (.int .i64 z3) (heap_setCell_same _ _ 2 _ _ (.int .i64 z2) (heap_setCell_same _ _ 1 _ _ (.int .i64 z1) (heap_setCell_same _ _ 0 _ _ (.int .i64 z0) r1))))
  have kX : Keep (fun b => b = w.heap.size ∨ b = w.heap.size + 1) w1 ((((((w1.setCell ⟨w.heap.size, 4, none⟩ v1).setCell ⟨w.heap.size + 1, 0, none⟩ (.int .i64 z0)).setCell ⟨w.heap.size + 1, 1, none⟩ (.int .i64 z1)).setCell ⟨w.heap.size + 1, 2, none⟩ (.int .i64 z2)).setCell ⟨w.heap.size + 1, 3, none⟩ (.int .i64 z3)).setCell ⟨w.heap.size + 1, 4, none⟩ v1) :=
    ((((((Keep.refl _ w1).setCell (p := ⟨w.heap.size, 4, none⟩) (.inr (.inl rfl)) _).setCell (p := ⟨w.heap.size + 1, 0, none⟩) (.inr (.inr rfl)) _).setCell (p := ⟨w.heap.size + 1, 1, none⟩) (.inr (.inr rfl)) _).setCell (p := ⟨w.heap.size + 1, 2, none⟩) (.inr (.inr rfl)) _).setCell (p := ⟨w.heap.size + 1, 3, none⟩) (.inr (.inr rfl)) _).setCell (p := ⟨w.heap.size + 1, 4, none⟩) (.inr (.inr rfl)) _
  have oX := O1.out.keep kX (fun k e h => by
    rcases h with rfl | rfl
    · exact O1.out.ne_cells K1.out.2.1 (by decide) e
    · exact O1.out.ne_cells K1.out.2.2.1 (by decide) e)
  have kW := K1.out.1.trans kX (fun b hb h => by omega)
  refine bodyPost_ret (results_confE Tryz.results31 _ _ (w.heap.size + 1) _ _ _ _ _ (by rfl) (by exact r2)) rfl ⟨v1, rfl, CL.of_sl (oX.sl.mono (fun b hb h => ⟨h, hb⟩)), ⟨kW.os, kW.tape, kW.output, kW.size, fun x hx => kW.block x hx (fun h => h)⟩⟩
end Go.Proofs.YtdeifjnhbdkkgaaGreatDoor
namespace Go.Proofs.YtdeifjnhbdkkgaaGreatDoor
open Go.RowKit
set_option maxRecDepth 100000
set_option linter.unusedVariables false
set_option linter.unusedSimpArgs false

def coNew (c : Cf) : Co := ⟨naNew c.ents c.gens, [0], [⟨[], fun _ => []⟩], []⟩
theorem e_new_bad (w : World) (c : Cf) (u : Value) (F : Nat → Prop) (hu : CL w F u c.l) (hr : rngF c) (hl : c.l.length ≤ 1000000) (hc : checkF c ≠ 0) (hT : Tab w) : Calls Tryz.prog 14 #[confV c u] w fun e w' => e = .returned (.pointer none) ∧ Keep (fun _ => False) w w' := by
  have CK := Lib.hid (fun X (hk : Keep (fun _ => False) w X) => ccheckF_any c u F X (hu.same hk))
  obtain ⟨Au, cu, rfl, -⟩ := hu
  generalize checkF c = ck at *
  have hb : (ck == 0) = false := beq_eq_false_iff_ne.2 hc
  have hb2 : (ck != 0) = true := by simp [bne, hb]
  unfold confV at *
  go_enter Tryz.func14, Tryz.ntmps14
  go_wp2_with fail
  with_reducible refine (CK.out _ (by exact (by repeat first | (with_reducible assumption) | (with_reducible exact Keep.refl _ _) | (with_reducible refine Keep.alloc ?_ _) | (with_reducible refine Keep.drew ?_) | (with_reducible refine Keep.drewN ?_ _) | (with_reducible refine Keep.setCell ?_ (.inl (by first | omega | (simp; done) | (simp; omega) | fail)) _)))).mono ?_
  rintro e w1 ⟨rfl, hb1⟩
  have K1 := Lib.hid (show Keep (fun _ => False) w w1 from Keep.trans (T := fun _ => False) (by exact (by repeat first | (with_reducible assumption) | (with_reducible exact Keep.refl _ _) | (with_reducible refine Keep.alloc ?_ _) | (with_reducible refine Keep.drew ?_) | (with_reducible refine Keep.drewN ?_ _) | (with_reducible refine Keep.setCell ?_ (.inl (by first | omega | (simp; done) | (simp; omega) | fail)) _))) (Keep.of_below' hb1) (fun _ _ h => h))
  clear hb1
  go_wp2
  go_ret
  exact ⟨rfl, K1.out⟩
theorem info_tbp : (Tryz.prog.info? 77).map (fun i => (i.zero, i.size, i.bytes)) = some (some (.pointer none), 1, 8) := by kernel_rfl
theorem cells_of_row' {w : World} {p : Nat} {t : TypeId} {cs : Array Value} (h : w.heap[p]? = some (.cells cs t (0, 0))) : (∀ i u, cs[i]? = some u → w.cell? ⟨p, i, none⟩ = some u) ∧ ∀ i, w.frozen? ⟨p, i, none⟩ = false :=
  ⟨fun i u hu => (cell_of_row w p i _ _ _ h).trans hu, fun i => frozen_of_row w p i _ _ h⟩
theorem step_tbp {ops : Array Oper} {o : Oper} {a : Act} {w : World} {K : Act → World → Prop} {Q : Exit → Act → World → Prop} {E : Prop} (hgd : Region.wanted o (yielded ops a.tmps) = true) (s x : Operand)
    (ho : o.op = .call { callee := .builtin .append, args := #[s, x], argTypes := #[73, 73] }) (B : Nat) (v : Value) (n : Nat) (D : List Value) (hv : a.eval s = v) (hown : Own w B 77 1 v n D) (g p : Nat)
    (hy : a.eval x = .slice (some ⟨g, 0, none⟩) 1 1) (h0 : w.cell? ⟨g, 0, none⟩ = some (.pointer (some ⟨p, 0, none⟩))) (hk : n ≤ 1099511627776) (hB : B ≤ w.heap.size)
    (h : ∀ A c w', Own w' B 77 1 (.slice A (n + 1) c) (n + 1) (D ++ [.pointer (some ⟨p, 0, none⟩)]) → Keep (fun k => ownB v = some k) w w' → (∀ k', ownB (.slice A (n + 1) c) = some k' → ownB v = some k' ∨ w.heap.size ≤ k') → K (a.put o.dst (.slice A (n + 1) c)) w') :
    if Region.wanted o (yielded ops a.tmps) = true then Oper.wp Tryz.prog o a w K Q else E := by
  obtain ⟨is, his, hs0, hs1, hs2⟩ := info_parts info_tbp
  refine step_append_gen w hgd s x _ _ ho B 77 is _ 1 8 Tryz.underlying73 his hs0 hs1 hs2 rfl v n _ hv hown _ 1 _ hy (src_at Tryz.underlying73 (x := .pointer (some ⟨p, 0, none⟩)) rfl h0) (by unfold maxLen; omega) (by omega) hB ?_
  intro v' w' ho' hk' hn'
  obtain ⟨A, c', rfl, _⟩ := ho'.form
  exact h A c' w' ho' hk' hn'
/-- What stands behind the core's first row. -/
structure CoS (w : World) (c : Cf) (xp ip gp : Nat) (GF CF : Nat → Prop) (u : Value) (X : World) : Prop where
  row : X.heap[xp]? = some (.cells #[.int .i64 c.log, .int .i64 c.pages, .int .i64 c.ents, .int .i64 c.gens, u, .pointer (some ⟨ip, 0, none⟩), .pointer (some ⟨gp, 0, none⟩), .slice none 0 0, .slice none 0 0] 76 (0, 0))
  cl : CL X CF u c.l
  ids : IdM X ip (.slice none 0 0) (.slice none 0 0) (naNew c.ents c.gens)
  gr : GrIs X gp GF 0 [0]
  keep : Keep (fun _ => False) w X
  bC : ∀ k, CF k → w.heap.size ≤ k ∧ k < xp ∧ ¬ GF k ∧ k ≠ ip
  bG : ∀ k, GF k → w.heap.size ≤ k ∧ k < xp ∧ k ≠ ip
  bI : w.heap.size ≤ ip ∧ ip < xp
  bx : xp < X.heap.size
section
open Classical
/-- Whose block it is, in a core that is new. -/
noncomputable def tagNew (xp ip B : Nat) (GF : Nat → Prop) (vT : Value) (k : Nat) : Nat :=
  if k = xp then 0 else if k = ip then 1 else if B ≤ k then (if ownB vT = some k then 3 else 6) else if GF k then 2 else 5
theorem coNew_is {w1 wc w4 w6 : World} {c : Cf} {xp ip gp : Nat} {GF CF : Nat → Prop} {u vT : Value} {tp mb : Nat} {vs : Value} {cp : Nat → Nat} {FC : Nat → Nat → Prop}
    (S : CoS w1 c xp ip gp GF CF u wc) (htb : Tb w4 tp mb vs cp FC (0 &&& allOf c.l) (szOf c.l) [] (fun _ => [])) (hlo : ∀ k, TF tp mb vs FC (0 &&& allOf c.l) k → wc.heap.size ≤ k) (k4 : Keep (fun _ => False) wc w4) (k46 : Keep (fun _ => False) w4 w6)
    (ho : Own w6 0 77 1 vT 1 ([] ++ [.pointer (some ⟨tp, 0, none⟩)])) (hn : ∀ k, ownB vT = some k → w4.heap.size ≤ k) :
    ∃ B, CoM (w6.setCell ⟨xp, 7, none⟩ vT) c xp B 0 (coNew c) ∧ Keep (fun _ => False) w1 (w6.setCell ⟨xp, 7, none⟩ vT) ∧ ∀ k, CoF xp B (coNew c) k → w1.heap.size ≤ k := by
  rw [Nat.zero_and] at htb hlo
  have hx1 : w1.heap.size ≤ xp := by have := S.bI; omega
  have k6 := k4.trans k46 (fun _ _ h => h)
  have kX : Keep (fun b => b = xp) w6 (w6.setCell ⟨xp, 7, none⟩ vT) := Keep.setCell (S := fun b => b = xp) (p := ⟨xp, 7, none⟩) (Keep.refl _ w6) (.inr rfl) _
  have hbx := (k6.block xp S.bx (fun h => h)).trans S.row
  have kW := (S.keep.trans k6 (fun _ _ h => h)).trans kX (fun x hx e => by have : x = xp := e; omega)
  have hno : ∀ k, ownB (Value.slice none 0 0) ≠ some k := fun k e => by cases e
  have hvT : ∀ k, ownB vT = some k → wc.heap.size ≤ k := fun k e => Nat.le_trans k4.size (hn k e)
  have hz := k4.size
  have hz6 := k6.size
  have hxs := S.bx
  have key : ∀ n k, Cls xp ⟨ip, .slice none 0 0, .slice none 0 0, gp, GF, vT, .slice none 0 0, u, CF, fun _ => tp, fun _ => mb, fun _ => vs, fun _ => cp, fun _ => FC, tagNew xp ip wc.heap.size GF vT⟩ [0] 1 n k → w1.heap.size ≤ k ∧ tagNew xp ip wc.heap.size GF vT k = n := by
    intro n k hk
    rcases hk with ⟨hn', hk⟩ | ⟨hn', hk⟩ | ⟨hn', hk⟩ | ⟨hn', hk⟩ | ⟨hn', hk⟩ | ⟨hn', hk⟩ | ⟨i, hn', hi, hk⟩
    · subst hk; subst hn'; exact ⟨hx1, by unfold tagNew; rw [if_pos rfl]⟩
    · rcases hk with hk | hk | hk
      · subst hn'
        have := S.bI
        simp only at hk
        subst hk
        exact ⟨this.1, by unfold tagNew; rw [if_neg (by omega), if_pos rfl]⟩
      · exact absurd hk (hno k)
      · exact absurd hk (hno k)
    · have := S.bG k hk
      subst hn'
      exact ⟨this.1, by unfold tagNew; rw [if_neg (by omega), if_neg (by omega), if_neg (by omega), if_pos hk]⟩
    · have := hvT k hk
      have h2 := S.bI
      subst hn'
      have h3 := S.keep.size
      exact ⟨by omega, by unfold tagNew; rw [if_neg (by omega), if_neg (by omega), if_pos this, if_pos hk]⟩
    · exact absurd hk (hno k)
    · have := S.bC k hk
      subst hn'
      exact ⟨this.1, by unfold tagNew; rw [if_neg (by omega), if_neg (by omega), if_neg (by omega), if_neg this.2.2.1]⟩
    · obtain rfl : i = 0 := by omega
      have h1 := hlo k hk
      have h2 := S.bI
      have h3 := S.keep.size
      have h4 : ownB vT ≠ some k := fun e => by
        have := hn k e
        have := htb.lt k hk
        omega
      subst hn'
      exact ⟨by omega, by unfold tagNew; rw [if_neg (by omega), if_neg (by omega), if_pos h1, if_neg h4]⟩
  refine ⟨⟨ip, .slice none 0 0, .slice none 0 0, gp, GF, vT, .slice none 0 0, u, CF, fun _ => tp, fun _ => mb, fun _ => vs, fun _ => cp, fun _ => FC, tagNew xp ip wc.heap.size GF vT⟩, ⟨?_, ?_, ?_, ?_, ?_, ?_, ?_, ?_, ?_, ?_, by omega, ?_, ?_⟩, kW, ?_⟩
  · exact heap_setCell_same _ xp 7 _ _ vT hbx
  · exact (S.ids.same k6).keep kX (fun k hk e => by
      rcases hk with hk | hk | hk
      · have := S.bI; omega
      · exact hno k hk
      · exact hno k hk)
  · exact (S.gr.keep k6 (fun _ _ h => h)).keep kX (fun k hk e => by have := S.bG k hk; omega)
  · exact ho.keep kX (fun k hk e => by have := hvT k hk; omega)
  · exact Own.none_ _ _ _ _ _
  · exact (S.cl.same k6).keep kX (fun k _ hk e => by have := S.bC k hk; omega)
  · intro k hk
    have := S.bC k hk
    have : (w6.setCell ⟨xp, 7, none⟩ vT).heap.size = w6.heap.size := by simp
    omega
  · intro j t ht
    obtain rfl : j = 0 := by
      have := (List.getElem?_eq_some_iff.1 ht).1
      simp [coNew] at this; omega
    obtain rfl : (⟨[], fun _ => []⟩ : Tz) = t := by simpa [coNew] using ht
    exact ⟨(htb.same k46).keep kX (fun k hk e => by have := hlo k hk; omega), fun _ _ => rfl⟩
  · exact fun n k hk => (key n k hk).2
  · exact Nat.le_refl _
  · show 1 ≤ 1000000; omega
  · exact Nat.zero_le _
  · rintro k ⟨n, hk⟩
    exact (key n k hk).1
end
theorem e_new_ok (w : World) (c : Cf) (u : Value) (F : Nat → Prop) (hu : CL w F u c.l) (hl : c.l.length ≤ 1000) (hc : checkF c = 0) (hT : Tab w) : Calls Tryz.prog 14 #[confV c u] w fun e w' => ∃ xp B, e = .returned (.pointer (some ⟨xp, 0, none⟩)) ∧ CoM w' c xp B 0 (coNew c) ∧ Keep (fun _ => False) w w' ∧ ∀ k, CoF xp B (coNew c) k → w.heap.size ≤ k := by
  have CK := Lib.hid (fun X (hk : Keep (fun _ => False) w X) => ccheckF_any c u F X (hu.same hk))
  have OW := Lib.hid (fun X (hk : Keep (fun _ => False) w X) => e_own X c u F (hu.same hk) (by omega))
  have IN := Lib.hid (fun X => id_new X c.ents c.gens)
  have GN := Lib.hid (fun X => gr_new' X)
  have TN := Lib.hid (fun X (hk : Keep (fun _ => False) w X) => show Calls Tryz.prog 34 #[confV c u, .int .u64 0] X _ from tnew_any c u F 0 (by decide) X (hu.same hk) (by omega) (hT.same hk))
  obtain ⟨Au, cu, rfl, -⟩ := hu
  rw [hc] at CK
  unfold confV at *
  go_enter Tryz.func14, Tryz.ntmps14
  go_wp2_with fail
  with_reducible refine (CK.out _ (by exact (by repeat first | (with_reducible assumption) | (with_reducible exact Keep.refl _ _) | (with_reducible refine Keep.alloc ?_ _) | (with_reducible refine Keep.drew ?_) | (with_reducible refine Keep.drewN ?_ _) | (with_reducible refine Keep.setCell ?_ (.inl (by first | omega | (simp; done) | (simp; omega) | fail)) _)))).mono ?_
  rintro e w1 ⟨rfl, hb1⟩
  have K1 := Lib.hid (show Keep (fun _ => False) w w1 ∧ w1.heap[w.heap.size]? = some (.cells #[.int .i64 c.log, .int .i64 c.pages, .int .i64 c.ents, .int .i64 c.gens, .slice Au c.l.length cu] 42 (0, 0)) from ⟨Keep.trans (T := fun _ => False) (by exact (by repeat first | (with_reducible assumption) | (with_reducible exact Keep.refl _ _) | (with_reducible refine Keep.alloc ?_ _) | (with_reducible refine Keep.drew ?_) | (with_reducible refine Keep.drewN ?_ _) | (with_reducible refine Keep.setCell ?_ (.inl (by first | omega | (simp; done) | (simp; omega) | fail)) _))) (Keep.of_below' hb1) (fun _ _ h => h), (hb1.block _ (by simp)).trans (heap_alloc_new w _)⟩)
  clear hb1
  obtain ⟨x0, x1, x2, x3, x4, xf⟩ := cells5 K1.out.2
  have CE := Lib.hid (show ∀ W', Keep (fun _ => False) w1 W' → ((W'.cell? ⟨w.heap.size, 0, none⟩ = some (.int .i64 c.log) ∧ W'.cell? ⟨w.heap.size, 1, none⟩ = some (.int .i64 c.pages) ∧ W'.cell? ⟨w.heap.size, 2, none⟩ = some (.int .i64 c.ents) ∧ W'.cell? ⟨w.heap.size, 3, none⟩ = some (.int .i64 c.gens) ∧ W'.cell? ⟨w.heap.size, 4, none⟩ = some (.slice Au c.l.length cu)) ∧ Keep (fun _ => False) w1 W') from fun W' hk => ⟨⟨hk.cell (fun h => h) x0, hk.cell (fun h => h) x1, hk.cell (fun h => h) x2, hk.cell (fun h => h) x3, hk.cell (fun h => h) x4⟩, hk⟩)
  go_upto_region 3 with fail
  go_cut [3] (fun t3 wx => ∃ xp ip gp GF CF u4, t3 = .pointer (some ⟨xp, 0, none⟩) ∧ Hid (CoS w1 c xp ip gp GF CF u4 wx))
  case first =>
   go_region_held3 (fun W' => (W'.cell? ⟨w.heap.size, 0, none⟩ = some (.int .i64 c.log) ∧ W'.cell? ⟨w.heap.size, 1, none⟩ = some (.int .i64 c.pages) ∧ W'.cell? ⟨w.heap.size, 2, none⟩ = some (.int .i64 c.ents) ∧ W'.cell? ⟨w.heap.size, 3, none⟩ = some (.int .i64 c.gens) ∧ W'.cell? ⟨w.heap.size, 4, none⟩ = some (.slice Au c.l.length cu)) ∧ Keep (fun _ => False) w1 W') (exact CE.out _ (by exact (by repeat first | (with_reducible assumption) | (with_reducible exact Keep.refl _ _) | (with_reducible refine Keep.alloc ?_ _) | (with_reducible refine Keep.drew ?_) | (with_reducible refine Keep.drewN ?_ _) | (with_reducible refine Keep.setCell ?_ (.inl (by first | omega | (simp; done) | (simp; omega) | fail)) _)))) (first
    | (go_at_call 31; (with_reducible refine (OW.out _ (by exact K1.out.1.trans (T := fun _ => False) (by exact (by repeat first | (with_reducible assumption) | (with_reducible exact Keep.refl _ _) | (with_reducible refine Keep.alloc ?_ _) | (with_reducible refine Keep.drew ?_) | (with_reducible refine Keep.drewN ?_ _) | (with_reducible refine Keep.setCell ?_ (.inl (by first | omega | (simp; done) | (simp; omega) | fail)) _))) (fun _ _ h => h))).mono ?_); rintro e w4 ⟨u4, rfl, hcl, hb4⟩; have kO := Keep.of_below' hb4; have k4 : Keep (fun _ => False) w1 w4 := Keep.trans (T := fun _ => False) (by exact (by repeat first | (with_reducible assumption) | (with_reducible exact Keep.refl _ _) | (with_reducible refine Keep.alloc ?_ _) | (with_reducible refine Keep.drew ?_) | (with_reducible refine Keep.drewN ?_ _) | (with_reducible refine Keep.setCell ?_ (.inl (by first | omega | (simp; done) | (simp; omega) | fail)) _))) kO (fun _ _ h => h); have z4 := k4.size; (try have hI' := hI.out.same (Keep.trans (T := fun _ => False) (by exact (by repeat first | (with_reducible assumption) | (with_reducible exact Keep.refl _ _) | (with_reducible refine Keep.alloc ?_ _) | (with_reducible refine Keep.drew ?_) | (with_reducible refine Keep.drewN ?_ _) | (with_reducible refine Keep.setCell ?_ (.inl (by first | omega | (simp; done) | (simp; omega) | fail)) _))) kO (fun _ _ h => h))); (try have hI := Lib.hid hI'); (try clear hI'); (try have hG' := GrIs.keep hG.out (Keep.trans (T := fun _ => False) (by exact (by repeat first | (with_reducible assumption) | (with_reducible exact Keep.refl _ _) | (with_reducible refine Keep.alloc ?_ _) | (with_reducible refine Keep.drew ?_) | (with_reducible refine Keep.drewN ?_ _) | (with_reducible refine Keep.setCell ?_ (.inl (by first | omega | (simp; done) | (simp; omega) | fail)) _))) kO (fun _ _ h => h)) (fun _ _ h => h)); (try have hG := Lib.hid hG'); (try clear hG'); have hO := Lib.hid hcl; have zO := kO.size; clear hcl hb4 kO)
    | (go_at_call 32; (with_reducible refine (IN.out _).mono ?_); rintro e w5 ⟨rfl, hid, kI⟩; have k5 : Keep (fun _ => False) w1 w5 := Keep.trans (T := fun _ => False) (by exact (by repeat first | (with_reducible assumption) | (with_reducible exact Keep.refl _ _) | (with_reducible refine Keep.alloc ?_ _) | (with_reducible refine Keep.drew ?_) | (with_reducible refine Keep.drewN ?_ _) | (with_reducible refine Keep.setCell ?_ (.inl (by first | omega | (simp; done) | (simp; omega) | fail)) _))) kI (fun _ _ h => h); have z5 := k5.size; (try have hO' := hO.out.same (Keep.trans (T := fun _ => False) (by exact (by repeat first | (with_reducible assumption) | (with_reducible exact Keep.refl _ _) | (with_reducible refine Keep.alloc ?_ _) | (with_reducible refine Keep.drew ?_) | (with_reducible refine Keep.drewN ?_ _) | (with_reducible refine Keep.setCell ?_ (.inl (by first | omega | (simp; done) | (simp; omega) | fail)) _))) kI (fun _ _ h => h))); (try have hO := Lib.hid hO'); (try clear hO'); (try have hG' := GrIs.keep hG.out (Keep.trans (T := fun _ => False) (by exact (by repeat first | (with_reducible assumption) | (with_reducible exact Keep.refl _ _) | (with_reducible refine Keep.alloc ?_ _) | (with_reducible refine Keep.drew ?_) | (with_reducible refine Keep.drewN ?_ _) | (with_reducible refine Keep.setCell ?_ (.inl (by first | omega | (simp; done) | (simp; omega) | fail)) _))) kI (fun _ _ h => h)) (fun _ _ h => h)); (try have hG := Lib.hid hG'); (try clear hG'); have hI := Lib.hid hid; have zI := Nat.lt_of_lt_of_le (Nat.lt_succ_self _) (hid.lt _ (.inl rfl)); clear hid kI)
    | (go_at_call 33; (with_reducible refine (GN.out _).mono ?_); rintro e w6 ⟨gp, GF, rfl, hg, hb6, hg6⟩; have kG := Keep.of_below' hb6; have k6 : Keep (fun _ => False) w1 w6 := Keep.trans (T := fun _ => False) (by exact (by repeat first | (with_reducible assumption) | (with_reducible exact Keep.refl _ _) | (with_reducible refine Keep.alloc ?_ _) | (with_reducible refine Keep.drew ?_) | (with_reducible refine Keep.drewN ?_ _) | (with_reducible refine Keep.setCell ?_ (.inl (by first | omega | (simp; done) | (simp; omega) | fail)) _))) kG (fun _ _ h => h); have z6 := k6.size; (try have hO' := hO.out.same (Keep.trans (T := fun _ => False) (by exact (by repeat first | (with_reducible assumption) | (with_reducible exact Keep.refl _ _) | (with_reducible refine Keep.alloc ?_ _) | (with_reducible refine Keep.drew ?_) | (with_reducible refine Keep.drewN ?_ _) | (with_reducible refine Keep.setCell ?_ (.inl (by first | omega | (simp; done) | (simp; omega) | fail)) _))) kG (fun _ _ h => h))); (try have hO := Lib.hid hO'); (try clear hO'); (try have hI' := hI.out.same (Keep.trans (T := fun _ => False) (by exact (by repeat first | (with_reducible assumption) | (with_reducible exact Keep.refl _ _) | (with_reducible refine Keep.alloc ?_ _) | (with_reducible refine Keep.drew ?_) | (with_reducible refine Keep.drewN ?_ _) | (with_reducible refine Keep.setCell ?_ (.inl (by first | omega | (simp; done) | (simp; omega) | fail)) _))) kG (fun _ _ h => h))); (try have hI := Lib.hid hI'); (try clear hI'); have hG := Lib.hid hg; have zG := kG.size; have hGb := Lib.hid (And.intro hg6 (GrIs.lt hg)); clear hg hb6 hg6 kG)
    | fail)
   all_goals
    go_wp2_with fail
    go_meet
    refine ⟨_, _, _, _, _, _, rfl, Lib.hid ⟨heap_alloc_new _ _, hO.out.same ((Keep.refl _ _).alloc _), hI.out.same ((Keep.refl _ _).alloc _), hG.out.keep ((Keep.refl (fun _ => False) _).alloc _) (fun _ _ h => h), by exact (by repeat first | (with_reducible assumption) | (with_reducible exact Keep.refl _ _) | (with_reducible refine Keep.alloc ?_ _) | (with_reducible refine Keep.drew ?_) | (with_reducible refine Keep.drewN ?_ _) | (with_reducible refine Keep.setCell ?_ (.inl (by first | omega | (simp; done) | (simp; omega) | fail)) _)), ?_, ?_, ?_, by simp⟩⟩
    all_goals
      have h1 : w.heap.size < w1.heap.size := (Array.getElem?_eq_some_iff.1 K1.out.2).1
      have h2 : w1.drew.heap.size = w1.heap.size := rfl
    · intro k hk
      exact ⟨by omega, by omega, fun hg => by have := hGb.out.1 k hg; omega, by omega⟩
    · intro k hk
      have := hGb.out.1 k hk
      have := hGb.out.2 k hk
      omega
    · omega
  case rest =>
    obtain ⟨xp, ip, gp, GF, CF, u4, rfl, S⟩ := hcut
    have hx1 := (Array.getElem?_eq_some_iff.1 K1.out.2).1
    obtain ⟨y0, y1, y2, y3, y4, yf⟩ := cells5 ((S.out.keep.block w.heap.size hx1 (fun h => h)).trans K1.out.2)
    obtain ⟨t0, tf⟩ := cells_of_row' S.out.row
    have t3 := t0 7 _ rfl
    have SX := Lib.hid (show ∀ W', Keep (fun _ => False) wc W' → ((W'.cell? ⟨w.heap.size, 0, none⟩ = some (.int .i64 c.log) ∧ W'.cell? ⟨w.heap.size, 1, none⟩ = some (.int .i64 c.pages) ∧ W'.cell? ⟨w.heap.size, 2, none⟩ = some (.int .i64 c.ents) ∧ W'.cell? ⟨w.heap.size, 3, none⟩ = some (.int .i64 c.gens) ∧ W'.cell? ⟨w.heap.size, 4, none⟩ = some (.slice Au c.l.length cu) ∧ W'.cell? ⟨xp, 7, none⟩ = some (.slice none 0 0)) ∧ Keep (fun _ => False) wc W') from fun W' hk => ⟨⟨hk.cell (fun h => h) y0, hk.cell (fun h => h) y1, hk.cell (fun h => h) y2, hk.cell (fun h => h) y3, hk.cell (fun h => h) y4, hk.cell (fun h => h) t3⟩, hk⟩)
    go_upto_region 4 with fail
    have KWC := Lib.hid (K1.out.1.trans S.out.keep (fun _ _ h => h))
    have nx : ¬ xp = w.heap.size := fun e => by have := S.out.bI; omega
    have nx2 : ¬ w.heap.size = xp := fun e => nx e.symm
    go_region_law (first
      | (go_simp; go_at_call 34; (with_reducible refine (TN.out _ (by exact KWC.out.trans (T := fun _ => False) (by exact (by repeat first | (with_reducible assumption) | (with_reducible exact Keep.refl _ _) | (with_reducible refine Keep.alloc ?_ _) | (with_reducible refine Keep.drew ?_) | (with_reducible refine Keep.drewN ?_ _) | (with_reducible refine Keep.setCell ?_ (.inl (by first | omega | (simp; done) | (simp; omega) | fail)) _))) (fun _ _ h => h))).mono ?_); rintro e w4 ⟨tp, rfl, hfr⟩; obtain ⟨mb, vs, cp, FC, htb, hb4, hlo⟩ := hfr.new; have k4 : Keep (fun _ => False) wc w4 := Keep.trans (T := fun _ => False) (by exact (by repeat first | (with_reducible assumption) | (with_reducible exact Keep.refl _ _) | (with_reducible refine Keep.alloc ?_ _) | (with_reducible refine Keep.drew ?_) | (with_reducible refine Keep.drewN ?_ _) | (with_reducible refine Keep.setCell ?_ (.inl (by first | omega | (simp; done) | (simp; omega) | fail)) _))) (Keep.of_below' hb4) (fun _ _ h => h); have z4 := k4.size; have HF := Lib.hid (And.intro htb hlo); have KF4 := Lib.hid k4; obtain ⟨⟨v0, v1, v2, v3, v4, v5⟩, -⟩ := SX.out w4 k4; have ha1 : ∀ o, (w4.alloc o).cell? ⟨xp, 7, none⟩ = some (.slice none 0 0) := fun o => ((Keep.refl (fun _ => False) w4).alloc o).cell (fun h => h) v5; have ha2 : ∀ o, (w4.drew.alloc o).cell? ⟨xp, 7, none⟩ = some (.slice none 0 0) := fun o => ((Keep.refl (fun _ => False) w4.drew).alloc o).cell (fun h => h) v5; clear hfr htb hlo hb4)
      | ((refine step_tbp (by rfl) _ _ (by rfl) 0 _ 0 [] (by rfl) (Own.none_ _ _ _ _ _) _ tp (by rfl) (by simp) (by omega) (by omega) ?_); intro A6 c6 w6 ho6 hk6 hn6; have k6 : Keep (fun _ => False) wc w6 := Keep.trans (T := fun _ => False) (by exact (by repeat first | (with_reducible assumption) | (with_reducible exact Keep.refl _ _) | (with_reducible refine Keep.alloc ?_ _) | (with_reducible refine Keep.drew ?_) | (with_reducible refine Keep.drewN ?_ _) | (with_reducible refine Keep.setCell ?_ (.inl (by first | omega | (simp; done) | (simp; omega) | fail)) _))) (hk6.mono (fun _ _ e => by simp [ownB] at e)) (fun _ _ h => h); have HO6 := Lib.hid ho6; have HN6 := Lib.hid (And.intro (show ∀ k, ownB (Value.slice A6 1 c6) = some k → w4.heap.size ≤ k from fun k e => (hn6 k e).elim (fun e => by cases e) (fun e => by simp at e; omega)) (show Keep (fun _ => False) w4 w6 from Keep.trans (T := fun _ => False) (by exact (by repeat first | (with_reducible assumption) | (with_reducible exact Keep.refl _ _) | (with_reducible refine Keep.alloc ?_ _) | (with_reducible refine Keep.drew ?_) | (with_reducible refine Keep.drewN ?_ _) | (with_reducible refine Keep.setCell ?_ (.inl (by first | omega | (simp; done) | (simp; omega) | fail)) _))) (hk6.mono (fun _ _ e => by simp [ownB] at e)) (fun _ _ h => h))); have hb6 := (k6.block xp S.out.bx (fun h => h)).trans S.out.row; obtain ⟨q0, qf⟩ := cells_of_row' hb6; clear ho6 hk6 hn6)
      | fail)
    all_goals
      go_wp2
      go_ret
      obtain ⟨BB, r1, r2, r3⟩ := coNew_is S.out HF.out.1 HF.out.2 KF4.out HN6.out.2 HO6.out HN6.out.1
      exact ⟨xp, rfl, BB, r1, K1.out.1.trans r2 (fun _ _ h => h), fun k hk => Nat.le_trans K1.out.1.size (r3 k hk)⟩
end Go.Proofs.YtdeifjnhbdkkgaaGreatDoor
namespace Go.Proofs.YtdeifjnhbdkkgaaGreatDoor
open Go.RowKit
set_option maxRecDepth 100000
set_option linter.unusedVariables false
set_option linter.unusedSimpArgs false

def tz0 : Tz := ⟨[], fun _ => []⟩
/-- A table for each of the first m nodes. -/
def growC (a : Co) (m : Nat) : Co := ⟨a.na, a.sigs, a.tabs ++ List.replicate (m - a.tabs.length) tz0, a.spots⟩
theorem growC_no {a : Co} {m : Nat} (h : m ≤ a.tabs.length) : growC a m = a := by
  unfold growC
  rw [show m - a.tabs.length = 0 by omega, List.replicate_zero, List.append_nil]
theorem growC_next {a : Co} {m : Nat} (h : a.tabs.length ≤ m) : growC a (m + 1) = ⟨a.na, a.sigs, (growC a m).tabs ++ [⟨[], fun _ => []⟩], a.spots⟩ := by
  unfold growC
  rw [show m + 1 - a.tabs.length = (m - a.tabs.length) + 1 by omega, List.replicate_succ', ← List.append_assoc]
  rfl
theorem growC_len {a : Co} {m : Nat} (h : a.tabs.length ≤ m) : (growC a m).tabs.length = m := by
  simp [growC]; omega
/-- Where a call leaves a core, with its blocks. -/
def CoAt (w : World) (c : Cf) (xp : Nat) (Foot : Nat → Prop) (q : Nat) (a : Co) (w' : World) (B : CoB) : Prop := CoM w' c xp B q a ∧ Keep Foot w w' ∧ ∀ k, CoF xp B a k → Foot k ∨ w.heap.size ≤ k
section
variable {w w1 w' : World} {c : Cf} {xp q q' : Nat} {B B1 B2 : CoB} {a a1 a2 : Co} {Foot : Nat → Prop}
theorem CoAt.first (h : CoM w c xp B q a) : CoAt w c xp (CoF xp B a) q a w B := ⟨h, Keep.refl _ _, fun k hk => .inl hk⟩
theorem CoAt.then_ (h : CoAt w c xp Foot q a1 w1 B1) (h' : CoAt w1 c xp (CoF xp B1 a1) q' a2 w' B2) : CoAt w c xp Foot q' a2 w' B2 :=
  ⟨h'.1, h.2.1.trans h'.2.1 (fun k hk e => (h.2.2 k e).resolve_right (by omega)), fun k hk => by
    rcases h'.2.2 k hk with e | e
    · exact h.2.2 k e
    · exact .inr (Nat.le_trans h.2.1.size e)⟩
theorem CoAt.same (h : CoAt w c xp Foot q a w1 B) (hk : Keep (fun _ => False) w1 w') : CoAt w c xp Foot q a w' B := ⟨h.1.same hk, h.2.1.trans hk (fun _ _ h => h.elim), h.2.2⟩
theorem CoAt.from_ (hk : Keep (fun _ => False) w w1) (h : CoAt w1 c xp Foot q a w' B) : CoAt w c xp Foot q a w' B :=
  ⟨h.1, (hk.mono (fun _ _ h => h.elim)).trans h.2.1 (fun _ _ h => h), fun k e => (h.2.2 k e).imp_right (fun e => Nat.le_trans hk.size e)⟩
theorem CoAt.tab (h : CoAt w c xp Foot q a w' B) (hT : Tab w) (hG : ¬ Foot 0) : Tab w' ∧ ¬ CoF xp B a 0 :=
  ⟨hT.keep h.2.1 hG, fun e => by
    rcases h.2.2 _ e with e | e
    · exact hG e
    · have := hT.lt; omega⟩
theorem CoTo.at_ (h : CoTo w c xp Foot q a w') : ∃ B, CoAt w c xp Foot q a w' B := h
theorem CoAt.to (h : CoAt w c xp Foot q a w' B) : CoTo w c xp Foot q a w' := ⟨B, h⟩
theorem CoTo.then_ (h : CoAt w c xp Foot q a1 w1 B1) (h' : CoTo w1 c xp (CoF xp B1 a1) q' a2 w') : CoTo w c xp Foot q' a2 w' := by
  obtain ⟨B2, h'⟩ := h'
  exact (h.then_ h').to
/-- The tables are those of the first nodes. -/
theorem CoM.tpAt (h : CoM w c xp B q a) {j : Nat} (hj : j < a.tabs.length) : ∃ g cp, B.vT = .slice (some ⟨g, 0, none⟩) a.tabs.length cp ∧ a.tabs.length ≤ cp ∧ cp ≤ maxLen ∧ ∀ W, Keep (fun _ => False) w W → W.cell? ⟨g, j, none⟩ = some (.pointer (some ⟨B.tp j, 0, none⟩)) := by
  obtain ⟨g, cp, h1, h2, h3, -, -, -, h4⟩ := own_blkQ h.oT (by omega)
  refine ⟨g, cp, h1, h2, h3, fun W hW => (h4 W hW).1 j _ ?_⟩
  rw [List.getElem?_map, List.getElem?_range hj]
  rfl
/-- A table more, as the code lays it. -/
theorem CoM.atPush (h : CoM w c xp B q a) (hm : a.tabs.length < a.sigs.length) {w4 w6 : World} {tp mb : Nat} {tv v' : Value} {cp : Nat → Nat} {FC : Nat → Nat → Prop} (k4 : Keep (fun _ => False) w w4)
    (htb : Tb w4 tp mb tv cp FC (a.sigs.getD a.tabs.length 0) (szOf c.l) [] (fun _ => [])) (hlo : ∀ k, TF tp mb tv FC (a.sigs.getD a.tabs.length 0) k → w.heap.size ≤ k) 
    (ho : Own w6 0 77 1 v' (a.tabs.length + 1) (((List.range a.tabs.length).map fun j => .pointer (some ⟨B.tp j, 0, none⟩)) ++ [.pointer (some ⟨tp, 0, none⟩)])) (hk6 : Keep (fun k => ownB B.vT = some k) w4 w6) (hn6 : ∀ k, ownB v' = some k → ownB B.vT = some k ∨ w4.heap.size ≤ k) :
    ∃ B', CoAt w c xp (CoF xp B a) q ⟨a.na, a.sigs, a.tabs ++ [⟨[], fun _ => []⟩], a.spots⟩ (w6.setCell ⟨xp, 7, none⟩ v') B' ∧ B'.gp = B.gp := by
  have kX : Keep (fun b => b = xp) w6 (w6.setCell ⟨xp, 7, none⟩ v') := Keep.setCell (S := fun b => b = xp) (p := ⟨xp, 7, none⟩) (Keep.refl _ w6) (.inr rfl) _
  have hxs := (Array.getElem?_eq_some_iff.1 h.box).1
  have z4 := k4.size
  have hvx : ownB B.vT ≠ some xp := fun e => by
    have := h.apart (.inl ⟨rfl, rfl⟩ : Cls xp B a.sigs a.tabs.length 0 xp) (.inr (.inr (.inr (.inl ⟨rfl, e⟩))) : Cls xp B a.sigs a.tabs.length 3 xp)
    cases this
  have hvl : ∀ k, ownB B.vT = some k → k < w.heap.size := fun k e => (h.oT.ownB k e).2
  have k6 : Keep (fun k => ownB B.vT = some k) w w6 := (k4.mono (T := fun k => ownB B.vT = some k) (fun _ _ h => h.elim)).trans hk6 (fun _ _ h => h)
  have kW : Keep (fun k => k = xp ∨ ownB B.vT = some k) w (w6.setCell ⟨xp, 7, none⟩ v') := (k6.mono (T := fun k => k = xp ∨ ownB B.vT = some k) (fun _ _ h => .inr h)).trans kX (fun _ _ h => .inl h)
  have hbx := (k6.block xp hxs hvx).trans h.box
  refine h.tabPush (tp := tp) (mb := mb) (tv := tv) (cp := cp) (FC := FC) hm (heap_setCell_same _ xp 7 _ _ v' hbx) (ho.keep kX (fun k e1 e2 => ?_)) kW (fun k e => ?_) ((htb.keep hk6 (fun k e1 e2 => ?_)).keep kX (fun k e1 e2 => ?_)) hlo (fun k e1 e2 => ?_)
  · have : k = xp := e2
    subst this
    rcases hn6 k e1 with e | e
    · exact hvx e
    · omega
  · exact (hn6 k e).imp_right (fun e => by omega)
  · have := hlo k e1; have := hvl k e2; omega
  · have := hlo k e1; have : k = xp := e2; omega
  · have h1 := hlo k e1
    have h2 := htb.lt k e1
    rcases hn6 k e2 with e | e
    · have := hvl k e; omega
    · omega
end
/-- How many tables a core in memory has. -/
def tbsW (W : World) (xp : Nat) : Nat := match W.cell? ⟨xp, 7, none⟩ with
  | some (.slice _ n _) => n
  | _ => 0
theorem tbsW_of {w : World} {c : Cf} {xp q : Nat} {B : CoB} {a : Co} (h : CoM w c xp B q a) : tbsW w xp = a.tabs.length := by
  obtain ⟨_, A, cT, e, -⟩ := h.oT
  have c7 : w.cell? ⟨xp, 7, none⟩ = some B.vT := (cells_of_row' h.box).1 7 _ rfl
  unfold tbsW
  rw [c7, e]
set_option maxHeartbeats 4000000 in
theorem e_at {w : World} {c : Cf} {xp q : Nat} {B : CoB} {a : Co} (h : CoM w c xp B q a) (hl : c.l.length ≤ 1000) (hT : Tab w) (hG : ¬ CoF xp B a 0) (node : Nat) (hn : node < a.sigs.length) (hs : ∀ s ∈ a.sigs, s < 18446744073709551616 ∧ s &&& allOf c.l = s) :
    Calls Tryz.prog 59 #[.pointer (some ⟨xp, 0, none⟩), .int .i64 (node : Int)] w fun e w' => ∃ B', e = .returned (.pointer (some ⟨B'.tp node, 0, none⟩)) ∧ CoAt w c xp (CoF xp B a) q (growC a (node + 1)) w' B' ∧ B'.gp = B.gp := by
  have HT := Lib.hid hT
  have HG := Lib.hid hG
  have HS := Lib.hid hs
  have F0 := Lib.hid (CoAt.first h)
  have hN : node < 1000000 := by have := h.sgs; omega
  obtain ⟨M, hM⟩ : ∃ M, a.tabs.length = M := ⟨_, rfl⟩
  have HM := Lib.hid hM
  have hMs : M ≤ a.sigs.length := by rw [← hM]; exact h.few
  have hM6 : M ≤ 1000000 := by have := h.sgs; omega
  obtain ⟨NS, hNS⟩ : ∃ NS, a.sigs.length = NS := ⟨_, rfl⟩
  have HNS := Lib.hid hNS
  rw [hNS] at hn hMs
  clear h hT hG hs hM hNS
  go_enter Tryz.func59, Tryz.ntmps59
  go_wp2
  go_loopw [] (fun wr => ∃ (m : Nat) (B1 : CoB), M ≤ m ∧ m ≤ max M (node + 1) ∧ Hid (CoAt w c xp (CoF xp B a) q (growC a m) wr B1) ∧ Hid (B1.gp = B.gp)) (fun wr => node + 1 - tbsW wr xp)
  case atStart => exact ⟨M, B, Nat.le_refl _, Nat.le_max_left _ _, Lib.hid (by rw [growC_no (by have := HM.out; omega)]; exact F0.out), Lib.hid rfl⟩
  case round =>
    obtain ⟨m, B1, h1, h2, hst, hgp⟩ := hrel
    have hle : m ≤ NS := by omega
    have hlen : (growC a m).tabs.length = m := growC_len (by rw [HM.out]; exact h1)
    have hm6 : m ≤ 1000000 := by have := hst.out.1.sgs; have := HNS.out; show m ≤ 1000000; have h3 : (growC a m).sigs.length = a.sigs.length := rfl; omega
    obtain ⟨tt, tf⟩ := cells_of_row' hst.out.1.box
    have c0 : wr.cell? ⟨xp, 0, none⟩ = some (.int .i64 c.log) := tt 0 _ rfl
    have c1 : wr.cell? ⟨xp, 1, none⟩ = some (.int .i64 c.pages) := tt 1 _ rfl
    have c2 : wr.cell? ⟨xp, 2, none⟩ = some (.int .i64 c.ents) := tt 2 _ rfl
    have c3 : wr.cell? ⟨xp, 3, none⟩ = some (.int .i64 c.gens) := tt 3 _ rfl
    have c4 : wr.cell? ⟨xp, 4, none⟩ = some (B1.uC) := tt 4 _ rfl
    have c6 : wr.cell? ⟨xp, 6, none⟩ = some (.pointer (some ⟨B1.gp, 0, none⟩)) := tt 6 _ rfl
    have c7 : wr.cell? ⟨xp, 7, none⟩ = some (B1.vT) := tt 7 _ rfl
    clear tt
    have HXP := Lib.hid (Array.getElem?_eq_some_iff.1 hst.out.1.box).1
    have HOT := Lib.hid hst.out.1.oT
    rw [hlen] at HOT
    have TW := Lib.hid (show tbsW wr xp = m from (tbsW_of hst.out.1).trans hlen)
    by_cases hcase : m ≤ node
    · have hi : (m : Int) ≤ (node : Int) := by omega
      have hmN : m < NS := by omega
      obtain ⟨sg, hsg⟩ : ∃ sg, a.sigs.getD m 0 = sg := ⟨_, rfl⟩
      have HSG := Lib.hid hsg
      have hin := HS.out sg (by rw [← hsg, List.getD_eq_getElem?_getD, List.getElem?_eq_getElem (by rw [HNS.out]; exact hmN)]; exact List.getElem_mem _)
      have GS := Lib.hid (show ∀ W, Keep (fun _ => False) wr W → Calls Tryz.prog 75 #[.pointer (some ⟨B1.gp, 0, none⟩), .int .i64 (m : Int)] W fun e w' => e = .returned (.tuple #[.int .u64 (sg : Int), .bool true]) ∧ W = w' from fun W hk => by
        have hg := gis_sig (GrIs.keep hst.out.1.graph hk (fun _ _ h => h)) (m : Int)
        have hlt : (m : Int) < (a.sigs.length : Int) := by have := HNS.out; omega
        have e1 : (if (0 : Int) ≤ (m : Int) ∧ (m : Int) < ((growC a m).sigs.length : Int) then (growC a m).sigs.getD ((m : Int)).toNat 0 else 0) = sg := by
          rw [if_pos ⟨by omega, hlt⟩, Int.toNat_natCast]; exact hsg
        have e2 : (decide ((0 : Int) ≤ (m : Int)) && decide ((m : Int) < ((growC a m).sigs.length : Int))) = true := by
          rw [decide_eq_true (show (0 : Int) ≤ (m : Int) by omega), decide_eq_true (show (m : Int) < ((growC a m).sigs.length : Int) from hlt)]; rfl
        rw [e1, e2] at hg
        exact hg)
      have TN := Lib.hid (show ∀ W, Keep (fun _ => False) wr W → Calls Tryz.prog 34 #[confV c B1.uC, .int .u64 (sg : Int)] W fun e w' => ∃ tp, e = .returned (.pointer (some ⟨tp, 0, none⟩)) ∧ TbFresh W sg (szOf c.l) tp w' from fun W hk => by
        have := tnew_any c B1.uC B1.CF sg hin.1 W (hst.out.1.comps.same hk) hl ((hst.out.tab HT.out HG.out).1.same hk)
        rw [hin.2] at this
        exact this)
      unfold confV at TN
      have HCL := Lib.hid hst.out.1.comps
      obtain ⟨Au, cu, hu, -⟩ := hst.out.1.comps
      obtain ⟨_, AT, cT, hvT, -⟩ := HOT.out
      have HV := Lib.hid hvT
      rw [hu] at c4 TN
      have HBX := Lib.hid hst.out.1.box
      have HVX := Lib.hid (show ownB B1.vT ≠ some xp from fun e => by
        have := hst.out.1.apart (.inl ⟨rfl, rfl⟩ : Cls xp B1 _ _ 0 xp) (.inr (.inr (.inr (.inl ⟨rfl, e⟩))) : Cls xp B1 _ _ 3 xp)
        cases this)
      rw [hvT] at c7 HOT HBX HVX
      have HLN := Lib.hid hlen
      clear hsg hin hu hvT hlen HCL
      have SX := Lib.hid (show ∀ W', Keep (fun _ => False) wr W' → ((W'.cell? ⟨xp, 0, none⟩ = some (.int .i64 c.log) ∧ W'.cell? ⟨xp, 1, none⟩ = some (.int .i64 c.pages) ∧ W'.cell? ⟨xp, 2, none⟩ = some (.int .i64 c.ents) ∧ W'.cell? ⟨xp, 3, none⟩ = some (.int .i64 c.gens) ∧ W'.cell? ⟨xp, 4, none⟩ = some (.slice Au c.l.length cu) ∧ W'.cell? ⟨xp, 6, none⟩ = some (.pointer (some ⟨B1.gp, 0, none⟩)) ∧ W'.cell? ⟨xp, 7, none⟩ = some (.slice AT m cT)) ∧ Keep (fun _ => False) wr W') from fun W' hk => ⟨⟨hk.cell (fun h => h) c0, hk.cell (fun h => h) c1, hk.cell (fun h => h) c2, hk.cell (fun h => h) c3, hk.cell (fun h => h) c4, hk.cell (fun h => h) c6, hk.cell (fun h => h) c7⟩, hk⟩)
      go_upto_region 2 with fail
      go_region_held3 (fun W' => (W'.cell? ⟨xp, 0, none⟩ = some (.int .i64 c.log) ∧ W'.cell? ⟨xp, 1, none⟩ = some (.int .i64 c.pages) ∧ W'.cell? ⟨xp, 2, none⟩ = some (.int .i64 c.ents) ∧ W'.cell? ⟨xp, 3, none⟩ = some (.int .i64 c.gens) ∧ W'.cell? ⟨xp, 4, none⟩ = some (.slice Au c.l.length cu) ∧ W'.cell? ⟨xp, 6, none⟩ = some (.pointer (some ⟨B1.gp, 0, none⟩)) ∧ W'.cell? ⟨xp, 7, none⟩ = some (.slice AT m cT)) ∧ Keep (fun _ => False) wr W') (exact SX.out _ (by exact (by repeat first | (with_reducible assumption) | (with_reducible exact Keep.refl _ _) | (with_reducible refine Keep.alloc ?_ _) | (with_reducible refine Keep.drew ?_) | (with_reducible refine Keep.drewN ?_ _) | (with_reducible refine Keep.setCell ?_ (.inl (by first | omega | (simp; done) | (simp; omega) | fail)) _)))) (first
        | (go_at_call 75; (with_reducible refine (GS.out _ (by exact (by repeat first | (with_reducible assumption) | (with_reducible exact Keep.refl _ _) | (with_reducible refine Keep.alloc ?_ _) | (with_reducible refine Keep.drew ?_) | (with_reducible refine Keep.drewN ?_ _) | (with_reducible refine Keep.setCell ?_ (.inl (by first | omega | (simp; done) | (simp; omega) | fail)) _)))).mono ?_); rintro e w4 ⟨rfl, rfl⟩)
        | fail)
      go_upto_region 3 with fail
      have KX := Lib.hid (show Keep (fun _ => False) wr wr.drew from (Keep.refl _ _).drew)
      go_region_law (first
        | (go_simp; go_at_call 34; (with_reducible refine (TN.out _ (by exact (by repeat first | (with_reducible assumption) | (with_reducible exact Keep.refl _ _) | (with_reducible refine Keep.alloc ?_ _) | (with_reducible refine Keep.drew ?_) | (with_reducible refine Keep.drewN ?_ _) | (with_reducible refine Keep.setCell ?_ (.inl (by first | omega | (simp; done) | (simp; omega) | fail)) _)))).mono ?_); rintro e w4 ⟨tp, rfl, hfr⟩; obtain ⟨mb, vs, cp, FC, htb, hb4, hlo⟩ := hfr.new; have k4 : Keep (fun _ => False) wr w4 := Keep.trans (T := fun _ => False) (by exact (by repeat first | (with_reducible assumption) | (with_reducible exact Keep.refl _ _) | (with_reducible refine Keep.alloc ?_ _) | (with_reducible refine Keep.drew ?_) | (with_reducible refine Keep.drewN ?_ _) | (with_reducible refine Keep.setCell ?_ (.inl (by first | omega | (simp; done) | (simp; omega) | fail)) _))) (Keep.of_below' hb4) (fun _ _ h => h); have z4 := k4.size; have HF := Lib.hid (And.intro htb hlo); have KF4 := Lib.hid k4; obtain ⟨⟨v0, v1, v2, v3, v4, v5, v6⟩, -⟩ := SX.out w4 k4; have ha1 : ∀ o, (w4.alloc o).cell? ⟨xp, 7, none⟩ = some (.slice AT m cT) := fun o => ((Keep.refl (fun _ => False) w4).alloc o).cell (fun h => h) v6; have ha2 : ∀ o, (w4.drew.alloc o).cell? ⟨xp, 7, none⟩ = some (.slice AT m cT) := fun o => ((Keep.refl (fun _ => False) w4.drew).alloc o).cell (fun h => h) v6; clear hfr htb hlo hb4)
        | ((refine step_tbp (by rfl) _ _ (by rfl) 0 _ m _ (by rfl) (HOT.out.keep (S := fun _ => False) (by exact (by repeat first | (with_reducible assumption) | (with_reducible exact Keep.refl _ _) | (with_reducible refine Keep.alloc ?_ _) | (with_reducible refine Keep.drew ?_) | (with_reducible refine Keep.drewN ?_ _) | (with_reducible refine Keep.setCell ?_ (.inl (by first | omega | (simp; done) | (simp; omega) | fail)) _))) (fun _ _ h => h)) _ tp (by rfl) (by simp) (by omega) (by omega) ?_); intro A6 c6 w6 ho6 hk6 hn6; have HA6 := Lib.hid (And.intro ho6 (And.intro hk6 hn6)); (have KK6 : Keep (fun k => ownB (Value.slice AT m cT) = some k) w4 w6 := Keep.trans (T := fun k => ownB (Value.slice AT m cT) = some k) (by exact (by repeat first | (with_reducible assumption) | (with_reducible exact Keep.refl _ _) | (with_reducible refine Keep.alloc ?_ _) | (with_reducible refine Keep.drew ?_) | (with_reducible refine Keep.drewN ?_ _) | (with_reducible refine Keep.setCell ?_ (.inl (by first | omega | (simp; done) | (simp; omega) | fail)) _))) hk6 (fun _ _ h => h)); have KN6 : ∀ k, ownB (Value.slice A6 (m + 1) c6) = some k → ownB (Value.slice AT m cT) = some k ∨ w4.heap.size ≤ k := fun k e => (hn6 k e).imp_right (fun e => by simp at e; omega); have HA6 := Lib.hid (And.intro ho6 (And.intro KK6 KN6)); have k6 : Keep (fun k => ownB (Value.slice AT m cT) = some k) wr w6 := Keep.trans (T := fun k => ownB (Value.slice AT m cT) = some k) (KF4.out.mono (fun _ _ h => h.elim)) KK6 (fun _ _ h => h); have hb6 := (k6.block xp HXP.out HVX.out).trans HBX.out; obtain ⟨q0, qf⟩ := cells_of_row' hb6; clear ho6 hk6 hn6 KK6 KN6)
        | fail)
      all_goals
        obtain ⟨B2, hB2, hg2⟩ := CoM.atPush hst.out.1 (by have := HLN.out; have := HNS.out; show (growC a m).tabs.length < a.sigs.length; omega) (tp := tp) (v' := .slice A6 (m + 1) c6) KF4.out (by rw [HLN.out]; have := HF.out.1; rw [← HSG.out] at this; exact this) (by rw [HLN.out]; have := HF.out.2; rw [← HSG.out] at this; exact this) (by rw [HLN.out]; exact HA6.out.1) (by rw [HV.out]; exact HA6.out.2.1) (by rw [HV.out]; exact HA6.out.2.2)
        have hG3 := Lib.hid (hg2.trans hgp.out)
        have hB2 := hst.out.then_ hB2
        have hB3 := Lib.hid (show CoAt w c xp (CoF xp B a) q (growC a (m + 1)) (w6.setCell ⟨xp, 7, none⟩ (.slice A6 (m + 1) c6)) B2 from by rw [growC_next (by have := HM.out; omega)]; exact hB2)
        have hW := Lib.hid (show tbsW (w6.setCell ⟨xp, 7, none⟩ (.slice A6 (m + 1) c6)) xp = m + 1 from (tbsW_of hB3.out.1).trans (growC_len (by have := HM.out; omega)))
        clear hB2 hg2
        go_wp2
        go_roundw
        case rel => exact ⟨m + 1, B2, by omega, by omega, hB3, hG3⟩
        case measure => rw [TW.out, hW.out]; omega
    · have hi : ¬ (m : Int) ≤ (node : Int) := by omega
      have EG := Lib.hid (show growC a m = growC a (node + 1) from by
        by_cases h3 : M ≤ node + 1
        · have : m = node + 1 := by omega
          rw [this]
        · rw [growC_no (by have := HM.out; omega), growC_no (by have := HM.out; omega)])
      obtain ⟨g, cT, hv, hc1, hc2, hcc⟩ := hst.out.1.tpAt (j := node) (by rw [hlen]; omega)
      have ht := hcc wr (Keep.refl _ _)
      rw [hv, hlen] at c7
      have HR := Lib.hid (show CoAt w c xp (CoF xp B a) q (growC a (node + 1)) wr B1 from by rw [← EG.out]; exact hst.out)
      have hg0 : (node : Int) < (m : Int) := by omega
      clear hcc hv hst HOT hlen
      go_wp2
      go_ret
      exact ⟨B1, rfl, HR.out, hgp.out⟩
end Go.Proofs.YtdeifjnhbdkkgaaGreatDoor

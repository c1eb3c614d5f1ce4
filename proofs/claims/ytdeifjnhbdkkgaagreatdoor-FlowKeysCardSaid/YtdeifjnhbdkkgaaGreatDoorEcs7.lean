/- Contracts of ecs.Alive, Spawn, Despawn, named. -/
import Derived.Test.YtdeifjnhbdkkgaaGreatDoorEcsPl
import Derived.Test.YtdeifjnhbdkkgaaGreatDoorBits2
namespace Go.Proofs.YtdeifjnhbdkkgaaGreatDoor
open Go.RowKit
set_option maxRecDepth 100000
set_option linter.unusedVariables false
set_option linter.unusedSimpArgs false

section
variable {w : World} {c : Cf} {xp q : Nat} {B : CoB} {a : Co}
theorem CoAt.besides {Foot S : Nat → Prop} {w1 w' : World} (h : CoAt w c xp Foot q a w1 B) (hk : Keep S w1 w') (hs : ∀ k, CoF xp B a k → ¬ S k) (hS : ∀ k, S k → w.heap.size ≤ k) : CoAt w c xp Foot q a w' B :=
  ⟨h.1.keep hk hs, h.2.1.trans hk (fun x hx e => by have := hS x e; omega), h.2.2⟩
/-- A core with other names. -/
def naC (a : Co) (n : Na) : Co := ⟨n, a.sigs, a.tabs, a.spots⟩
/-- A new entity. -/
def spawnC (sz : Nat → Nat) (a : Co) : Co × IdZ × Int :=
  if (takeI a.na).2.2 = 0 then (enterC sz (naC a (takeI a.na).1) (takeI a.na).2.1.ix.toNat (takeI a.na).2.1.gen.toNat 0 [], (takeI a.na).2.1, 0) else (a, zeroId, (takeI a.na).2.2)
theorem takeI_name {n : Na} (h : NaOk n) (h0 : (takeI n).2.2 = 0) : ∃ i g : Nat, (takeI n).2.1 = ⟨(i : Int), (g : Int)⟩ ∧ i < 1024 := by
  rcases list_last n.free with hf | ⟨f, i, hf⟩
  · rw [takeI_none hf] at h0 ⊢
    split
    · rename_i e; rw [if_pos e] at h0; cases h0
    · exact ⟨n.sl.length, 0, rfl, by have := h.few; have := h.ents; omega⟩
  · rw [takeI_last hf]
    refine ⟨i, (n.sl.getD i (0, false)).1, rfl, ?_⟩
    have := (h.fr i (by rw [hf]; simp)).1
    have := h.few
    have := h.ents
    omega
theorem takeI_err {n : Na} (h0 : (takeI n).2.2 ≠ 0) : takeI n = (n, zeroId, 9) := by
  rcases list_last n.free with hf | ⟨f, i, hf⟩
  · rw [takeI_none hf] at h0 ⊢
    split
    · rfl
    · rename_i e; rw [if_neg e] at h0; exact absurd rfl h0
  · rw [takeI_last hf] at h0
    exact absurd rfl h0
/-- Where an entity stands. -/
structure Stands (a : Co) (i : Nat) : Prop where
  sp : i < a.spots.length
  nd : (spAt a i).node < a.tabs.length
  rw_ : (spAt a i).row < (tbAt a (spAt a i).node).ids.length
  ix : ∀ x ∈ (tbAt a (spAt a i).node).ids, 0 ≤ x.ix ∧ x.ix.toNat < a.spots.length
/-- An entity goes. -/
def despawnC (a : Co) (x : IdZ) : Co × Int := if aliveI a.na x = true then (naC (leaveC a x.ix.toNat) (giveI a.na x).1, 0) else (a, 5)
/-- An entity and a component: its size, whether it has it, the error. -/
def namedC (l : List Cp) (a : Co) (x : IdZ) (k : Int) : Int × Bool × Int :=
  if aliveI a.na x = true then (if 0 ≤ k ∧ k < l.length then (szAt l k.toNat, hasB (sgAt a (spAt a x.ix.toNat).node) k, 0) else (0, false, 6)) else (0, false, 5)
end
end Go.Proofs.YtdeifjnhbdkkgaaGreatDoor
namespace Go.Proofs.YtdeifjnhbdkkgaaGreatDoor
open Go.RowKit
set_option maxRecDepth 100000
set_option linter.unusedVariables false
set_option linter.unusedSimpArgs false

theorem Own.formO {w : World} {base n size : Nat} {e : TypeId} {v : Value} {xs : List Value} (h : Own w base e size v n xs) : ∃ A c, v = .slice A n c ∧ Rd w (fun k => Go.Proofs.YtdeifjnhbdkkgaaGreatDoor.ownB v = some k) A (n * size) xs := by
  obtain ⟨hl, A, c, rfl, hnc, hc, hg⟩ := h
  refine ⟨A, c, rfl, hl, fun hm => ?_⟩
  have hn : 0 < n := Nat.pos_of_mul_pos_right hm
  obtain ⟨g, cur, rfl, hb, hgg, hcs, ht⟩ := hg (by omega)
  obtain ⟨c', rfl⟩ : ∃ c', c = c' + 1 := ⟨c - 1, by omega⟩
  refine ⟨g, 0, rfl, rfl, fun i u hu => ?_⟩
  rw [Nat.zero_add, cell_of_row w g i cur e (0, 0) hgg]
  rw [← ht, List.getElem?_take] at hu
  split at hu
  · simpa using hu
  · cases hu
theorem NBX.nsO {α β : Type} {N : Nst α β} {w : World} {X : Nat → Prop} {u : Value} {R : List α} {B : Nat} {e : TypeId} (h : NBX N X B e w u R) : NS N w (fun b => X b ∨ ownB u = some b) u R := by
  obtain ⟨us, h1, h2, h3⟩ := h
  refine ⟨us, h1, ?_, fun i x v hx hv => N.mono (h3 i x v hx hv) (fun _ _ h => .inl h.1)⟩
  have h4 : Own w B e N.m u (R.zip us).length ((R.zip us).flatMap N.cells) := by rw [zipN_len h1]; exact h2
  obtain ⟨A, c, rfl, hr⟩ := h4.formO
  obtain ⟨A', c', e', l1, l2, l3, -⟩ := h4.sl
  injection e' with e1 e2 e3
  subst e1 e3
  exact ⟨A, c, rfl, l1, l2, hr.mono (fun b _ hb => .inr hb), l3⟩
section
variable {α β : Type} {P : Program} {ops : Array Oper} {rest : List Oper} {o : Oper} {a : Act} {w : World} {K : Act → World → Prop} {Q : Exit → Act → World → Prop} {E : Prop}
theorem wp_pushY (s x : Operand) (t : TypeId) (ho : o.op = .call { callee := .builtin .append, args := #[s, x], argTypes := #[t, t] })
    (N : Nst α β) (X : Nat → Prop) (B : Nat) (e : TypeId) (i : TypeInfo) (z : Value) (bytes : Nat) (ht : P.underlying t = some (.slice e)) (hi : P.info? e = some i) (hz : i.zero = some z) (hsize : i.size = N.m) (hby : i.bytes = bytes) (hzs : z.cells.size = N.m)
    (v : Value) (R : List α) (n : Nat) (hn : R.length = n) (hv : a.eval s = v) (hnb : NBX N X B e w v R) (g c : Nat) (y : α) (q : β) (hy : a.eval x = .slice (some ⟨g, 0, none⟩) 1 c) (hc : ∀ j u, (N.cells (y, q))[j]? = some u → w.cell? ⟨g, j, none⟩ = some u) (hx : N.inn w (fun b => X b ∧ ownB v ≠ some b) y q)
    (h63 : n + 1 ≤ maxLen) (hbytes : (n + 1) * bytes ≤ 140737488355328) (hB : B ≤ w.heap.size)
    (h : ∀ A c w', NBX N X B e w' (.slice A (n + 1) c) (R ++ [y]) → Keep (fun k => ownB v = some k) w w' → (∀ k, ownB (.slice A (n + 1) c) = some k → ownB v = some k ∨ w.heap.size ≤ k) → K (a.put o.dst (.slice A (n + 1) c)) w') : o.wp P a w K Q := by
  subst hn
  obtain ⟨us, h1, h2, h3⟩ := hnb
  have hsrc : Src P N.m t (.slice (some ⟨g, 0, none⟩) 1 c) 1 (N.cells (y, q)) w := Src.ofSlice _ ht _ 1 c _ (by rw [N.len, Nat.one_mul]) (fun j u hu => by
    have : (⟨g, 0, none⟩ : Addr).add j = ⟨g, j, none⟩ := by unfold Addr.add; split <;> simp_all
    rw [this]; exact hc j u hu) (N.one hx)
  refine wp_append_gen w s x t t ho B e i z N.m bytes ht hi hz hsize hby hzs v R.length _ hv h2 _ 1 _ hy hsrc h63 hbytes hB ?_
  intro v' w' ho' hk hn
  obtain ⟨A, c', rfl, _⟩ := ho'.form
  refine h A c' w' ?_ hk hn
  have hz : (R ++ [y]).zip (us ++ [q]) = R.zip us ++ [(y, q)] := by rw [List.zip_append h1.symm]; rfl
  have mv : ∀ (y : α) (q : β), N.inn w (fun b => X b ∧ ownB v ≠ some b) y q → N.inn w' (fun b => X b ∧ ownB (.slice A (R.length + 1) c') ≠ some b) y q := fun y q h =>
    N.mono (N.keep (N.mono (G := fun b => (X b ∧ ownB v ≠ some b) ∧ b < w.heap.size) h (fun b hb h => ⟨h, hb⟩)) hk (fun b _ h e => h.1.2 e)) (fun b _ h => ⟨h.1.1, fun e => by
      rcases hn b e with e | e
      · exact h.1.2 e
      · have := h.2; omega⟩)
  refine ⟨us ++ [q], by rw [List.length_append, List.length_append, h1]; rfl, ?_, fun i x p hx' hp => ?_⟩
  · rw [hz, List.flatMap_append, List.flatMap_cons, List.flatMap_nil, List.append_nil, List.length_append]
    exact ho'
  · rcases Nat.lt_or_ge i R.length with hi | hi
    · rw [List.getElem?_append_left hi] at hx'
      rw [List.getElem?_append_left (by omega)] at hp
      exact mv x p (h3 i x p hx' hp)
    · rw [List.getElem?_append_right hi] at hx'
      rw [List.getElem?_append_right (by omega), h1] at hp
      match hj : i - R.length, hx', hp with
      | 0, hx', hp =>
        obtain rfl : y = x := by simpa using hx'
        obtain rfl : q = p := by simpa using hp
        exact mv _ _ hx
theorem step_pushY (hgd : Region.wanted o (yielded ops a.tmps) = true) (s x : Operand) (t : TypeId) (ho : o.op = .call { callee := .builtin .append, args := #[s, x], argTypes := #[t, t] })
    (N : Nst α β) (X : Nat → Prop) (B : Nat) (e : TypeId) (i : TypeInfo) (z : Value) (bytes : Nat) (ht : P.underlying t = some (.slice e)) (hi : P.info? e = some i) (hz : i.zero = some z) (hsize : i.size = N.m) (hby : i.bytes = bytes) (hzs : z.cells.size = N.m)
    (v : Value) (R : List α) (n : Nat) (hn : R.length = n) (hv : a.eval s = v) (hnb : NBX N X B e w v R) (g c : Nat) (y : α) (q : β) (hy : a.eval x = .slice (some ⟨g, 0, none⟩) 1 c) (hc : ∀ j u, (N.cells (y, q))[j]? = some u → w.cell? ⟨g, j, none⟩ = some u) (hx : N.inn w (fun b => X b ∧ ownB v ≠ some b) y q)
    (h63 : n + 1 ≤ maxLen) (hbytes : (n + 1) * bytes ≤ 140737488355328) (hB : B ≤ w.heap.size)
    (h : ∀ A c w', NBX N X B e w' (.slice A (n + 1) c) (R ++ [y]) → Keep (fun k => ownB v = some k) w w' → (∀ k, ownB (.slice A (n + 1) c) = some k → ownB v = some k ∨ w.heap.size ≤ k) → K (a.put o.dst (.slice A (n + 1) c)) w') :
    if Region.wanted o (yielded ops a.tmps) = true then Oper.wp P o a w K Q else E := by
  rw [if_pos hgd]
  exact wp_pushY s x t ho N X B e i z bytes ht hi hz hsize hby hzs v R n hn hv hnb g c y q hy hc hx h63 hbytes hB h
end
theorem NBX.monoX {α β : Type} {N : Nst α β} {w : World} {X X' : Nat → Prop} {u : Value} {R : List α} {B : Nat} {e : TypeId} (h : NBX N X B e w u R) (hx : ∀ b, X b → X' b) : NBX N X' B e w u R := by
  obtain ⟨us, h1, h2, h3⟩ := h
  exact ⟨us, h1, h2, fun i x v e1 e2 => N.mono (h3 i x v e1 e2) (fun b _ h => ⟨hx b h.1, h.2⟩)⟩
theorem NBX.lenS {α β : Type} {N : Nst α β} {w : World} {X : Nat → Prop} {A : Option Addr} {n c : Nat} {R : List α} {B : Nat} {e : TypeId} (h : NBX N X B e w (.slice A n c) R) : R.length = n := by
  obtain ⟨_, _, e⟩ := h.form
  injection e with _ e2 _
  exact e2.symm
theorem litP (W : World) (k : Int) (d : List UInt8) (q : Value) (e : TypeId) : ∀ j u, (parN.cells (⟨k, d⟩, q))[j]? = some u → (W.alloc (.cells #[.int .i64 k, q] e (0, 0))).cell? ⟨W.heap.size, j, none⟩ = some u := lit_cells W e [.int .i64 k, q]
theorem litPd (W : World) (k : Int) (d : List UInt8) (q : Value) (e : TypeId) : ∀ j u, (parN.cells (⟨k, d⟩, q))[j]? = some u → (W.alloc (.cells #[.int .i64 k, q] e (0, 0))).drew.cell? ⟨W.heap.size, j, none⟩ = some u := lit_cells W e [.int .i64 k, q]
theorem litPe (W : World) (k : Int) (d : List UInt8) (q : Value) (e : TypeId) : ∀ j u, (parN.cells (⟨k, d⟩, q))[j]? = some u → (W.drew.alloc (.cells #[.int .i64 k, q] e (0, 0))).cell? ⟨W.heap.size, j, none⟩ = some u := lit_cells W.drew e [.int .i64 k, q]
theorem CoM.gpCell {w : World} {c : Cf} {xp q : Nat} {B : CoB} {a : Co} (h : CoM w c xp B q a) : w.cell? ⟨xp, 6, none⟩ = some (.pointer (some ⟨B.gp, 0, none⟩)) := (cells_of_row' h.box).1 6 _ rfl
section
variable {w : World} {c : Cf} {xp q : Nat} {B : CoB} {a : Co}
/-- A core whose graph has a set more. -/
def sgC (a : Co) (x : Nat) : Co := ⟨a.na, nodeS a.sigs x, a.tabs, a.spots⟩
theorem nodeS_getD {S : List Nat} {x j : Nat} (h : j < S.length) : (nodeS S x).getD j 0 = S.getD j 0 := by
  unfold nodeS
  split
  · rfl
  · rw [List.getD_eq_getElem?_getD, List.getElem?_append_left h, List.getD_eq_getElem?_getD]
/-- The graph has turned, the code's way. -/
theorem CoM.graphWith (h : CoM w c xp B q a) {x : Nat} {w' : World} (ht : GrTo w B.gp B.GF (q + 1) (nodeS a.sigs x) w') (hq : q + 1 ≤ 1000000) (hs : a.sigs.length + 1 ≤ 1000000) : ∃ B', CoAt w c xp (CoF xp B a) (q + 1) (sgC a x) w' B' ∧ B'.tp = B.tp ∧ B'.gp = B.gp :=
  h.graphTo_ ht (fun j hj => nodeS_getD (Nat.lt_of_lt_of_le hj h.few)) (nodeS_len _ _).1 hq (by have := (nodeS_len a.sigs x).2; omega)
theorem entP_len (a : Co) (i : Nat) : (entP a i).length ≤ 64 := by
  unfold entP rowT
  rw [List.length_map]
  exact bl_len _ 64
theorem nf_set {w X w5 : World} {B5 : CoB} {q : Nat} {a2 : Co} {F Foot : Nat → Prop} {lo hi : Nat} {v v' : Value} (h5 : CoAt X c xp Foot q a2 w5 B5) (hF : ∀ b, F b → ¬ Foot b) (hw : w.heap.size ≤ X.heap.size) (hlo : X.heap.size ≤ lo) (l6 : ∀ k, CoF xp B5 a2 k → k < lo ∨ hi ≤ k) (own : ∀ b, ownB v = some b → lo ≤ b ∧ b < hi) (fresh : ∀ b, ownB v' = some b → ownB v = some b ∨ w5.heap.size ≤ b) :
    ∀ b, ((lo ≤ b ∧ b < hi) ∨ (F b ∧ b < w.heap.size)) ∨ ownB v' = some b → ¬ CoF xp B5 a2 b := by
  rintro b ((hb | hb) | hb) e
  · have := l6 b e; omega
  · rcases h5.2.2 b e with h | h
    · exact hF b hb.1 h
    · omega
  · rcases fresh b hb with h | h
    · have := own b h; have := l6 b e; omega
    · have := h5.1.lt b e; omega
end
end Go.Proofs.YtdeifjnhbdkkgaaGreatDoor

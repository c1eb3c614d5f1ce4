/- Slices of fates and of fuses in memory; contracts of slices.Clone and slices.Equal at both. Printed by genscr1.py. -/
import Derived.Test.YtdeifjnhbdkkgaaGreatDoorProg
import Derived.Test.YtdeifjnhbdkkgaaGreatDoorLePl
import Derived.Test.YtdeifjnhbdkkgaaGreatDoorArgs
import Derived.Test.YtdeifjnhbdkkgaaGreatDoorMem
import Derived.Test.YtdeifjnhbdkkgaaGreatDoorLe1
import Derived.Laws.StructEq
import Derived.BigQuiet
import Derived.Deep.QuietTactic
namespace Go.Proofs.YtdeifjnhbdkkgaaGreatDoor
open Go.RowKit
set_option maxRecDepth 100000
set_option linter.unusedVariables false
set_option linter.unusedSimpArgs false

def fcells (x : Fa) : List Value := [.int .i64 x.kept, .int .i64 x.torn]
theorem fcells_len (x : Fa) : (fcells x).length = 2 := rfl
def icells (z : Int) : List Value := [.int .i64 z]
theorem icells_len (z : Int) : (icells z).length = 1 := rfl
theorem icells_iv (l : List Int) : l.flatMap icells = iv l := by
  induction l with
  | nil => rfl
  | cons z l ih => rw [List.flatMap_cons, ih]; rfl
/-- u holds l, m cells an element, in blocks of F. -/
def ML {α : Type} (f : α → List Value) (m : Nat) (w : World) (F : Nat → Prop) (u : Value) (l : List α) : Prop :=
  ∃ A c, u = .slice A l.length c ∧ l.length ≤ c ∧ c ≤ maxLen ∧ Rd w F A (l.length * m) (l.flatMap f) ∧ (A = none → c = 0)
section
variable {α : Type} {f : α → List Value} {m : Nat} {w w' : World} {F G S : Nat → Prop} {u : Value} {l : List α}
theorem ML.keep (h : ML f m w F u l) (hk : Keep S w w') (hs : ∀ b, b < w.heap.size → F b → ¬ S b) : ML f m w' F u l := by
  obtain ⟨A, c, h1, h2, h3, h4, h5⟩ := h
  exact ⟨A, c, h1, h2, h3, h4.keep hk hs, h5⟩
theorem ML.same (h : ML f m w F u l) (hk : Keep (fun _ => False) w w') : ML f m w' F u l := h.keep hk (fun _ _ _ h => h)
theorem ML.mono (h : ML f m w F u l) (hf : ∀ b, b < w.heap.size → F b → G b) : ML f m w G u l := by
  obtain ⟨A, c, h1, h2, h3, h4, h5⟩ := h
  exact ⟨A, c, h1, h2, h3, h4.mono hf, h5⟩
theorem ML.nil (f : α → List Value) (m : Nat) (w : World) (F : Nat → Prop) : ML f m w F (.slice none 0 0) [] := ⟨none, 0, rfl, Nat.le_refl _, Nat.zero_le _, by rw [List.length_nil, Nat.zero_mul]; exact Rd.nil _ _ _, fun _ => rfl⟩
theorem ML.form (h : ML f m w F u l) : ∃ A c, u = .slice A l.length c := by
  obtain ⟨A, c, h1, _⟩ := h
  exact ⟨A, c, h1⟩
theorem ML.at_ (hf : ∀ x, (f x).length = m) (hm : 0 < m) {A : Option Addr} {n c : Nat} (h : ML f m w F (.slice A n c) l) {k : Nat} (hk : k < n) :
    ∃ b off x, A = some ⟨b, off, none⟩ ∧ F b ∧ l[k]? = some x ∧ ∀ j u, (f x)[j]? = some u → w.cell? ⟨b, off + k * m + j, none⟩ = some u := by
  obtain ⟨A', c', e, h2, h3, h4, h5⟩ := h
  injection e with e1 e2 e3
  subst e1 e2
  exact flat_cells hf h4 rfl hm hk
theorem Own.ml {B n : Nat} {e : TypeId} (hm : 0 < m) (hf : ∀ x, (f x).length = m) (h : Own w B e m u l.length (l.flatMap f)) : ML f m w (fun k => B ≤ k) u l := by
  obtain ⟨A, c, h1, h2, h3, h4, h5⟩ := h.sl
  exact ⟨A, c, h1, h2, h3, h5, h4⟩
end
theorem info_intS : (Tryz.prog.info? 3).map (fun i => (i.zero, i.size, i.bytes)) = some (some (.int .i64 0), 1, 8) := by kernel_rfl

theorem clone_i (l : List Int) (v : Value) (F : Nat → Prop) (w : World) (hv : ML icells 1 w F v l) (hn : l.length ≤ 1000000) :
    Calls Tryz.prog 57 #[v] w fun e w' => ∃ A c, e = .returned (.slice A l.length c) ∧ ML icells 1 w' (fun b => w.heap.size ≤ b) (.slice A l.length c) l ∧ Below w.heap.size w w' := by
  obtain ⟨i0, hi0, hz0, hz1, hz2⟩ := info_parts info_intS
  have HN := Lib.hid hn
  clear hn
  obtain ⟨A, c, rfl, h1, h2, h4, h3⟩ := hv
  have h1v : ∀ u ∈ l.flatMap icells, u.oneCell' = true := fun u hu => by
    obtain ⟨x, _, hx⟩ := List.mem_flatMap.1 hu
    unfold icells at hx
    simp at hx
    first | (rcases hx with rfl | rfl <;> rfl) | (subst hx; rfl)
  rcases A with _ | a
  · have h0 : l.length = 0 := by have := h3 rfl; omega
    have hl : l = [] := List.eq_nil_of_length_eq_zero h0
    subst hl
    clear h1 h2 h3 h4 h0
    have hq := fun (w : World) => Lib.run_eql_slice_nil (P := Tryz.prog) w 50 3 none 0 c 0 0 Tryz.underlying50
    go_enter Tryz.func57, Tryz.ntmps57
    go_wp2
    go_ret
    exact ⟨_, _, rfl, ML.nil _ _ _ _, Below.refl _ _⟩
  · have hq := fun (w : World) => Lib.run_eql_slice_nil (P := Tryz.prog) w 50 3 (some a) l.length c 0 0 Tryz.underlying50
    have hs := (h4.alloc (.cells #[] 3)).src (c := c) (P := Tryz.prog) Tryz.underlying50 h1v (by omega)
    have HS := Lib.hid hs
    clear hs h4 h1v
    obtain ⟨n, hn⟩ : ∃ n, n = l.length := ⟨_, rfl⟩
    have NL := Lib.hid hn
    rw [← hn] at hq h1 HS HN
    rw [← hn]
    clear hn
    generalize hxs : l.flatMap icells = xs at *
    have XS := Lib.hid hxs
    clear hxs
    go_enter Tryz.func57, Tryz.ntmps57
    go_wp2_with (at_builtin; refine wpList_append_gen _ rfl _ _ _ _ rfl w.heap.size 3 i0 _ 1 8 Tryz.underlying50 hi0 hz0 hz1 hz2 rfl _ _ _ rfl (Own.none_ _ _ _ _ _) _ n xs rfl HS.out ?c1 ?c2 ?c3 ?_)
    case c1 => have := HN.out; unfold maxLen; omega
    case c2 => have := HN.out; omega
    case c3 => simp
    intro v' w1 hown' hk1 _
    have hb1 := append_below (Below.refl _ w) (Own.none_ w w.heap.size 3 1 _) hk1
    clear hk1
    rw [NL.out, ← XS.out] at hown'
    have hml := Own.ml (n := 0) (by decide) icells_len hown'
    obtain ⟨A', c', hv'⟩ := hml.form
    subst hv'
    rw [← NL.out] at hml
    go_wp2
    go_ret
    exact ⟨A', c', by first | rfl | (rw [NL.out]; rfl), hml, hb1⟩

end Go.Proofs.YtdeifjnhbdkkgaaGreatDoor
namespace Go.Proofs.YtdeifjnhbdkkgaaGreatDoor
open Go.RowKit
set_option maxRecDepth 100000
set_option linter.unusedVariables false

/-- A struct: its cells; what is said of the memory that it leads to. -/
structure Nst (α β : Type) where
  cells : α × β → List Value
  m : Nat
  pos : 0 < m
  len : ∀ p, (cells p).length = m
  inn : World → (Nat → Prop) → α → β → Prop
  one : ∀ {F : Nat → Prop} {w : World} {x : α} {v : β}, inn w F x v → ∀ u ∈ cells (x, v), u.oneCell' = true
  keep : ∀ {S F : Nat → Prop} {w w' : World} {x : α} {v : β}, inn w F x v → Keep S w w' → (∀ b, b < w.heap.size → F b → ¬ S b) → inn w' F x v
  mono : ∀ {F G : Nat → Prop} {w : World} {x : α} {v : β}, inn w F x v → (∀ b, b < w.heap.size → F b → G b) → inn w G x v
section
variable {α β : Type} {N : Nst α β} {w w' W : World} {F G S : Nat → Prop} {u u' : Value} {l R : List α} {B : Nat} {e : TypeId}
theorem Nst.same (N : Nst α β) {x : α} {v : β} (h : N.inn w F x v) (hk : Keep (fun _ => False) w w') : N.inn w' F x v := N.keep h hk (fun _ _ _ h => h)
/-- u holds l, all in blocks of F. -/
def NS (N : Nst α β) (w : World) (F : Nat → Prop) (u : Value) (l : List α) : Prop :=
  ∃ us : List β, us.length = l.length ∧ ML N.cells N.m w F u (l.zip us) ∧ ∀ (i : Nat) x v, l[i]? = some x → us[i]? = some v → N.inn w F x v
theorem NS.keep (h : NS N w F u l) (hk : Keep S w w') (hs : ∀ b, b < w.heap.size → F b → ¬ S b) : NS N w' F u l := by
  obtain ⟨us, h1, h2, h3⟩ := h
  exact ⟨us, h1, h2.keep hk hs, fun i x v hx hv => N.keep (h3 i x v hx hv) hk hs⟩
theorem NS.same (h : NS N w F u l) (hk : Keep (fun _ => False) w w') : NS N w' F u l := h.keep hk (fun _ _ _ h => h)
theorem NS.mono (h : NS N w F u l) (hf : ∀ b, b < w.heap.size → F b → G b) : NS N w G u l := by
  obtain ⟨us, h1, h2, h3⟩ := h
  exact ⟨us, h1, h2.mono hf, fun i x v hx hv => N.mono (h3 i x v hx hv) hf⟩
theorem NS.nil (N : Nst α β) (w : World) (F : Nat → Prop) : NS N w F (.slice none 0 0) [] := ⟨[], rfl, ML.nil _ _ _ _, fun i x v hx => by simp at hx⟩
theorem NS.form (h : NS N w F u l) : ∃ A c, u = .slice A l.length c ∧ c ≤ maxLen ∧ l.length ≤ c := by
  obtain ⟨us, h1, ⟨A, c, e, h3, h4, h5⟩, _⟩ := h
  rw [List.length_zip, h1, Nat.min_self] at e h3
  exact ⟨A, c, e, h4, h3⟩
theorem NS.len (h : NS N w F u l) : l.length ≤ 9223372036854775807 := by
  obtain ⟨A, c, _, h1, h2⟩ := h.form
  unfold maxLen at h1
  omega
theorem NS.at_ {A : Option Addr} {n c : Nat} (h : NS N w F (.slice A n c) l) {k : Nat} (hk : k < n) :
    ∃ b off x v, A = some ⟨b, off, none⟩ ∧ F b ∧ l[k]? = some x ∧ N.inn w F x v ∧ ∀ j q, (N.cells (x, v))[j]? = some q → w.cell? ⟨b, off + k * N.m + j, none⟩ = some q := by
  obtain ⟨us, h1, h2, h3⟩ := h
  obtain ⟨b, off, ⟨x, v⟩, e, hF, hx, hc⟩ := ML.at_ N.len N.pos h2 hk
  have hk2 := (List.getElem?_zip_eq_some.1 hx)
  exact ⟨b, off, x, v, e, hF, hk2.1, h3 k x v hk2.1 hk2.2, hc⟩
/-- u holds R, in memory of its own from block B on. -/
def NB (N : Nst α β) (B : Nat) (e : TypeId) (w : World) (u : Value) (R : List α) : Prop :=
  ∃ us : List β, us.length = R.length ∧ Own w B e N.m u R.length ((R.zip us).flatMap N.cells) ∧ ∀ (i : Nat) x v, R[i]? = some x → us[i]? = some v → N.inn w (fun b => ownB u ≠ some b) x v
theorem NB.nil (N : Nst α β) (B : Nat) (e : TypeId) (w : World) : NB N B e w (.slice none 0 0) [] := ⟨[], rfl, Own.none_ _ _ _ _ _, fun i x v h => by simp at h⟩
theorem NB.keep (h : NB N B e w u R) (hk : Keep S w w') (hs : ∀ k, ownB u = some k → ¬ S k) (hi : ∀ b, b < w.heap.size → ownB u ≠ some b → ¬ S b) : NB N B e w' u R := by
  obtain ⟨us, h1, h2, h3⟩ := h
  exact ⟨us, h1, h2.keep hk hs, fun i x v hx hv => N.keep (h3 i x v hx hv) hk hi⟩
theorem NB.same (h : NB N B e w u R) (hk : Keep (fun _ => False) w w') : NB N B e w' u R := h.keep hk (fun _ _ h => h) (fun _ _ _ h => h)
theorem NB.form (h : NB N B e w u R) : ∃ A c, u = .slice A R.length c := by
  obtain ⟨us, _, h1, _⟩ := h
  obtain ⟨A, c, e, _⟩ := h1.form
  exact ⟨A, c, e⟩
theorem NB.own_lt (h : NB N B e w u R) {k : Nat} (hk : ownB u = some k) : B ≤ k ∧ k < w.heap.size := by
  obtain ⟨us, _, h1, _⟩ := h
  exact h1.ownB k hk
theorem zipN_len {us : List β} (h : us.length = R.length) : (R.zip us).length = R.length := by rw [List.length_zip, h, Nat.min_self]
theorem NB.ns (h : NB N B e w u R) : NS N w (fun _ => True) u R := by
  obtain ⟨us, h1, h2, h3⟩ := h
  refine ⟨us, h1, ?_, fun i x v hx hv => N.mono (h3 i x v hx hv) (fun _ _ _ => trivial)⟩
  have h4 : Own w B e N.m u (R.zip us).length ((R.zip us).flatMap N.cells) := by rw [zipN_len h1]; exact h2
  exact (Own.ml (n := 0) N.pos N.len h4).mono (fun _ _ _ => trivial)
/-- Behind an append of one. -/
theorem NB.push {us : List β} {x : α} {v : β} (h1 : us.length = R.length) (h2 : Own w B e N.m u R.length ((R.zip us).flatMap N.cells)) (h3 : ∀ (i : Nat) x v, R[i]? = some x → us[i]? = some v → N.inn w (fun b => ownB u ≠ some b) x v)
    (hx : N.inn w (fun b => ownB u ≠ some b) x v)
    (ho : Own w' B e N.m u' (R.length + 1) ((R.zip us).flatMap N.cells ++ N.cells (x, v))) (hk : Keep (fun k => ownB u = some k) w w') (hn : ∀ k, ownB u' = some k → ownB u = some k ∨ w.heap.size ≤ k) : NB N B e w' u' (R ++ [x]) := by
  have hz : (R ++ [x]).zip (us ++ [v]) = R.zip us ++ [(x, v)] := by rw [List.zip_append h1.symm]; rfl
  have mv : ∀ (y : α) (q : β), N.inn w (fun b => ownB u ≠ some b) y q → N.inn w' (fun b => ownB u' ≠ some b) y q := fun y q h =>
    N.mono (N.keep (N.mono (G := fun b => ownB u ≠ some b ∧ b < w.heap.size) h (fun b hb h => ⟨h, hb⟩)) hk (fun b _ h e => h.1 e)) (fun b _ h e => by
      rcases hn b e with e | e
      · exact h.1 e
      · have := h.2; omega)
  refine ⟨us ++ [v], by rw [List.length_append, List.length_append, h1]; rfl, ?_, fun i y q hy hq => ?_⟩
  · rw [hz, List.flatMap_append, List.flatMap_cons, List.flatMap_nil, List.append_nil, List.length_append]
    exact ho
  · rcases Nat.lt_or_ge i R.length with hi | hi
    · rw [List.getElem?_append_left hi] at hy
      rw [List.getElem?_append_left (by omega)] at hq
      exact mv y q (h3 i y q hy hq)
    · rw [List.getElem?_append_right hi] at hy
      rw [List.getElem?_append_right (by omega), h1] at hq
      match hj : i - R.length, hy, hq with
      | 0, hy, hq =>
        obtain rfl : x = y := by simpa using hy
        obtain rfl : v = q := by simpa using hq
        exact mv _ _ hx
end
section
variable {α β : Type} {P : Program} {ops : Array Oper} {rest : List Oper} {o : Oper} {a : Act} {w : World} {K : Act → World → Prop} {Q : Exit → Act → World → Prop} {E : Prop}
/-- append(l, x) of one that a literal holds. -/
theorem step_push (hgd : Region.wanted o (yielded ops a.tmps) = true) (s x : Operand) (t : TypeId) (ho : o.op = .call { callee := .builtin .append, args := #[s, x], argTypes := #[t, t] })
    (N : Nst α β) (B : Nat) (e : TypeId) (i : TypeInfo) (z : Value) (bytes : Nat) (ht : P.underlying t = some (.slice e)) (hi : P.info? e = some i) (hz : i.zero = some z) (hsize : i.size = N.m) (hby : i.bytes = bytes) (hzs : z.cells.size = N.m)
    (v : Value) (R : List α) (n : Nat) (hn : R.length = n) (hv : a.eval s = v) (hnb : NB N B e w v R) (g c : Nat) (y : α) (q : β) (hy : a.eval x = .slice (some ⟨g, 0, none⟩) 1 c) (hc : ∀ j u, (N.cells (y, q))[j]? = some u → w.cell? ⟨g, j, none⟩ = some u) (hx : N.inn w (fun b => ownB v ≠ some b) y q)
    (h63 : n + 1 ≤ maxLen) (hbytes : (n + 1) * bytes ≤ 140737488355328) (hB : B ≤ w.heap.size)
    (h : ∀ A c w', NB N B e w' (.slice A (n + 1) c) (R ++ [y]) → Keep (fun k => ownB v = some k) w w' → K (a.put o.dst (.slice A (n + 1) c)) w') :
    if Region.wanted o (yielded ops a.tmps) = true then Oper.wp P o a w K Q else E := by
  subst hn
  obtain ⟨us, h1, h2, h3⟩ := hnb
  have hsrc : Src P N.m t (.slice (some ⟨g, 0, none⟩) 1 c) 1 (N.cells (y, q)) w := Src.ofSlice _ ht _ 1 c _ (by rw [N.len, Nat.one_mul]) (fun j u hu => by
    have : (⟨g, 0, none⟩ : Addr).add j = ⟨g, j, none⟩ := by unfold Addr.add; split <;> simp_all
    rw [this]; exact hc j u hu) (N.one hx)
  refine step_append_gen w hgd s x t t ho B e i z N.m bytes ht hi hz hsize hby hzs v R.length _ hv h2 _ 1 _ hy hsrc h63 hbytes hB ?_
  intro v' w' ho' hk hn
  have hp := NB.push h1 h2 h3 hx ho' hk hn
  obtain ⟨A, c', rfl⟩ := hp.form
  rw [List.length_append, List.length_singleton] at hp ⊢
  exact h A c' w' hp hk
theorem wpList_push (hgd : Region.wanted o (yielded ops a.tmps) = true) (s x : Operand) (t : TypeId) (ho : o.op = .call { callee := .builtin .append, args := #[s, x], argTypes := #[t, t] })
    (N : Nst α β) (B : Nat) (e : TypeId) (i : TypeInfo) (z : Value) (bytes : Nat) (ht : P.underlying t = some (.slice e)) (hi : P.info? e = some i) (hz : i.zero = some z) (hsize : i.size = N.m) (hby : i.bytes = bytes) (hzs : z.cells.size = N.m)
    (v : Value) (R : List α) (n : Nat) (hn : R.length = n) (hv : a.eval s = v) (hnb : NB N B e w v R) (g c : Nat) (y : α) (q : β) (hy : a.eval x = .slice (some ⟨g, 0, none⟩) 1 c) (hc : ∀ j u, (N.cells (y, q))[j]? = some u → w.cell? ⟨g, j, none⟩ = some u) (hx : N.inn w (fun b => ownB v ≠ some b) y q)
    (h63 : n + 1 ≤ maxLen) (hbytes : (n + 1) * bytes ≤ 140737488355328) (hB : B ≤ w.heap.size)
    (h : ∀ A c w', NB N B e w' (.slice A (n + 1) c) (R ++ [y]) → Keep (fun k => ownB v = some k) w w' → wpList P ops Q rest (a.put o.dst (.slice A (n + 1) c)) w') : wpList P ops Q (o :: rest) a w :=
  wpList_step fun _ hK => step_push hgd s x t ho N B e i z bytes ht hi hz hsize hby hzs v R n hn hv hnb g c y q hy hc hx h63 hbytes hB fun A c w' h1 h2 => hK _ _ (h A c w' h1 h2)
end
/-- The same, all that it leads to in blocks of X. -/
def NBX {α β : Type} (N : Nst α β) (X : Nat → Prop) (B : Nat) (e : TypeId) (w : World) (u : Value) (R : List α) : Prop :=
  ∃ us : List β, us.length = R.length ∧ Own w B e N.m u R.length ((R.zip us).flatMap N.cells) ∧ ∀ (i : Nat) x v, R[i]? = some x → us[i]? = some v → N.inn w (fun b => X b ∧ ownB u ≠ some b) x v
section
variable {α β : Type} {N : Nst α β} {w w' : World} {X S : Nat → Prop} {u u' : Value} {R : List α} {B : Nat} {e : TypeId}
theorem NBX.nil (N : Nst α β) (X : Nat → Prop) (B : Nat) (e : TypeId) (w : World) : NBX N X B e w (.slice none 0 0) [] := ⟨[], rfl, Own.none_ _ _ _ _ _, fun i x v h => by simp at h⟩
theorem NBX.keep (h : NBX N X B e w u R) (hk : Keep S w w') (hs : ∀ k, ownB u = some k → ¬ S k) (hi : ∀ b, b < w.heap.size → X b → ownB u ≠ some b → ¬ S b) : NBX N X B e w' u R := by
  obtain ⟨us, h1, h2, h3⟩ := h
  exact ⟨us, h1, h2.keep hk hs, fun i x v hx hv => N.keep (h3 i x v hx hv) hk (fun b hb h => hi b hb h.1 h.2)⟩
theorem NBX.nb (h : NBX N X B e w u R) : NB N B e w u R := by
  obtain ⟨us, h1, h2, h3⟩ := h
  exact ⟨us, h1, h2, fun i x v hx hv => N.mono (h3 i x v hx hv) (fun b _ h => h.2)⟩
theorem NBX.form (h : NBX N X B e w u R) : ∃ A c, u = .slice A R.length c := h.nb.form
theorem NBX.own_lt (h : NBX N X B e w u R) {k : Nat} (hk : ownB u = some k) : B ≤ k ∧ k < w.heap.size := h.nb.own_lt hk
end
section
variable {α β : Type} {P : Program} {ops : Array Oper} {rest : List Oper} {o : Oper} {a : Act} {w : World} {K : Act → World → Prop} {Q : Exit → Act → World → Prop} {E : Prop}
theorem wp_pushX (s x : Operand) (t : TypeId) (ho : o.op = .call { callee := .builtin .append, args := #[s, x], argTypes := #[t, t] })
    (N : Nst α β) (X : Nat → Prop) (B : Nat) (e : TypeId) (i : TypeInfo) (z : Value) (bytes : Nat) (ht : P.underlying t = some (.slice e)) (hi : P.info? e = some i) (hz : i.zero = some z) (hsize : i.size = N.m) (hby : i.bytes = bytes) (hzs : z.cells.size = N.m)
    (v : Value) (R : List α) (n : Nat) (hn : R.length = n) (hv : a.eval s = v) (hnb : NBX N X B e w v R) (g c : Nat) (y : α) (q : β) (hy : a.eval x = .slice (some ⟨g, 0, none⟩) 1 c) (hc : ∀ j u, (N.cells (y, q))[j]? = some u → w.cell? ⟨g, j, none⟩ = some u) (hx : N.inn w (fun b => X b ∧ ownB v ≠ some b) y q)
    (h63 : n + 1 ≤ maxLen) (hbytes : (n + 1) * bytes ≤ 140737488355328) (hB : B ≤ w.heap.size)
    (h : ∀ A c w', NBX N X B e w' (.slice A (n + 1) c) (R ++ [y]) → Keep (fun k => ownB v = some k) w w' → K (a.put o.dst (.slice A (n + 1) c)) w') : o.wp P a w K Q := by
  subst hn
  obtain ⟨us, h1, h2, h3⟩ := hnb
  have hsrc : Src P N.m t (.slice (some ⟨g, 0, none⟩) 1 c) 1 (N.cells (y, q)) w := Src.ofSlice _ ht _ 1 c _ (by rw [N.len, Nat.one_mul]) (fun j u hu => by
    have : (⟨g, 0, none⟩ : Addr).add j = ⟨g, j, none⟩ := by unfold Addr.add; split <;> simp_all
    rw [this]; exact hc j u hu) (N.one hx)
  refine wp_append_gen w s x t t ho B e i z N.m bytes ht hi hz hsize hby hzs v R.length _ hv h2 _ 1 _ hy hsrc h63 hbytes hB ?_
  intro v' w' ho' hk hn
  obtain ⟨A, c', rfl, _⟩ := ho'.form
  refine h A c' w' ?_ hk
  have hz : (R ++ [y]).zip (us ++ [q]) = R.zip us ++ [(y, q)] := by rw [List.zip_append h1.symm]; rfl
  have mv : ∀ (y : α) (q : β), N.inn w (fun b => X b ∧ ownB v ≠ some b) y q → N.inn w' (fun b => X b ∧ ownB (.slice A (R.length + 1) c') ≠ some b) y q := fun y q h =>
    N.mono (N.keep (N.mono (G := fun b => (X b ∧ ownB v ≠ some b) ∧ b < w.heap.size) h (fun b hb h => ⟨h, hb⟩)) hk (fun b _ h e => h.1.2 e)) (fun b _ h => ⟨h.1.1, fun e => by
      rcases hn b e with e | e
      · exact h.1.2 e
      · have := h.2; omega⟩)
  refine ⟨us ++ [q], by rw [List.length_append, List.length_append, h1]; rfl, ?_, fun i x p hx' hp => ?_⟩
  · rw [hz, List.flatMap_append, List.flatMap_cons, List.flatMap_nil, List.append_nil, List.length_append]
    exact ho'
  · rcases Nat.lt_or_ge i R.length with hi | hi
    · rw [List.getElem?_append_left hi] at hx'
      rw [List.getElem?_append_left (by omega)] at hp
      exact mv x p (h3 i x p hx' hp)
    · rw [List.getElem?_append_right hi] at hx'
      rw [List.getElem?_append_right (by omega), h1] at hp
      match hj : i - R.length, hx', hp with
      | 0, hx', hp =>
        obtain rfl : y = x := by simpa using hx'
        obtain rfl : q = p := by simpa using hp
        exact mv _ _ hx
end
/-- A row just laid, cell by cell. -/
theorem lit_cells (w : World) (e : TypeId) (cs : List Value) : ∀ j u, cs[j]? = some u → (w.alloc (.cells cs.toArray e)).cell? ⟨w.heap.size, j, none⟩ = some u := fun j u hu => by
  rw [cell_of_row _ w.heap.size j cs.toArray e (0, 0) (heap_alloc_new w _)]
  simpa using hu
end Go.Proofs.YtdeifjnhbdkkgaaGreatDoor

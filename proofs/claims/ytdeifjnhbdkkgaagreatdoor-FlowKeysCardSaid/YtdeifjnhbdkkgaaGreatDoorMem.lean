/- Memory words: what a call may change (Keep), a slice that reads as a list (Rd), a slice of the call's own (Own), append onto it from whatever source. No program in sight. -/
import Derived.Below
import Derived.Laws.OwnMore
import Derived.Deep.AppendSrc
import Derived.Deep.Draws
import Derived.OwnWalk
import Derived.Laws.CopyOwn
import Derived.WalkKit
import Derived.Outline
import Derived.Lib.Hide
import Derived.WalkLawsBesides
import Derived.WalkSpells
import Derived.Deep.QuietTactic
import Derived.BigQuiet
import Derived.RangeFuncNested
import Derived.RangeFuncBound
import Derived.RangeFuncCalls
import Derived.RangeFuncLeaves
import Derived.Shelf.Abstract
import Derived.Shelf.RegionOpen
import Derived.OwnWalkIn
import Derived.TacticsInMore
import Derived.OrdersIn
import Derived.OrdersHeld
import Derived.LoopNIn
import Derived.LoopIn
namespace Go.Proofs.YtdeifjnhbdkkgaaGreatDoor
open Go.RowKit
set_option maxRecDepth 100000

/-- From w to w' no old block has changed but those of S. -/
structure Keep (S : Nat → Prop) (w w' : World) : Prop where
  os : w'.os = w.os
  tape : w'.tape = w.tape
  output : w'.output = w.output
  size : w.heap.size ≤ w'.heap.size
  block : ∀ k, k < w.heap.size → ¬ S k → w'.heap[k]? = w.heap[k]?

section
variable {S T : Nat → Prop} {w w1 w2 w' : World}
theorem Keep.refl (S : Nat → Prop) (w : World) : Keep S w w := ⟨rfl, rfl, rfl, Nat.le_refl _, fun _ _ _ => rfl⟩
theorem Keep.trans (h : Keep S w w1) (k : Keep T w1 w2) (ht : ∀ x, x < w.heap.size → T x → S x) : Keep S w w2 :=
  ⟨k.os.trans h.os, k.tape.trans h.tape, k.output.trans h.output, Nat.le_trans h.size k.size,
    fun x hx hn => (k.block x (Nat.lt_of_lt_of_le hx h.size) (fun hT => hn (ht x hx hT))).trans (h.block x hx hn)⟩
theorem Keep.mono (h : Keep S w w1) (hs : ∀ x, x < w.heap.size → S x → T x) : Keep T w w1 :=
  ⟨h.os, h.tape, h.output, h.size, fun x hx hn => h.block x hx fun hS => hn (hs x hx hS)⟩
theorem Keep.drew (h : Keep S w w1) : Keep S w w1.drew := ⟨h.os, h.tape, h.output, h.size, h.block⟩
theorem Keep.drewN (h : Keep S w w1) (n : Nat) : Keep S w (w1.drewN n) := ⟨h.os, h.tape, h.output, h.size, h.block⟩
theorem Keep.alloc (h : Keep S w w1) (o : Obj) : Keep S w (w1.alloc o) :=
  ⟨h.os, h.tape, h.output, Nat.le_trans h.size (by simp), fun x hx hn => (Below.heap_alloc w1 o x (Nat.lt_of_lt_of_le hx h.size)).trans (h.block x hx hn)⟩
theorem Keep.setCell (h : Keep S w w1) {p : Addr} (hp : w.heap.size ≤ p.block ∨ S p.block) (u : Value) : Keep S w (w1.setCell p u) :=
  ⟨h.os, h.tape, h.output, by simpa using h.size, fun x hx hn => (Below.heap_setCell w1 p u x (by
    rintro rfl
    rcases hp with hp | hp
    · omega
    · exact hn hp)).trans (h.block x hx hn)⟩
theorem Keep.setRow (h : Keep S w w1) {g : Nat} (hg : w.heap.size ≤ g ∨ S g) (cs : Array Value) : Keep S w (w1.setRow g cs) :=
  ⟨h.os, h.tape, h.output, by simpa using h.size, fun x hx hn => by
    have hne : g ≠ x := by
      rintro rfl
      rcases hg with hg | hg
      · omega
      · exact hn hg
    have : (w1.setRow g cs).heap[x]? = w1.heap[x]? := by simp [World.setRow, Array.getElem?_modify, hne]
    exact this.trans (h.block x hx hn)⟩
theorem below_drewN {B : Nat} {a w : World} (h : Below B a w) (n : Nat) : Below B a (w.drewN n) := ⟨h.os, h.tape, h.output, h.size, h.block⟩
theorem Keep.of_below {B : Nat} (h : Below B w w1) : Keep (fun k => B ≤ k) w w1 := ⟨h.os, h.tape, h.output, h.size, fun x _ hn => h.block x (by omega)⟩
theorem Keep.of_below' (h : Below w.heap.size w w1) : Keep (fun _ => False) w w1 := ⟨h.os, h.tape, h.output, h.size, fun x hx _ => h.block x hx⟩
theorem Keep.below {B : Nat} (h : Keep S w w1) (hB : B ≤ w.heap.size) (hs : ∀ x, x < B → ¬ S x) : Below B w w1 :=
  ⟨h.os, h.tape, h.output, h.size, fun x hx => h.block x (by omega) (hs x hx)⟩
theorem Keep.to_below {B : Nat} (h : Keep (fun k => B ≤ k) w w1) (hB : B ≤ w.heap.size) : Below B w w1 := h.below hB (fun x hx => by omega)
theorem Keep.to_below' (h : Keep (fun _ => False) w w1) : Below w.heap.size w w1 := h.below (Nat.le_refl _) (fun _ _ h => h)
theorem Keep.cell (h : Keep S w w1) {p : Addr} {v : Value} (hp : ¬ S p.block) (hc : w.cell? p = some v) : w1.cell? p = some v :=
  (World.cell?_of_block (h.block p.block (World.block_lt_of_cell? w p hc) hp)).trans hc
theorem Keep.frozen (h : Keep S w w1) {p : Addr} (hp : ¬ S p.block) (hl : p.block < w.heap.size) : w1.frozen? p = w.frozen? p :=
  World.frozen?_of_block (h.block p.block hl hp)
end

/-- A slice at A reads as the m cells xs, all in blocks of F. -/
def Rd (w : World) (F : Nat → Prop) (A : Option Addr) (m : Nat) (xs : List Value) : Prop :=
  xs.length = m ∧ (0 < m → ∃ b off, A = some ⟨b, off, none⟩ ∧ F b ∧ ∀ i u, xs[i]? = some u → w.cell? ⟨b, off + i, none⟩ = some u)

section
variable {F G S : Nat → Prop} {w w' : World} {A : Option Addr} {m : Nat} {xs : List Value}
theorem Rd.nil (w : World) (F : Nat → Prop) (A : Option Addr) : Rd w F A 0 [] := ⟨rfl, fun h => absurd h (by omega)⟩
theorem Rd.at_ (h : Rd w F A m xs) {k : Nat} (hk : k < m) : ∃ b off, A = some ⟨b, off, none⟩ ∧ F b ∧ ∀ i u, xs[i]? = some u → w.cell? ⟨b, off + i, none⟩ = some u := h.2 (by omega)
theorem Rd.mono (h : Rd w F A m xs) (hf : ∀ b, b < w.heap.size → F b → G b) : Rd w G A m xs :=
  ⟨h.1, fun hm => by
    obtain ⟨b, off, e, hF, hc⟩ := h.2 hm
    have hl : 0 < xs.length := by have := h.1; omega
    exact ⟨b, off, e, hf b (World.block_lt_of_cell? w _ (hc 0 _ (List.getElem?_eq_getElem hl))) hF, hc⟩⟩
theorem Rd.keep (h : Rd w F A m xs) (hk : Keep S w w') (hs : ∀ b, b < w.heap.size → F b → ¬ S b) : Rd w' F A m xs :=
  ⟨h.1, fun hm => by
    obtain ⟨b, off, e, hF, hc⟩ := h.2 hm
    exact ⟨b, off, e, hF, fun i u hu => hk.cell (hs b (World.block_lt_of_cell? w _ (hc i u hu)) hF) (hc i u hu)⟩⟩
theorem Rd.below (h : Rd w F A m xs) (hb : Below w.heap.size w w') : Rd w' F A m xs := h.keep (Keep.of_below' hb) (fun _ _ _ h => h)
theorem Rd.drewN (h : Rd w F A m xs) (k : Nat) : Rd (w.drewN k) F A m xs := h
theorem Rd.drew (h : Rd w F A m xs) : Rd w.drew F A m xs := h
theorem Rd.alloc (h : Rd w F A m xs) (o : Obj) : Rd (w.alloc o) F A m xs := h.keep ((Keep.refl (fun _ => False) w).alloc o) (fun _ _ _ h => h)
/-- A literal just laid. -/
theorem Rd.lit (w : World) (e : TypeId) (cs : List Value) : Rd (w.alloc (.cells cs.toArray e)) (fun k => k = w.heap.size) (some ⟨w.heap.size, 0, none⟩) cs.length cs :=
  ⟨rfl, fun _ => ⟨w.heap.size, 0, rfl, rfl, fun i u hu => by
    rw [Nat.zero_add, cell_of_row _ w.heap.size i cs.toArray e (0, 0) (heap_alloc_new w _)]
    simpa using hu⟩⟩
/-- A piece of it. -/
theorem Rd.piece (h : Rd w F A m xs) {size lo hi : Nat} (hlh : lo ≤ hi) (hh : hi * size ≤ m) {A' : Option Addr} (hA : ∀ b off, A = some ⟨b, off, none⟩ → lo < hi → A' = some ⟨b, off + lo * size, none⟩) :
    Rd w F A' ((hi - lo) * size) ((xs.drop (lo * size)).take ((hi - lo) * size)) := by
  have e : (hi - lo) * size = hi * size - lo * size := Nat.sub_mul ..
  have hlo : lo * size ≤ hi * size := Nat.mul_le_mul_right _ hlh
  refine ⟨by rw [List.length_take, List.length_drop, h.1]; omega, fun hm => ?_⟩
  obtain ⟨b, off, eA, hF, hc⟩ := h.2 (by omega)
  have hne : lo < hi := by
    rcases Nat.lt_or_ge lo hi with h1 | h1
    · exact h1
    · have : hi - lo = 0 := by omega
      rw [this] at hm; simp at hm
  refine ⟨b, off + lo * size, hA b off eA hne, hF, fun i u hu => ?_⟩
  rw [List.getElem?_take] at hu
  split at hu
  · rw [List.getElem?_drop] at hu
    rw [Nat.add_assoc]
    exact hc _ u hu
  · cases hu
/-- What an append takes of it. -/
theorem Rd.src {P : Program} {size n c : Nat} {tx e' : TypeId} (h : Rd w F A (n * size) xs) (hk : P.underlying tx = some (.slice e')) (h1 : ∀ u ∈ xs, u.oneCell' = true) (hsz : 0 < size) : Src P size tx (.slice A n c) n xs w := by
  rcases Nat.eq_zero_or_pos n with h0 | h0
  · subst h0
    have hx : xs = [] := List.eq_nil_of_length_eq_zero (by simpa using h.1)
    subst hx
    rcases A with _ | a
    · exact Src.ofNil w hk c
    · exact Src.ofSlice w hk a 0 c [] (by simp) (fun j u hu => by simp at hu) h1
  · obtain ⟨b, off, rfl, _, hc⟩ := h.2 (Nat.mul_pos h0 hsz)
    exact Src.ofSlice w hk _ n c xs h.1 (fun j u hu => by
      have : (⟨b, off, none⟩ : Addr).add j = ⟨b, off + j, none⟩ := by
        unfold Addr.add; split <;> simp_all
      rw [this]; exact hc j u hu) h1
end

/-- A slice value that reads as the cells xs (elements of 'size' cells), in blocks of F. -/
def Sl (w : World) (F : Nat → Prop) (size : Nat) (v : Value) (n : Nat) (xs : List Value) : Prop :=
  ∃ A c, v = .slice A n c ∧ n ≤ c ∧ c ≤ maxLen ∧ (A = none → c = 0) ∧ Rd w F A (n * size) xs

section
variable {F G S : Nat → Prop} {w w' : World} {size n : Nat} {v : Value} {xs : List Value}
theorem Sl.mono (h : Sl w F size v n xs) (hf : ∀ b, b < w.heap.size → F b → G b) : Sl w G size v n xs := by
  obtain ⟨A, c, rfl, h1, h2, h3, h4⟩ := h
  exact ⟨A, c, rfl, h1, h2, h3, h4.mono hf⟩
theorem Sl.any (h : Sl w F size v n xs) : Sl w (fun _ => True) size v n xs := h.mono fun _ _ _ => trivial
theorem Sl.keep (h : Sl w F size v n xs) (hk : Keep S w w') (hs : ∀ b, b < w.heap.size → F b → ¬ S b) : Sl w' F size v n xs := by
  obtain ⟨A, c, rfl, h1, h2, h3, h4⟩ := h
  exact ⟨A, c, rfl, h1, h2, h3, h4.keep hk hs⟩
theorem Sl.below (h : Sl w F size v n xs) (hb : Below w.heap.size w w') : Sl w' F size v n xs := h.keep (Keep.of_below' hb) (fun _ _ _ h => h)
theorem Sl.alloc (h : Sl w F size v n xs) (o : Obj) : Sl (w.alloc o) F size v n xs := h.keep ((Keep.refl (fun _ => False) w).alloc o) (fun _ _ _ h => h)
theorem Sl.drewN (h : Sl w F size v n xs) (k : Nat) : Sl (w.drewN k) F size v n xs := h
theorem Sl.drew (h : Sl w F size v n xs) : Sl w.drew F size v n xs := h
theorem Sl.len (h : Sl w F size v n xs) : xs.length = n * size := by
  obtain ⟨A, c, rfl, h1, h2, h3, h4⟩ := h
  exact h4.1
theorem Sl.nil (w : World) (F : Nat → Prop) (size : Nat) : Sl w F size (.slice none 0 0) 0 [] :=
  ⟨none, 0, rfl, Nat.le_refl _, Nat.zero_le _, fun _ => rfl, by rw [Nat.zero_mul]; exact Rd.nil _ _ _⟩
/-- A literal just laid. -/
theorem Sl.lit (w : World) (e : TypeId) (cs : List Value) (h : cs.length ≤ maxLen) : Sl (w.alloc (.cells cs.toArray e)) (fun k => k = w.heap.size) 1 (.slice (some ⟨w.heap.size, 0, none⟩) cs.length cs.length) cs.length cs :=
  ⟨_, _, rfl, Nat.le_refl _, h, fun h => (by cases h), by rw [Nat.mul_one]; exact Rd.lit w e cs⟩
end

/-- The block of a slice that has room. -/
def ownB : Value → Option Nat
  | .slice (some a) _ (_ + 1) => some a.block
  | _ => none
/-- The slice value v, n elements of 'size' cells of type e, holds xs; either it has no room at all, or a block of its own from 'base' on. -/
def Own (w : World) (base : Nat) (e : TypeId) (size : Nat) (v : Value) (n : Nat) (xs : List Value) : Prop :=
  xs.length = n * size ∧ ∃ A c, v = .slice A n c ∧ n ≤ c ∧ c ≤ maxLen ∧
    (0 < c → ∃ g cur, A = some ⟨g, 0, none⟩ ∧ base ≤ g ∧ w.heap[g]? = some (.cells cur e (0, 0)) ∧ cur.size = c * size ∧ cur.toList.take (n * size) = xs)

section
variable {w w' : World} {base base' n size : Nat} {e : TypeId} {v : Value} {xs : List Value} {S : Nat → Prop}
theorem Own.none_ (w : World) (base : Nat) (e : TypeId) (size : Nat) (A : Option Addr) : Own w base e size (.slice A 0 0) 0 [] :=
  ⟨by simp, A, 0, rfl, Nat.le_refl _, Nat.zero_le _, fun h => absurd h (by omega)⟩
theorem Own.of_row (h : w.ownsRow base e size v n xs) : Own w base e size v n xs := by
  rcases h.2 with ⟨rfl, rfl⟩ | ⟨g, cap, cur, rfl, hb, hg, hn, hm, hs, ht⟩
  · exact ⟨h.1, none, 0, rfl, Nat.le_refl _, Nat.zero_le _, fun h => absurd h (by omega)⟩
  · exact ⟨h.1, _, cap, rfl, hn, hm, fun _ => ⟨g, cur, rfl, hb, hg, hs, ht⟩⟩
theorem Own.row (h : Own w base e size v n xs) (hn : 0 < n) : w.ownsRow base e size v n xs := by
  obtain ⟨hl, A, c, rfl, hnc, hc, hg⟩ := h
  obtain ⟨g, cur, rfl, hb, hgg, hs, ht⟩ := hg (by omega)
  exact ⟨hl, .inr ⟨g, c, cur, rfl, hb, hgg, hnc, hc, hs, ht⟩⟩
theorem Own.ownB (h : Own w base e size v n xs) : ∀ k, Go.Proofs.YtdeifjnhbdkkgaaGreatDoor.ownB v = some k → base ≤ k ∧ k < w.heap.size := by
  obtain ⟨_, A, c, rfl, _, _, hg⟩ := h
  intro k hk
  rcases c with _ | c
  · rcases A with _ | a <;> simp [Go.Proofs.YtdeifjnhbdkkgaaGreatDoor.ownB] at hk
  · obtain ⟨g, cur, rfl, hb, hgg, _⟩ := hg (by omega)
    simp [Go.Proofs.YtdeifjnhbdkkgaaGreatDoor.ownB] at hk
    subst hk
    exact ⟨hb, (Array.getElem?_eq_some_iff.1 hgg).1⟩
/-- A block of other elements, or a map, is none of a slice's own. -/
theorem Own.ne_cells (h : Own w base e size v n xs) {p : Nat} {t : TypeId} {cs : Array Value} {fr : Nat × Nat} (hp : w.heap[p]? = some (.cells cs t fr)) (hne : e ≠ t) : Go.Proofs.YtdeifjnhbdkkgaaGreatDoor.ownB v ≠ some p := by
  obtain ⟨_, A, c, rfl, _, _, hg⟩ := h
  intro hk
  rcases c with _ | c
  · rcases A with _ | a <;> simp [Go.Proofs.YtdeifjnhbdkkgaaGreatDoor.ownB] at hk
  · obtain ⟨g, cur, rfl, hb, hgg, _⟩ := hg (by omega)
    simp [Go.Proofs.YtdeifjnhbdkkgaaGreatDoor.ownB] at hk
    subst hk
    rw [hp] at hgg
    injection hgg with hgg
    injection hgg with _ ht
    exact hne ht.symm
theorem Own.ne_map (h : Own w base e size v n xs) {p : Nat} {es : Array MapEntry} {cl : Nat} (hp : w.heap[p]? = some (.map es cl)) : Go.Proofs.YtdeifjnhbdkkgaaGreatDoor.ownB v ≠ some p := by
  obtain ⟨_, A, c, rfl, _, _, hg⟩ := h
  intro hk
  rcases c with _ | c
  · rcases A with _ | a <;> simp [Go.Proofs.YtdeifjnhbdkkgaaGreatDoor.ownB] at hk
  · obtain ⟨g, cur, rfl, hb, hgg, _⟩ := hg (by omega)
    simp [Go.Proofs.YtdeifjnhbdkkgaaGreatDoor.ownB] at hk
    subst hk
    rw [hp] at hgg
    injection hgg with hgg
    cases hgg
theorem Own.keep (h : Own w base e size v n xs) (hk : Keep S w w') (hs : ∀ k, Go.Proofs.YtdeifjnhbdkkgaaGreatDoor.ownB v = some k → ¬ S k) : Own w' base e size v n xs := by
  obtain ⟨hl, A, c, rfl, hnc, hc, hg⟩ := h
  refine ⟨hl, A, c, rfl, hnc, hc, fun h0 => ?_⟩
  obtain ⟨g, cur, rfl, hb, hgg, hcs, ht⟩ := hg h0
  refine ⟨g, cur, rfl, hb, ?_, hcs, ht⟩
  rw [hk.block g (Array.getElem?_eq_some_iff.1 hgg).1 (hs g (by
    obtain ⟨c', rfl⟩ : ∃ c', c = c' + 1 := ⟨c - 1, by omega⟩
    rfl))]
  exact hgg
theorem Own.alloc (h : Own w base e size v n xs) (o : Obj) : Own (w.alloc o) base e size v n xs := h.keep ((Keep.refl (fun _ => False) w).alloc o) (fun _ _ h => h)
theorem Own.drew (h : Own w base e size v n xs) : Own w.drew base e size v n xs := h
theorem Own.drewN (h : Own w base e size v n xs) (k : Nat) : Own (w.drewN k) base e size v n xs := h
theorem Own.mono (h : Own w base e size v n xs) (hb : base' ≤ base) : Own w base' e size v n xs := by
  obtain ⟨hl, A, c, rfl, hnc, hc, hg⟩ := h
  refine ⟨hl, A, c, rfl, hnc, hc, fun h0 => ?_⟩
  obtain ⟨g, cur, rfl, hb', rest⟩ := hg h0
  exact ⟨g, cur, rfl, Nat.le_trans hb hb', rest⟩
theorem Own.form (h : Own w base e size v n xs) : ∃ A c, v = .slice A n c ∧ Rd w (fun k => base ≤ k) A (n * size) xs := by
  obtain ⟨hl, A, c, rfl, hnc, hc, hg⟩ := h
  refine ⟨A, c, rfl, hl, fun hm => ?_⟩
  have hn : 0 < n := Nat.pos_of_mul_pos_right hm
  obtain ⟨g, cur, rfl, hb, hgg, hcs, ht⟩ := hg (by omega)
  refine ⟨g, 0, rfl, hb, fun i u hu => ?_⟩
  rw [Nat.zero_add, cell_of_row w g i cur e (0, 0) hgg]
  rw [← ht, List.getElem?_take] at hu
  split at hu
  · simpa using hu
  · cases hu
theorem Own.sl (h : Own w base e size v n xs) : Sl w (fun k => base ≤ k) size v n xs := by
  obtain ⟨A, c, hv, hr⟩ := h.form
  obtain ⟨hl, A', c', hv', hnc, hc, hg⟩ := h
  subst hv
  injection hv' with h1 h2 h3
  subst h1 h3
  refine ⟨A, c, rfl, hnc, hc, fun h => ?_, hr⟩
  rcases Nat.eq_zero_or_pos c with h0 | h0
  · exact h0
  · obtain ⟨g, _, e, _⟩ := hg h0
    rw [h] at e
    cases e
theorem Own.re {m : Nat} {ys : List Value} (h : Own w base e 1 v n xs) (hx : xs = ys) (hm : ys.length = m) : Own w base e 1 v m ys := by
  subst hx
  have : n = m := by have := h.1; omega
  subst this
  exact h
theorem Own.len (h : Own w base e size v n xs) : xs.length = n * size := h.1
/-- A row just made, whole. -/
theorem Own.made (w : World) (cs : Array Value) (n c : Nat) (hb : base ≤ w.heap.size) (hnc : n ≤ c) (hm : c ≤ maxLen) (hs : cs.size = c * size) : Own (w.alloc (.cells cs e)) base e size (.slice (some ⟨w.heap.size, 0, none⟩) n c) n (cs.toList.take (n * size)) :=
  ⟨by rw [List.length_take, Array.length_toList, hs]; exact Nat.min_eq_left (Nat.mul_le_mul_right _ hnc), _, c, rfl, hnc, hm, fun _ => ⟨w.heap.size, cs, rfl, hb, heap_alloc_new w _, hs, rfl⟩⟩
/-- A shorter one, in place. -/
theorem Own.take {A : Option Addr} {c k : Nat} (h : Own w base e size (.slice A n c) n xs) (hk : k ≤ n) : Own w base e size (.slice A k c) k (xs.take (k * size)) := by
  obtain ⟨hl, A', c', hv, hnc, hc, hg⟩ := h
  injection hv with h1 h2 h3
  subst h1 h3
  refine ⟨by rw [List.length_take, hl]; exact Nat.min_eq_left (Nat.mul_le_mul_right _ hk), A, c, rfl, by omega, hc, fun h0 => ?_⟩
  obtain ⟨g, cur, rfl, hb, hgg, hcs, ht⟩ := hg h0
  refine ⟨g, cur, rfl, hb, hgg, hcs, ?_⟩
  rw [← ht, List.take_take, Nat.min_eq_left (Nat.mul_le_mul_right _ hk)]
end

/-- Behind an append onto a slice of the call's own: old memory stands. -/
theorem append_below {w wr w1 : World} {e : TypeId} {size : Nat} {v : Value} {n : Nat} {xs : List Value} {o : Obj} (hb : Below w.heap.size w wr) (hown : Own wr w.heap.size e size v n xs)
    (hk : Keep (fun k => ownB v = some k) (wr.alloc o) w1) : Below w.heap.size w w1 :=
  hb.trans ((Keep.trans (S := fun k => w.heap.size ≤ k) ((Keep.refl _ wr).alloc _) hk (fun x _ ht => (hown.ownB x ht).1)).to_below hb.size)
theorem append_below0 {w wr w1 : World} {e : TypeId} {size : Nat} {v : Value} {n : Nat} {xs : List Value} (hb : Below w.heap.size w wr) (hown : Own wr w.heap.size e size v n xs)
    (hk : Keep (fun k => ownB v = some k) wr w1) : Below w.heap.size w w1 :=
  hb.trans ((hk.mono (T := fun k => w.heap.size ≤ k) (fun x _ ht => (hown.ownB x ht).1)).to_below hb.size)

section
variable {P : Program} (w : World)
/-- append onto a slice of the call's own, or one without room, whatever the source. -/
theorem run_append_gen (base : Nat) (t tx ty e : TypeId) (i : TypeInfo) (z : Value) (size bytes : Nat) (ht : P.underlying t = some (.slice e)) (hi : P.info? e = some i) (hz : i.zero = some z)
    (hsize : i.size = size) (hby : i.bytes = bytes) (hzs : z.cells.size = size)
    (v : Value) (n : Nat) (xs : List Value) (hown : Own w base e size v n xs) (x : Value) (m : Nat) (news : List Value) (hs : Src P size tx x m news w)
    (h63 : n + m ≤ maxLen) (hbytes : (n + m) * bytes ≤ 140737488355328) (hbase : base ≤ w.heap.size) :
    ∃ v' w', (Builtin.append_ #[t, tx] ty #[v, x]).run P w = .ok v' w' ∧ Own w' base e size v' (n + m) (xs ++ news) ∧ Keep (fun k => ownB v = some k) w w' ∧
      (∀ k, ownB v' = some k → ownB v = some k ∨ w.heap.size ≤ k) := by
  subst hsize
  subst hby
  have hlen : (xs ++ news).length = (n + m) * i.size := by rw [List.length_append, hown.1, hs.newsLen, Nat.add_mul]
  obtain ⟨hl, A, c, rfl, hnc, hcm, hg⟩ := hown
  have h64 : n + m ≤ 9223372036854775807 := by unfold maxLen at h63; exact h63
  by_cases hroom : n + m ≤ c
  · rcases Nat.eq_zero_or_pos c with h0 | h0
    · subst h0
      have hn : n = 0 := by omega
      have hm : m = 0 := by omega
      subst hn hm
      have hx : xs = [] := List.eq_nil_of_length_eq_zero (by simpa using hl)
      have hw : news = [] := List.eq_nil_of_length_eq_zero (by simpa using hs.newsLen)
      subst hx hw
      refine ⟨.slice A 0 0, w, ?_, Own.none_ w base e i.size A, Keep.refl _ _, fun k hk => .inl hk⟩
      rcases A with _ | a
      · rcases hs.kind with ⟨e', hk⟩ | hk <;> simp [Builtin.append_, run_underlying ht, run_underlying hk, sizeOf, typeInfo, hi, hs.len, hs.cells]
      · rcases hs.kind with ⟨e', hk⟩ | hk <;> simp [Builtin.append_, run_underlying ht, run_underlying hk, sizeOf, typeInfo, hi, hs.len, hs.cells, storeCells]
    · obtain ⟨g, cur, rfl, hb, hgg, hcs, htk⟩ := hg h0
      have hfit : n * i.size + 0 + news.length ≤ cur.size := by
        rw [hcs, hs.newsLen, Nat.add_zero, ← Nat.add_mul]
        exact Nat.mul_le_mul_right _ hroom
      have hst := run_storeCells_at P g (n * i.size) e news 0 cur w hgg hfit hs.one
      simp only [Nat.add_zero] at hst
      refine ⟨.slice (some ⟨g, 0, none⟩) (n + m) c, w.setRow g (cur.toList.take (n * i.size) ++ news ++ cur.toList.drop (n * i.size + news.length)).toArray, ?_, ?_, ?_, ?_⟩
      · rcases hs.kind with ⟨e', hk⟩ | hk <;> simp [Builtin.append_, run_underlying ht, run_underlying hk, sizeOf, typeInfo, hi, hs.len, hroom, hs.cells, Addr.add_lit, hst]
      · refine ⟨hlen, _, c, rfl, hroom, hcm, fun _ => ⟨g, _, rfl, hb, by simp only [World.setRow, Array.getElem?_modify, if_pos, hgg]; rfl, ?_, ?_⟩⟩
        · simp only [List.size_toArray, List.length_append, List.length_take, List.length_drop, Array.length_toList]
          omega
        · rw [htk, ← hlen]
          exact List.take_left
      · refine (Keep.refl _ w).setRow (.inr ?_) _
        obtain ⟨c', rfl⟩ : ∃ c', c = c' + 1 := ⟨c - 1, by omega⟩
        rfl
      · intro k hk
        refine .inl ?_
        obtain ⟨c', rfl⟩ : ∃ c', c = c' + 1 := ⟨c - 1, by omega⟩
        exact hk
  · have hold : (Builtin.firstCells i.size n (.slice A n c)).run P w.drew = .ok xs.toArray w.drew := by
      rcases Nat.eq_zero_or_pos n with h0 | h0
      · subst h0
        have hx : xs = [] := List.eq_nil_of_length_eq_zero (by simpa using hl)
        subst hx
        rcases A with _ | a
        · exact run_firstCells_none w.drew i.size 0 0 c
        · exact run_firstCells_some w.drew i.size 0 a 0 c [] (by simp) (fun j u hu => by simp at hu)
      · obtain ⟨g, cur, rfl, hb, hgg, hcs, htk⟩ := hg (by omega)
        refine run_firstCells_some w.drew i.size n _ n c xs hl (fun j u hu => ?_)
        rw [Addr.add_lit, World.cell?_drew, Nat.zero_add, cell_of_row w g j cur e (0, 0) hgg]
        rw [← htk, List.getElem?_take] at hu
        split at hu
        · simpa using hu
        · cases hu
    have hr := run_append_grow_src (P := P) w t tx ty e i z ht hi hz A n c xs hold x m news hs (by omega) (by omega) (growslice_fits (by omega) hbytes)
    have hge := grownCap_ge w (n + m) c e
    have hcm' : grownCap w (n + m) c e ≤ maxLen := grownCap_le_maxLen w (n + m) c e h63
    refine ⟨_, _, hr, ⟨hlen, _, _, rfl, hge, hcm', fun _ => ⟨w.heap.size, _, rfl, hbase, heap_alloc_new w.drew _, ?_, ?_⟩⟩, ((Keep.refl _ w).drew).alloc _, ?_⟩
    · simp only [Array.size_append, List.size_toArray, size_zeroCells, hzs, hlen, ← Nat.add_mul]
      congr 1
      omega
    · simp only [Array.toList_append]
      rw [← hlen]
      exact List.take_left
    · intro k hk
      refine .inr ?_
      generalize grownCap w (n + m) c e = q at hk
      rcases q with _ | q
      · simp [ownB] at hk
      · simp [ownB] at hk; omega

theorem wp_append_gen {o : Oper} {a : Act} {K : Act → World → Prop} {Q : Exit → Act → World → Prop} (s x : Operand) (t tx : TypeId)
    (ho : o.op = .call { callee := .builtin .append, args := #[s, x], argTypes := #[t, tx] })
    (base : Nat) (e : TypeId) (i : TypeInfo) (z : Value) (size bytes : Nat) (ht : P.underlying t = some (.slice e)) (hi : P.info? e = some i) (hz : i.zero = some z)
    (hsize : i.size = size) (hby : i.bytes = bytes) (hzs : z.cells.size = size)
    (v : Value) (n : Nat) (xs : List Value) (hv : a.eval s = v) (hown : Own w base e size v n xs)
    (y : Value) (m : Nat) (news : List Value) (hy : a.eval x = y) (hs : Src P size tx y m news w)
    (h63 : n + m ≤ maxLen) (hbytes : (n + m) * bytes ≤ 140737488355328) (hbase : base ≤ w.heap.size)
    (h : ∀ v' w', Own w' base e size v' (n + m) (xs ++ news) → Keep (fun k => ownB v = some k) w w' → (∀ k, ownB v' = some k → ownB v = some k ∨ w.heap.size ≤ k) → K (a.put o.dst v') w') : o.wp P a w K Q := by
  obtain ⟨v', w', hrun, h2, h3, h4⟩ := run_append_gen (P := P) w base t tx o.type e i z size bytes ht hi hz hsize hby hzs v n xs hown y m news hs h63 hbytes hbase
  unfold Oper.wp execOp
  simp only [ho, resolve, invoke, builtin, Sem.run_bind, Sem.run_pure, Result.andThen_ok, List.map_toArray, List.map_cons, List.map_nil, hv, hy, hrun]
  exact h v' w' h2 h3 h4

theorem wpList_append_gen {ops : Array Oper} {rest : List Oper} {o : Oper} {a : Act} {Q : Exit → Act → World → Prop} (hgd : Region.wanted o (yielded ops a.tmps) = true) (s x : Operand) (t tx : TypeId)
    (ho : o.op = .call { callee := .builtin .append, args := #[s, x], argTypes := #[t, tx] })
    (base : Nat) (e : TypeId) (i : TypeInfo) (z : Value) (size bytes : Nat) (ht : P.underlying t = some (.slice e)) (hi : P.info? e = some i) (hz : i.zero = some z)
    (hsize : i.size = size) (hby : i.bytes = bytes) (hzs : z.cells.size = size)
    (v : Value) (n : Nat) (xs : List Value) (hv : a.eval s = v) (hown : Own w base e size v n xs)
    (y : Value) (m : Nat) (news : List Value) (hy : a.eval x = y) (hs : Src P size tx y m news w)
    (h63 : n + m ≤ maxLen) (hbytes : (n + m) * bytes ≤ 140737488355328) (hbase : base ≤ w.heap.size)
    (h : ∀ v' w', Own w' base e size v' (n + m) (xs ++ news) → Keep (fun k => ownB v = some k) w w' → (∀ k, ownB v' = some k → ownB v = some k ∨ w.heap.size ≤ k) → wpList P ops Q rest (a.put o.dst v') w') : wpList P ops Q (o :: rest) a w :=
  wpList_step fun _ hK => by
    rw [if_pos hgd]
    exact wp_append_gen w s x t tx ho base e i z size bytes ht hi hz hsize hby hzs v n xs hv hown y m news hy hs h63 hbytes hbase fun v' w' h2 h3 h4 => hK _ _ (h v' w' h2 h3 h4)

theorem step_append_gen {ops : Array Oper} {o : Oper} {a : Act} {K : Act → World → Prop} {Q : Exit → Act → World → Prop} {E : Prop} (hgd : Region.wanted o (yielded ops a.tmps) = true) (s x : Operand) (t tx : TypeId)
    (ho : o.op = .call { callee := .builtin .append, args := #[s, x], argTypes := #[t, tx] })
    (base : Nat) (e : TypeId) (i : TypeInfo) (z : Value) (size bytes : Nat) (ht : P.underlying t = some (.slice e)) (hi : P.info? e = some i) (hz : i.zero = some z)
    (hsize : i.size = size) (hby : i.bytes = bytes) (hzs : z.cells.size = size)
    (v : Value) (n : Nat) (xs : List Value) (hv : a.eval s = v) (hown : Own w base e size v n xs)
    (y : Value) (m : Nat) (news : List Value) (hy : a.eval x = y) (hs : Src P size tx y m news w)
    (h63 : n + m ≤ maxLen) (hbytes : (n + m) * bytes ≤ 140737488355328) (hbase : base ≤ w.heap.size)
    (h : ∀ v' w', Own w' base e size v' (n + m) (xs ++ news) → Keep (fun k => ownB v = some k) w w' → (∀ k, ownB v' = some k → ownB v = some k ∨ w.heap.size ≤ k) → K (a.put o.dst v') w') :
    if Region.wanted o (yielded ops a.tmps) = true then Oper.wp P o a w K Q else E := by
  rw [if_pos hgd]
  exact wp_append_gen w s x t tx ho base e i z size bytes ht hi hz hsize hby hzs v n xs hv hown y m news hy hs h63 hbytes hbase h
end
end Go.Proofs.YtdeifjnhbdkkgaaGreatDoor
namespace Go.Proofs.YtdeifjnhbdkkgaaGreatDoor
open Go.RowKit
set_option maxRecDepth 100000

/-- What a copy onto block g, place off, leaves: the cells cs are laid there. -/
def Laid (w w' : World) (g off : Nat) (cur : Array Value) (cs : List Value) : Prop :=
  (cs = [] → w' = w) ∧ (cs ≠ [] → w' = w.setRow g (splice cur.toList off cs).toArray)

section
variable {P : Program} {w : World}
theorem run_copy_gen (dT sT ty elem : TypeId) (hu : P.underlying dT = some (.slice elem)) (hsz : (P.info? elem).map (·.size) = some 1)
    (A : Option Addr) (dLen dCap g off : Nat) (cur : Array Value) (t : TypeId) (hA : 0 < dLen → A = some ⟨g, off, none⟩ ∧ w.heap[g]? = some (.cells cur t (0, 0)) ∧ off + dLen ≤ cur.size)
    (F : Nat → Prop) (u : Value) (m : Nat) (ys : List Value) (hs : Sl w F 1 u m ys) (h1 : ∀ y ∈ ys, y.oneCell' = true) :
    ∃ w', (Builtin.copy_ #[dT, sT] ty #[.slice A dLen dCap, u]).run P w = .ok (goInt ((min m dLen : Nat) : Int)) w' ∧ Laid w w' g off cur (ys.take (min m dLen)) := by
  have hl := hs.len
  obtain ⟨B, c, rfl, _, _, _, hr⟩ := hs
  rw [Nat.mul_one] at hl
  rcases Nat.eq_zero_or_pos (min m dLen) with h0 | h0
  · refine ⟨w, ?_, ?_⟩
    · rw [h0]
      exact run_copy_none w dT sT ty elem A B dLen dCap m c hu hsz h0
    · rw [h0]
      exact ⟨fun _ => rfl, fun h => absurd rfl h⟩
  · obtain ⟨rfl, hg, hfit⟩ := hA (by omega)
    obtain ⟨b, o, rfl, _, hc⟩ := hr.2 (by omega)
    have hlen : (ys.take (min m dLen)).length = min m dLen := by rw [List.length_take]; omega
    have hrun := run_copy_row (P := P) w dT sT ty elem g off dLen dCap ⟨b, o, none⟩ m c cur t (ys.take (min m dLen)) hu hsz hg hlen (fun j v hj => by
      have e : (⟨b, o, none⟩ : Addr).add j = ⟨b, o + j, none⟩ := by unfold Addr.add; split <;> simp_all
      rw [e]
      rw [List.getElem?_take] at hj
      split at hj
      · exact hc j v hj
      · cases hj) (by rw [hlen]; omega) (fun v hv => h1 v (List.mem_of_mem_take hv))
    rw [hlen] at hrun
    refine ⟨_, hrun, fun h => ?_, fun _ => ?_⟩
    · rw [h] at hlen
      simp at hlen
      omega
    · unfold splice
      rw [hlen, List.append_assoc]

theorem wp_copy_gen {o : Oper} {a : Act} {K : Act → World → Prop} {Q : Exit → Act → World → Prop} (d s : Operand) (dT sT : TypeId)
    (ho : o.op = .call { callee := .builtin .copy, args := #[d, s], argTypes := #[dT, sT] }) (elem : TypeId) (hu : P.underlying dT = some (.slice elem)) (hsz : (P.info? elem).map (·.size) = some 1)
    (A : Option Addr) (dLen dCap g off : Nat) (cur : Array Value) (t : TypeId) (hd : a.eval d = .slice A dLen dCap) (hA : 0 < dLen → A = some ⟨g, off, none⟩ ∧ w.heap[g]? = some (.cells cur t (0, 0)) ∧ off + dLen ≤ cur.size)
    (F : Nat → Prop) (u : Value) (m : Nat) (ys : List Value) (hv : a.eval s = u) (hs : Sl w F 1 u m ys) (h1 : ∀ y ∈ ys, y.oneCell' = true)
    (h : ∀ w', Laid w w' g off cur (ys.take (min m dLen)) → K (a.put o.dst (goInt ((min m dLen : Nat) : Int))) w') : o.wp P a w K Q := by
  obtain ⟨w', hrun, hw⟩ := run_copy_gen (P := P) (w := w) dT sT o.type elem hu hsz A dLen dCap g off cur t hA F u m ys hs h1
  unfold Oper.wp execOp
  simp only [ho, resolve, invoke, builtin, Sem.run_bind, Sem.run_pure, Result.andThen_ok, List.map_toArray, List.map_cons, List.map_nil, hd, hv, hrun]
  exact h w' hw
theorem wpList_copy_gen {ops : Array Oper} {rest : List Oper} {o : Oper} {a : Act} {Q : Exit → Act → World → Prop} (hgd : Region.wanted o (yielded ops a.tmps) = true) (d s : Operand) (dT sT : TypeId)
    (ho : o.op = .call { callee := .builtin .copy, args := #[d, s], argTypes := #[dT, sT] }) (elem : TypeId) (hu : P.underlying dT = some (.slice elem)) (hsz : (P.info? elem).map (·.size) = some 1)
    (A : Option Addr) (dLen dCap g off : Nat) (cur : Array Value) (t : TypeId) (hd : a.eval d = .slice A dLen dCap) (hA : 0 < dLen → A = some ⟨g, off, none⟩ ∧ w.heap[g]? = some (.cells cur t (0, 0)) ∧ off + dLen ≤ cur.size)
    (F : Nat → Prop) (u : Value) (m : Nat) (ys : List Value) (hv : a.eval s = u) (hs : Sl w F 1 u m ys) (h1 : ∀ y ∈ ys, y.oneCell' = true)
    (h : ∀ w', Laid w w' g off cur (ys.take (min m dLen)) → wpList P ops Q rest (a.put o.dst (goInt ((min m dLen : Nat) : Int))) w') : wpList P ops Q (o :: rest) a w :=
  wpList_step fun _ hK => by
    rw [if_pos hgd]
    exact wp_copy_gen d s dT sT ho elem hu hsz A dLen dCap g off cur t hd hA F u m ys hv hs h1 fun w' hw => hK _ _ (h w' hw)
end

section
variable {w w' : World} {g off : Nat} {cur : Array Value} {cs : List Value}
theorem Laid.keep (h : Laid w w' g off cur cs) : Keep (fun k => k = g) w w' := by
  by_cases hc : cs = []
  · rw [h.1 hc]; exact Keep.refl _ _
  · rw [h.2 hc]; exact Keep.setRow (S := fun k => k = g) (Keep.refl _ w) (.inr rfl) _
theorem Laid.block {t : TypeId} (h : Laid w w' g off cur cs) (hg : w.heap[g]? = some (.cells cur t (0, 0))) : w'.heap[g]? = some (.cells (splice cur.toList off cs).toArray t (0, 0)) := by
  by_cases hc : cs = []
  · rw [h.1 hc, hc, hg]; simp [splice]
  · rw [h.2 hc]; simp [World.setRow, Array.getElem?_modify, hg]
/-- The block of a slice of the call's own. -/
theorem Own.cur_ {base n c : Nat} {e : TypeId} {A : Option Addr} {xs : List Value} (h : Own w base e 1 (.slice A n c) n xs) :
    ∃ g cur, 0 < n → A = some ⟨g, 0, none⟩ ∧ w.heap[g]? = some (.cells cur e (0, 0)) ∧ 0 + n ≤ cur.size := by
  obtain ⟨hlen, A', c', hv, hnc, hcm, hx⟩ := h
  injection hv with h1 h2 h3
  subst h1 h3
  rcases Nat.eq_zero_or_pos c with h0 | h0
  · exact ⟨0, #[], fun h => by omega⟩
  · obtain ⟨g, cur, rfl, hbase, hg, hcs, htk⟩ := hx h0
    exact ⟨g, cur, fun _ => ⟨rfl, hg, by omega⟩⟩
/-- The whole of a slice of the call's own. -/
theorem Own.laid {base n c : Nat} {e : TypeId} {A : Option Addr} {xs : List Value} (h : Own w base e 1 (.slice A n c) n xs) (hA : 0 < n → A = some ⟨g, 0, none⟩ ∧ w.heap[g]? = some (.cells cur e (0, 0)) ∧ 0 + n ≤ cur.size)
    (hl : Laid w w' g 0 cur cs) (hcs : cs.length ≤ n) : Own w' base e 1 (.slice A n c) n (cs ++ xs.drop cs.length) ∧ Keep (fun k => Go.Proofs.YtdeifjnhbdkkgaaGreatDoor.ownB (Value.slice A n c) = some k) w w' := by
  rcases Nat.eq_zero_or_pos cs.length with h0 | h0
  · have hc : cs = [] := List.eq_nil_of_length_eq_zero h0
    subst hc
    rw [hl.1 rfl]
    exact ⟨by simpa using h, Keep.refl _ _⟩
  · obtain ⟨rfl, hg, hfit⟩ := hA (by omega)
    have hb := hl.block hg
    obtain ⟨hlen, A', c', hv, hnc, hcm, hx⟩ := h
    injection hv with h1 h2 h3
    subst h1 h3
    obtain ⟨g', cur', hgg, hbase, hgg', hcs', htk⟩ := hx (by omega)
    injection hgg with hgg
    injection hgg with hgg
    subst hgg
    rw [hg] at hgg'
    injection hgg' with hgg'
    injection hgg' with hcur
    subst hcur
    refine ⟨⟨?_, _, c, rfl, hnc, hcm, fun _ => ⟨g, _, rfl, hbase, hb, ?_, ?_⟩⟩, ?_⟩
    · rw [List.length_append, List.length_drop, hlen]; omega
    · have hz : cur.toList.length = cur.size := Array.length_toList
      rw [List.size_toArray, length_splice _ _ _ (by omega), hz, hcs']
    · have e : ((splice cur.toList 0 cs).toArray).toList = cs ++ cur.toList.drop cs.length := by simp [splice]
      rw [e, List.take_append, List.take_of_length_le (by omega), ← htk, List.drop_take]
    · refine hl.keep.mono fun x _ hx => ?_
      subst hx
      obtain ⟨c', rfl⟩ : ∃ c', c = c' + 1 := ⟨c - 1, by omega⟩
      rfl
end
end Go.Proofs.YtdeifjnhbdkkgaaGreatDoor
namespace Go.Proofs.YtdeifjnhbdkkgaaGreatDoor
open Go.RowKit
set_option maxRecDepth 100000

theorem ret_bool {a b : Bool} (h : a = b) : Ending.returned (.bool a) = .returned (.bool b) := by rw [h]
theorem ret_int {k : IntKind} {a b : Int} (h : a = b) : Ending.returned (.int k a) = .returned (.int k b) := by rw [h]
def iv (l : List Int) : List Value := l.map (Value.int .i64)
theorem iv_one (l : List Int) : ∀ u ∈ iv l, u.oneCell' = true := by
  intro u hu
  obtain ⟨_, _, rfl⟩ := List.mem_map.1 hu
  rfl
/-- What 'append(l, x)' appends: the one-element slice that it has just laid. -/
theorem src_one {P : Program} {tx e e' : TypeId} (w : World) (x : Value) (hk : P.underlying tx = some (.slice e')) (h1 : x.oneCell' = true) : Src P 1 tx (.slice (some ⟨w.heap.size, 0, none⟩) 1 1) 1 [x] (w.alloc (.cells #[x] e)) :=
  Src.ofSlice _ hk _ 1 1 [x] rfl (fun j u hu => by
    match j, hu with
    | 0, hu => simp at hu; subst hu; simp [Addr.add]) (fun u hu => by simp at hu; subst hu; exact h1)

/-- Sets and other 64-bit words, as cells. -/
def uv (l : List Nat) : List Value := l.map fun n : Nat => Value.int .u64 (n : Int)
theorem uv_one (l : List Nat) : ∀ u ∈ uv l, u.oneCell' = true := by
  intro u hu
  obtain ⟨_, _, rfl⟩ := List.mem_map.1 hu
  rfl
theorem uv_len (l : List Nat) : (uv l).length = l.length := by simp [uv]
theorem iv_len (l : List Int) : (iv l).length = l.length := by simp [iv]
theorem uv_at {l : List Nat} {k : Nat} (h : k < l.length) : (uv l)[k]? = some (.int .u64 (l.getD k 0 : Nat)) ∧ l[k]? = some (l.getD k 0) := by
  have e : l[k]? = some (l.getD k 0) := by rw [List.getElem?_eq_getElem h, List.getD_eq_getElem?_getD, List.getElem?_eq_getElem h]; rfl
  exact ⟨by rw [uv, List.getElem?_map, e]; rfl, e⟩
/-- An int's list, element by element. -/
theorem iv_at {l : List Int} {k : Nat} (h : k < l.length) : (iv l)[k]? = some (.int .i64 (l.getD k 0)) ∧ l[k]? = some (l.getD k 0) := by
  have e : l[k]? = some (l.getD k 0) := by rw [List.getElem?_eq_getElem h, List.getD_eq_getElem?_getD, List.getElem?_eq_getElem h]; rfl
  exact ⟨by rw [iv, List.getElem?_map, e]; rfl, e⟩
end Go.Proofs.YtdeifjnhbdkkgaaGreatDoor
namespace Go.Proofs.YtdeifjnhbdkkgaaGreatDoor
open Go.RowKit
set_option maxRecDepth 100000

theorem cells1 {w : World} {p : Nat} {t : TypeId} {c0 : Value} (h : w.heap[p]? = some (.cells #[c0] t (0, 0))) :
    w.cell? ⟨p, 0, none⟩ = some c0 ∧ ∀ i, w.frozen? ⟨p, i, none⟩ = false :=
  ⟨by rw [cell_of_row w p 0 _ _ _ h]; rfl, fun i => frozen_of_row w p i _ _ h⟩
theorem stored1 {w : World} {p : Nat} {t : TypeId} {c0 : Value} (h : w.heap[p]? = some (.cells #[c0] t (0, 0))) (v0 : Value) :
    (w.setCell ⟨p, 0, none⟩ v0).heap[p]? = some (.cells #[v0] t (0, 0)) := by
  have h0 := h
  have h1 : (w.setCell ⟨p, 0, none⟩ v0).heap[p]? = some (.cells #[v0] t (0, 0)) := by rw [heap_setCell_same _ p 0 _ _ v0 h0]; rfl
  exact h1
theorem keepS1 (w : World) (p : Nat) (v0 : Value) : Keep (fun b => b = p) w (w.setCell ⟨p, 0, none⟩ v0) :=
  Keep.setCell (S := fun b => b = p) (p := ⟨p, 0, none⟩) (Keep.refl _ _) (.inr rfl) _
theorem cells2 {w : World} {p : Nat} {t : TypeId} {c0 c1 : Value} (h : w.heap[p]? = some (.cells #[c0, c1] t (0, 0))) :
    w.cell? ⟨p, 0, none⟩ = some c0 ∧ w.cell? ⟨p, 1, none⟩ = some c1 ∧ ∀ i, w.frozen? ⟨p, i, none⟩ = false :=
  ⟨by rw [cell_of_row w p 0 _ _ _ h]; rfl, by rw [cell_of_row w p 1 _ _ _ h]; rfl, fun i => frozen_of_row w p i _ _ h⟩
theorem stored2 {w : World} {p : Nat} {t : TypeId} {c0 c1 : Value} (h : w.heap[p]? = some (.cells #[c0, c1] t (0, 0))) (v0 v1 : Value) :
    ((w.setCell ⟨p, 0, none⟩ v0).setCell ⟨p, 1, none⟩ v1).heap[p]? = some (.cells #[v0, v1] t (0, 0)) := by
  have h0 := h
  have h1 : (w.setCell ⟨p, 0, none⟩ v0).heap[p]? = some (.cells #[v0, c1] t (0, 0)) := by rw [heap_setCell_same _ p 0 _ _ v0 h0]; rfl
  have h2 : ((w.setCell ⟨p, 0, none⟩ v0).setCell ⟨p, 1, none⟩ v1).heap[p]? = some (.cells #[v0, v1] t (0, 0)) := by rw [heap_setCell_same _ p 1 _ _ v1 h1]; rfl
  exact h2
theorem keepS2 (w : World) (p : Nat) (v0 v1 : Value) : Keep (fun b => b = p) w ((w.setCell ⟨p, 0, none⟩ v0).setCell ⟨p, 1, none⟩ v1) :=
  Keep.setCell (S := fun b => b = p) (p := ⟨p, 1, none⟩) (Keep.setCell (S := fun b => b = p) (p := ⟨p, 0, none⟩) (Keep.refl _ _) (.inr rfl) _) (.inr rfl) _
theorem cells3 {w : World} {p : Nat} {t : TypeId} {c0 c1 c2 : Value} (h : w.heap[p]? = some (.cells #[c0, c1, c2] t (0, 0))) :
    w.cell? ⟨p, 0, none⟩ = some c0 ∧ w.cell? ⟨p, 1, none⟩ = some c1 ∧ w.cell? ⟨p, 2, none⟩ = some c2 ∧ ∀ i, w.frozen? ⟨p, i, none⟩ = false :=
  ⟨by rw [cell_of_row w p 0 _ _ _ h]; rfl, by rw [cell_of_row w p 1 _ _ _ h]; rfl, by rw [cell_of_row w p 2 _ _ _ h]; rfl, fun i => frozen_of_row w p i _ _ h⟩
theorem stored3 {w : World} {p : Nat} {t : TypeId} {c0 c1 c2 : Value} (h : w.heap[p]? = some (.cells #[c0, c1, c2] t (0, 0))) (v0 v1 v2 : Value) :
    (((w.setCell ⟨p, 0, none⟩ v0).setCell ⟨p, 1, none⟩ v1).setCell ⟨p, 2, none⟩ v2).heap[p]? = some (.cells #[v0, v1, v2] t (0, 0)) := by
  have h0 := h
  have h1 : (w.setCell ⟨p, 0, none⟩ v0).heap[p]? = some (.cells #[v0, c1, c2] t (0, 0)) := by rw [heap_setCell_same _ p 0 _ _ v0 h0]; rfl
  have h2 : ((w.setCell ⟨p, 0, none⟩ v0).setCell ⟨p, 1, none⟩ v1).heap[p]? = some (.cells #[v0, v1, c2] t (0, 0)) := by rw [heap_setCell_same _ p 1 _ _ v1 h1]; rfl
  have h3 : (((w.setCell ⟨p, 0, none⟩ v0).setCell ⟨p, 1, none⟩ v1).setCell ⟨p, 2, none⟩ v2).heap[p]? = some (.cells #[v0, v1, v2] t (0, 0)) := by rw [heap_setCell_same _ p 2 _ _ v2 h2]; rfl
  exact h3
theorem keepS3 (w : World) (p : Nat) (v0 v1 v2 : Value) : Keep (fun b => b = p) w (((w.setCell ⟨p, 0, none⟩ v0).setCell ⟨p, 1, none⟩ v1).setCell ⟨p, 2, none⟩ v2) :=
  Keep.setCell (S := fun b => b = p) (p := ⟨p, 2, none⟩) (Keep.setCell (S := fun b => b = p) (p := ⟨p, 1, none⟩) (Keep.setCell (S := fun b => b = p) (p := ⟨p, 0, none⟩) (Keep.refl _ _) (.inr rfl) _) (.inr rfl) _) (.inr rfl) _
theorem cells4 {w : World} {p : Nat} {t : TypeId} {c0 c1 c2 c3 : Value} (h : w.heap[p]? = some (.cells #[c0, c1, c2, c3] t (0, 0))) :
    w.cell? ⟨p, 0, none⟩ = some c0 ∧ w.cell? ⟨p, 1, none⟩ = some c1 ∧ w.cell? ⟨p, 2, none⟩ = some c2 ∧ w.cell? ⟨p, 3, none⟩ = some c3 ∧ ∀ i, w.frozen? ⟨p, i, none⟩ = false :=
  ⟨by rw [cell_of_row w p 0 _ _ _ h]; rfl, by rw [cell_of_row w p 1 _ _ _ h]; rfl, by rw [cell_of_row w p 2 _ _ _ h]; rfl, by rw [cell_of_row w p 3 _ _ _ h]; rfl, fun i => frozen_of_row w p i _ _ h⟩
theorem stored4 {w : World} {p : Nat} {t : TypeId} {c0 c1 c2 c3 : Value} (h : w.heap[p]? = some (.cells #[c0, c1, c2, c3] t (0, 0))) (v0 v1 v2 v3 : Value) :
    ((((w.setCell ⟨p, 0, none⟩ v0).setCell ⟨p, 1, none⟩ v1).setCell ⟨p, 2, none⟩ v2).setCell ⟨p, 3, none⟩ v3).heap[p]? = some (.cells #[v0, v1, v2, v3] t (0, 0)) := by
  have h0 := h
  have h1 : (w.setCell ⟨p, 0, none⟩ v0).heap[p]? = some (.cells #[v0, c1, c2, c3] t (0, 0)) := by rw [heap_setCell_same _ p 0 _ _ v0 h0]; rfl
  have h2 : ((w.setCell ⟨p, 0, none⟩ v0).setCell ⟨p, 1, none⟩ v1).heap[p]? = some (.cells #[v0, v1, c2, c3] t (0, 0)) := by rw [heap_setCell_same _ p 1 _ _ v1 h1]; rfl
  have h3 : (((w.setCell ⟨p, 0, none⟩ v0).setCell ⟨p, 1, none⟩ v1).setCell ⟨p, 2, none⟩ v2).heap[p]? = some (.cells #[v0, v1, v2, c3] t (0, 0)) := by rw [heap_setCell_same _ p 2 _ _ v2 h2]; rfl
  have h4 : ((((w.setCell ⟨p, 0, none⟩ v0).setCell ⟨p, 1, none⟩ v1).setCell ⟨p, 2, none⟩ v2).setCell ⟨p, 3, none⟩ v3).heap[p]? = some (.cells #[v0, v1, v2, v3] t (0, 0)) := by rw [heap_setCell_same _ p 3 _ _ v3 h3]; rfl
  exact h4
theorem keepS4 (w : World) (p : Nat) (v0 v1 v2 v3 : Value) : Keep (fun b => b = p) w ((((w.setCell ⟨p, 0, none⟩ v0).setCell ⟨p, 1, none⟩ v1).setCell ⟨p, 2, none⟩ v2).setCell ⟨p, 3, none⟩ v3) :=
  Keep.setCell (S := fun b => b = p) (p := ⟨p, 3, none⟩) (Keep.setCell (S := fun b => b = p) (p := ⟨p, 2, none⟩) (Keep.setCell (S := fun b => b = p) (p := ⟨p, 1, none⟩) (Keep.setCell (S := fun b => b = p) (p := ⟨p, 0, none⟩) (Keep.refl _ _) (.inr rfl) _) (.inr rfl) _) (.inr rfl) _) (.inr rfl) _
theorem cells5 {w : World} {p : Nat} {t : TypeId} {c0 c1 c2 c3 c4 : Value} (h : w.heap[p]? = some (.cells #[c0, c1, c2, c3, c4] t (0, 0))) :
    w.cell? ⟨p, 0, none⟩ = some c0 ∧ w.cell? ⟨p, 1, none⟩ = some c1 ∧ w.cell? ⟨p, 2, none⟩ = some c2 ∧ w.cell? ⟨p, 3, none⟩ = some c3 ∧ w.cell? ⟨p, 4, none⟩ = some c4 ∧ ∀ i, w.frozen? ⟨p, i, none⟩ = false :=
  ⟨by rw [cell_of_row w p 0 _ _ _ h]; rfl, by rw [cell_of_row w p 1 _ _ _ h]; rfl, by rw [cell_of_row w p 2 _ _ _ h]; rfl, by rw [cell_of_row w p 3 _ _ _ h]; rfl, by rw [cell_of_row w p 4 _ _ _ h]; rfl, fun i => frozen_of_row w p i _ _ h⟩
theorem stored5 {w : World} {p : Nat} {t : TypeId} {c0 c1 c2 c3 c4 : Value} (h : w.heap[p]? = some (.cells #[c0, c1, c2, c3, c4] t (0, 0))) (v0 v1 v2 v3 v4 : Value) :
    (((((w.setCell ⟨p, 0, none⟩ v0).setCell ⟨p, 1, none⟩ v1).setCell ⟨p, 2, none⟩ v2).setCell ⟨p, 3, none⟩ v3).setCell ⟨p, 4, none⟩ v4).heap[p]? = some (.cells #[v0, v1, v2, v3, v4] t (0, 0)) := by
  have h0 := h
  have h1 : (w.setCell ⟨p, 0, none⟩ v0).heap[p]? = some (.cells #[v0, c1, c2, c3, c4] t (0, 0)) := by rw [heap_setCell_same _ p 0 _ _ v0 h0]; rfl
  have h2 : ((w.setCell ⟨p, 0, none⟩ v0).setCell ⟨p, 1, none⟩ v1).heap[p]? = some (.cells #[v0, v1, c2, c3, c4] t (0, 0)) := by rw [heap_setCell_same _ p 1 _ _ v1 h1]; rfl
  have h3 : (((w.setCell ⟨p, 0, none⟩ v0).setCell ⟨p, 1, none⟩ v1).setCell ⟨p, 2, none⟩ v2).heap[p]? = some (.cells #[v0, v1, v2, c3, c4] t (0, 0)) := by rw [heap_setCell_same _ p 2 _ _ v2 h2]; rfl
  have h4 : ((((w.setCell ⟨p, 0, none⟩ v0).setCell ⟨p, 1, none⟩ v1).setCell ⟨p, 2, none⟩ v2).setCell ⟨p, 3, none⟩ v3).heap[p]? = some (.cells #[v0, v1, v2, v3, c4] t (0, 0)) := by rw [heap_setCell_same _ p 3 _ _ v3 h3]; rfl
  have h5 : (((((w.setCell ⟨p, 0, none⟩ v0).setCell ⟨p, 1, none⟩ v1).setCell ⟨p, 2, none⟩ v2).setCell ⟨p, 3, none⟩ v3).setCell ⟨p, 4, none⟩ v4).heap[p]? = some (.cells #[v0, v1, v2, v3, v4] t (0, 0)) := by rw [heap_setCell_same _ p 4 _ _ v4 h4]; rfl
  exact h5
theorem keepS5 (w : World) (p : Nat) (v0 v1 v2 v3 v4 : Value) : Keep (fun b => b = p) w (((((w.setCell ⟨p, 0, none⟩ v0).setCell ⟨p, 1, none⟩ v1).setCell ⟨p, 2, none⟩ v2).setCell ⟨p, 3, none⟩ v3).setCell ⟨p, 4, none⟩ v4) :=
  Keep.setCell (S := fun b => b = p) (p := ⟨p, 4, none⟩) (Keep.setCell (S := fun b => b = p) (p := ⟨p, 3, none⟩) (Keep.setCell (S := fun b => b = p) (p := ⟨p, 2, none⟩) (Keep.setCell (S := fun b => b = p) (p := ⟨p, 1, none⟩) (Keep.setCell (S := fun b => b = p) (p := ⟨p, 0, none⟩) (Keep.refl _ _) (.inr rfl) _) (.inr rfl) _) (.inr rfl) _) (.inr rfl) _) (.inr rfl) _
theorem cells6 {w : World} {p : Nat} {t : TypeId} {c0 c1 c2 c3 c4 c5 : Value} (h : w.heap[p]? = some (.cells #[c0, c1, c2, c3, c4, c5] t (0, 0))) :
    w.cell? ⟨p, 0, none⟩ = some c0 ∧ w.cell? ⟨p, 1, none⟩ = some c1 ∧ w.cell? ⟨p, 2, none⟩ = some c2 ∧ w.cell? ⟨p, 3, none⟩ = some c3 ∧ w.cell? ⟨p, 4, none⟩ = some c4 ∧ w.cell? ⟨p, 5, none⟩ = some c5 ∧ ∀ i, w.frozen? ⟨p, i, none⟩ = false :=
  ⟨by rw [cell_of_row w p 0 _ _ _ h]; rfl, by rw [cell_of_row w p 1 _ _ _ h]; rfl, by rw [cell_of_row w p 2 _ _ _ h]; rfl, by rw [cell_of_row w p 3 _ _ _ h]; rfl, by rw [cell_of_row w p 4 _ _ _ h]; rfl, by rw [cell_of_row w p 5 _ _ _ h]; rfl, fun i => frozen_of_row w p i _ _ h⟩
theorem stored6 {w : World} {p : Nat} {t : TypeId} {c0 c1 c2 c3 c4 c5 : Value} (h : w.heap[p]? = some (.cells #[c0, c1, c2, c3, c4, c5] t (0, 0))) (v0 v1 v2 v3 v4 v5 : Value) :
    ((((((w.setCell ⟨p, 0, none⟩ v0).setCell ⟨p, 1, none⟩ v1).setCell ⟨p, 2, none⟩ v2).setCell ⟨p, 3, none⟩ v3).setCell ⟨p, 4, none⟩ v4).setCell ⟨p, 5, none⟩ v5).heap[p]? = some (.cells #[v0, v1, v2, v3, v4, v5] t (0, 0)) := by
  have h0 := h
  have h1 : (w.setCell ⟨p, 0, none⟩ v0).heap[p]? = some (.cells #[v0, c1, c2, c3, c4, c5] t (0, 0)) := by rw [heap_setCell_same _ p 0 _ _ v0 h0]; rfl
  have h2 : ((w.setCell ⟨p, 0, none⟩ v0).setCell ⟨p, 1, none⟩ v1).heap[p]? = some (.cells #[v0, v1, c2, c3, c4, c5] t (0, 0)) := by rw [heap_setCell_same _ p 1 _ _ v1 h1]; rfl
  have h3 : (((w.setCell ⟨p, 0, none⟩ v0).setCell ⟨p, 1, none⟩ v1).setCell ⟨p, 2, none⟩ v2).heap[p]? = some (.cells #[v0, v1, v2, c3, c4, c5] t (0, 0)) := by rw [heap_setCell_same _ p 2 _ _ v2 h2]; rfl
  have h4 : ((((w.setCell ⟨p, 0, none⟩ v0).setCell ⟨p, 1, none⟩ v1).setCell ⟨p, 2, none⟩ v2).setCell ⟨p, 3, none⟩ v3).heap[p]? = some (.cells #[v0, v1, v2, v3, c4, c5] t (0, 0)) := by rw [heap_setCell_same _ p 3 _ _ v3 h3]; rfl
  have h5 : (((((w.setCell ⟨p, 0, none⟩ v0).setCell ⟨p, 1, none⟩ v1).setCell ⟨p, 2, none⟩ v2).setCell ⟨p, 3, none⟩ v3).setCell ⟨p, 4, none⟩ v4).heap[p]? = some (.cells #[v0, v1, v2, v3, v4, c5] t (0, 0)) := by rw [heap_setCell_same _ p 4 _ _ v4 h4]; rfl
  have h6 : ((((((w.setCell ⟨p, 0, none⟩ v0).setCell ⟨p, 1, none⟩ v1).setCell ⟨p, 2, none⟩ v2).setCell ⟨p, 3, none⟩ v3).setCell ⟨p, 4, none⟩ v4).setCell ⟨p, 5, none⟩ v5).heap[p]? = some (.cells #[v0, v1, v2, v3, v4, v5] t (0, 0)) := by rw [heap_setCell_same _ p 5 _ _ v5 h5]; rfl
  exact h6
theorem keepS6 (w : World) (p : Nat) (v0 v1 v2 v3 v4 v5 : Value) : Keep (fun b => b = p) w ((((((w.setCell ⟨p, 0, none⟩ v0).setCell ⟨p, 1, none⟩ v1).setCell ⟨p, 2, none⟩ v2).setCell ⟨p, 3, none⟩ v3).setCell ⟨p, 4, none⟩ v4).setCell ⟨p, 5, none⟩ v5) :=
  Keep.setCell (S := fun b => b = p) (p := ⟨p, 5, none⟩) (Keep.setCell (S := fun b => b = p) (p := ⟨p, 4, none⟩) (Keep.setCell (S := fun b => b = p) (p := ⟨p, 3, none⟩) (Keep.setCell (S := fun b => b = p) (p := ⟨p, 2, none⟩) (Keep.setCell (S := fun b => b = p) (p := ⟨p, 1, none⟩) (Keep.setCell (S := fun b => b = p) (p := ⟨p, 0, none⟩) (Keep.refl _ _) (.inr rfl) _) (.inr rfl) _) (.inr rfl) _) (.inr rfl) _) (.inr rfl) _) (.inr rfl) _
theorem cells7 {w : World} {p : Nat} {t : TypeId} {c0 c1 c2 c3 c4 c5 c6 : Value} (h : w.heap[p]? = some (.cells #[c0, c1, c2, c3, c4, c5, c6] t (0, 0))) :
    w.cell? ⟨p, 0, none⟩ = some c0 ∧ w.cell? ⟨p, 1, none⟩ = some c1 ∧ w.cell? ⟨p, 2, none⟩ = some c2 ∧ w.cell? ⟨p, 3, none⟩ = some c3 ∧ w.cell? ⟨p, 4, none⟩ = some c4 ∧ w.cell? ⟨p, 5, none⟩ = some c5 ∧ w.cell? ⟨p, 6, none⟩ = some c6 ∧ ∀ i, w.frozen? ⟨p, i, none⟩ = false :=
  ⟨by rw [cell_of_row w p 0 _ _ _ h]; rfl, by rw [cell_of_row w p 1 _ _ _ h]; rfl, by rw [cell_of_row w p 2 _ _ _ h]; rfl, by rw [cell_of_row w p 3 _ _ _ h]; rfl, by rw [cell_of_row w p 4 _ _ _ h]; rfl, by rw [cell_of_row w p 5 _ _ _ h]; rfl, by rw [cell_of_row w p 6 _ _ _ h]; rfl, fun i => frozen_of_row w p i _ _ h⟩
theorem stored7 {w : World} {p : Nat} {t : TypeId} {c0 c1 c2 c3 c4 c5 c6 : Value} (h : w.heap[p]? = some (.cells #[c0, c1, c2, c3, c4, c5, c6] t (0, 0))) (v0 v1 v2 v3 v4 v5 v6 : Value) :
    (((((((w.setCell ⟨p, 0, none⟩ v0).setCell ⟨p, 1, none⟩ v1).setCell ⟨p, 2, none⟩ v2).setCell ⟨p, 3, none⟩ v3).setCell ⟨p, 4, none⟩ v4).setCell ⟨p, 5, none⟩ v5).setCell ⟨p, 6, none⟩ v6).heap[p]? = some (.cells #[v0, v1, v2, v3, v4, v5, v6] t (0, 0)) := by
  have h0 := h
  have h1 : (w.setCell ⟨p, 0, none⟩ v0).heap[p]? = some (.cells #[v0, c1, c2, c3, c4, c5, c6] t (0, 0)) := by rw [heap_setCell_same _ p 0 _ _ v0 h0]; rfl
  have h2 : ((w.setCell ⟨p, 0, none⟩ v0).setCell ⟨p, 1, none⟩ v1).heap[p]? = some (.cells #[v0, v1, c2, c3, c4, c5, c6] t (0, 0)) := by rw [heap_setCell_same _ p 1 _ _ v1 h1]; rfl
  have h3 : (((w.setCell ⟨p, 0, none⟩ v0).setCell ⟨p, 1, none⟩ v1).setCell ⟨p, 2, none⟩ v2).heap[p]? = some (.cells #[v0, v1, v2, c3, c4, c5, c6] t (0, 0)) := by rw [heap_setCell_same _ p 2 _ _ v2 h2]; rfl
  have h4 : ((((w.setCell ⟨p, 0, none⟩ v0).setCell ⟨p, 1, none⟩ v1).setCell ⟨p, 2, none⟩ v2).setCell ⟨p, 3, none⟩ v3).heap[p]? = some (.cells #[v0, v1, v2, v3, c4, c5, c6] t (0, 0)) := by rw [heap_setCell_same _ p 3 _ _ v3 h3]; rfl
  have h5 : (((((w.setCell ⟨p, 0, none⟩ v0).setCell ⟨p, 1, none⟩ v1).setCell ⟨p, 2, none⟩ v2).setCell ⟨p, 3, none⟩ v3).setCell ⟨p, 4, none⟩ v4).heap[p]? = some (.cells #[v0, v1, v2, v3, v4, c5, c6] t (0, 0)) := by rw [heap_setCell_same _ p 4 _ _ v4 h4]; rfl
  have h6 : ((((((w.setCell ⟨p, 0, none⟩ v0).setCell ⟨p, 1, none⟩ v1).setCell ⟨p, 2, none⟩ v2).setCell ⟨p, 3, none⟩ v3).setCell ⟨p, 4, none⟩ v4).setCell ⟨p, 5, none⟩ v5).heap[p]? = some (.cells #[v0, v1, v2, v3, v4, v5, c6] t (0, 0)) := by rw [heap_setCell_same _ p 5 _ _ v5 h5]; rfl
  have h7 : (((((((w.setCell ⟨p, 0, none⟩ v0).setCell ⟨p, 1, none⟩ v1).setCell ⟨p, 2, none⟩ v2).setCell ⟨p, 3, none⟩ v3).setCell ⟨p, 4, none⟩ v4).setCell ⟨p, 5, none⟩ v5).setCell ⟨p, 6, none⟩ v6).heap[p]? = some (.cells #[v0, v1, v2, v3, v4, v5, v6] t (0, 0)) := by rw [heap_setCell_same _ p 6 _ _ v6 h6]; rfl
  exact h7
theorem keepS7 (w : World) (p : Nat) (v0 v1 v2 v3 v4 v5 v6 : Value) : Keep (fun b => b = p) w (((((((w.setCell ⟨p, 0, none⟩ v0).setCell ⟨p, 1, none⟩ v1).setCell ⟨p, 2, none⟩ v2).setCell ⟨p, 3, none⟩ v3).setCell ⟨p, 4, none⟩ v4).setCell ⟨p, 5, none⟩ v5).setCell ⟨p, 6, none⟩ v6) :=
  Keep.setCell (S := fun b => b = p) (p := ⟨p, 6, none⟩) (Keep.setCell (S := fun b => b = p) (p := ⟨p, 5, none⟩) (Keep.setCell (S := fun b => b = p) (p := ⟨p, 4, none⟩) (Keep.setCell (S := fun b => b = p) (p := ⟨p, 3, none⟩) (Keep.setCell (S := fun b => b = p) (p := ⟨p, 2, none⟩) (Keep.setCell (S := fun b => b = p) (p := ⟨p, 1, none⟩) (Keep.setCell (S := fun b => b = p) (p := ⟨p, 0, none⟩) (Keep.refl _ _) (.inr rfl) _) (.inr rfl) _) (.inr rfl) _) (.inr rfl) _) (.inr rfl) _) (.inr rfl) _) (.inr rfl) _
theorem cells8 {w : World} {p : Nat} {t : TypeId} {c0 c1 c2 c3 c4 c5 c6 c7 : Value} (h : w.heap[p]? = some (.cells #[c0, c1, c2, c3, c4, c5, c6, c7] t (0, 0))) :
    w.cell? ⟨p, 0, none⟩ = some c0 ∧ w.cell? ⟨p, 1, none⟩ = some c1 ∧ w.cell? ⟨p, 2, none⟩ = some c2 ∧ w.cell? ⟨p, 3, none⟩ = some c3 ∧ w.cell? ⟨p, 4, none⟩ = some c4 ∧ w.cell? ⟨p, 5, none⟩ = some c5 ∧ w.cell? ⟨p, 6, none⟩ = some c6 ∧ w.cell? ⟨p, 7, none⟩ = some c7 ∧ ∀ i, w.frozen? ⟨p, i, none⟩ = false :=
  ⟨by rw [cell_of_row w p 0 _ _ _ h]; rfl, by rw [cell_of_row w p 1 _ _ _ h]; rfl, by rw [cell_of_row w p 2 _ _ _ h]; rfl, by rw [cell_of_row w p 3 _ _ _ h]; rfl, by rw [cell_of_row w p 4 _ _ _ h]; rfl, by rw [cell_of_row w p 5 _ _ _ h]; rfl, by rw [cell_of_row w p 6 _ _ _ h]; rfl, by rw [cell_of_row w p 7 _ _ _ h]; rfl, fun i => frozen_of_row w p i _ _ h⟩
theorem stored8 {w : World} {p : Nat} {t : TypeId} {c0 c1 c2 c3 c4 c5 c6 c7 : Value} (h : w.heap[p]? = some (.cells #[c0, c1, c2, c3, c4, c5, c6, c7] t (0, 0))) (v0 v1 v2 v3 v4 v5 v6 v7 : Value) :
    ((((((((w.setCell ⟨p, 0, none⟩ v0).setCell ⟨p, 1, none⟩ v1).setCell ⟨p, 2, none⟩ v2).setCell ⟨p, 3, none⟩ v3).setCell ⟨p, 4, none⟩ v4).setCell ⟨p, 5, none⟩ v5).setCell ⟨p, 6, none⟩ v6).setCell ⟨p, 7, none⟩ v7).heap[p]? = some (.cells #[v0, v1, v2, v3, v4, v5, v6, v7] t (0, 0)) := by
  have h0 := h
  have h1 : (w.setCell ⟨p, 0, none⟩ v0).heap[p]? = some (.cells #[v0, c1, c2, c3, c4, c5, c6, c7] t (0, 0)) := by rw [heap_setCell_same _ p 0 _ _ v0 h0]; rfl
  have h2 : ((w.setCell ⟨p, 0, none⟩ v0).setCell ⟨p, 1, none⟩ v1).heap[p]? = some (.cells #[v0, v1, c2, c3, c4, c5, c6, c7] t (0, 0)) := by rw [heap_setCell_same _ p 1 _ _ v1 h1]; rfl
  have h3 : (((w.setCell ⟨p, 0, none⟩ v0).setCell ⟨p, 1, none⟩ v1).setCell ⟨p, 2, none⟩ v2).heap[p]? = some (.cells #[v0, v1, v2, c3, c4, c5, c6, c7] t (0, 0)) := by rw [heap_setCell_same _ p 2 _ _ v2 h2]; rfl
  have h4 : ((((w.setCell ⟨p, 0, none⟩ v0).setCell ⟨p, 1, none⟩ v1).setCell ⟨p, 2, none⟩ v2).setCell ⟨p, 3, none⟩ v3).heap[p]? = some (.cells #[v0, v1, v2, v3, c4, c5, c6, c7] t (0, 0)) := by rw [heap_setCell_same _ p 3 _ _ v3 h3]; rfl
  have h5 : (((((w.setCell ⟨p, 0, none⟩ v0).setCell ⟨p, 1, none⟩ v1).setCell ⟨p, 2, none⟩ v2).setCell ⟨p, 3, none⟩ v3).setCell ⟨p, 4, none⟩ v4).heap[p]? = some (.cells #[v0, v1, v2, v3, v4, c5, c6, c7] t (0, 0)) := by rw [heap_setCell_same _ p 4 _ _ v4 h4]; rfl
  have h6 : ((((((w.setCell ⟨p, 0, none⟩ v0).setCell ⟨p, 1, none⟩ v1).setCell ⟨p, 2, none⟩ v2).setCell ⟨p, 3, none⟩ v3).setCell ⟨p, 4, none⟩ v4).setCell ⟨p, 5, none⟩ v5).heap[p]? = some (.cells #[v0, v1, v2, v3, v4, v5, c6, c7] t (0, 0)) := by rw [heap_setCell_same _ p 5 _ _ v5 h5]; rfl
  have h7 : (((((((w.setCell ⟨p, 0, none⟩ v0).setCell ⟨p, 1, none⟩ v1).setCell ⟨p, 2, none⟩ v2).setCell ⟨p, 3, none⟩ v3).setCell ⟨p, 4, none⟩ v4).setCell ⟨p, 5, none⟩ v5).setCell ⟨p, 6, none⟩ v6).heap[p]? = some (.cells #[v0, v1, v2, v3, v4, v5, v6, c7] t (0, 0)) := by rw [heap_setCell_same _ p 6 _ _ v6 h6]; rfl
  have h8 : ((((((((w.setCell ⟨p, 0, none⟩ v0).setCell ⟨p, 1, none⟩ v1).setCell ⟨p, 2, none⟩ v2).setCell ⟨p, 3, none⟩ v3).setCell ⟨p, 4, none⟩ v4).setCell ⟨p, 5, none⟩ v5).setCell ⟨p, 6, none⟩ v6).setCell ⟨p, 7, none⟩ v7).heap[p]? = some (.cells #[v0, v1, v2, v3, v4, v5, v6, v7] t (0, 0)) := by rw [heap_setCell_same _ p 7 _ _ v7 h7]; rfl
  exact h8
theorem keepS8 (w : World) (p : Nat) (v0 v1 v2 v3 v4 v5 v6 v7 : Value) : Keep (fun b => b = p) w ((((((((w.setCell ⟨p, 0, none⟩ v0).setCell ⟨p, 1, none⟩ v1).setCell ⟨p, 2, none⟩ v2).setCell ⟨p, 3, none⟩ v3).setCell ⟨p, 4, none⟩ v4).setCell ⟨p, 5, none⟩ v5).setCell ⟨p, 6, none⟩ v6).setCell ⟨p, 7, none⟩ v7) :=
  Keep.setCell (S := fun b => b = p) (p := ⟨p, 7, none⟩) (Keep.setCell (S := fun b => b = p) (p := ⟨p, 6, none⟩) (Keep.setCell (S := fun b => b = p) (p := ⟨p, 5, none⟩) (Keep.setCell (S := fun b => b = p) (p := ⟨p, 4, none⟩) (Keep.setCell (S := fun b => b = p) (p := ⟨p, 3, none⟩) (Keep.setCell (S := fun b => b = p) (p := ⟨p, 2, none⟩) (Keep.setCell (S := fun b => b = p) (p := ⟨p, 1, none⟩) (Keep.setCell (S := fun b => b = p) (p := ⟨p, 0, none⟩) (Keep.refl _ _) (.inr rfl) _) (.inr rfl) _) (.inr rfl) _) (.inr rfl) _) (.inr rfl) _) (.inr rfl) _) (.inr rfl) _) (.inr rfl) _

theorem heap_drew' (w : World) : w.drew.heap = w.heap := rfl
theorem heap_alloc_at (w : World) (o : Obj) (k : Nat) (h : k = w.heap.size) : (w.alloc o).heap[k]? = some o := by subst h; exact heap_alloc_new w o
theorem cell_away {w : World} {g k p o : Nat} (h : g ≠ p) (u : Value) : (w.setCell ⟨g, k, none⟩ u).cell? ⟨p, o, none⟩ = w.cell? ⟨p, o, none⟩ :=
  World.cell?_of_block (Below.heap_setCell w ⟨g, k, none⟩ u p (fun e => h e.symm))
theorem frozen_away {w : World} {g k p o : Nat} (h : g ≠ p) (u : Value) : (w.setCell ⟨g, k, none⟩ u).frozen? ⟨p, o, none⟩ = w.frozen? ⟨p, o, none⟩ :=
  World.frozen?_of_block (Below.heap_setCell w ⟨g, k, none⟩ u p (fun e => h e.symm))
theorem wp_world {P : Program} {c : Code} {Q : Exit → Act → World → Prop} {a : Act} {w : World} {S : World → Prop} (h : S w) (k : ∀ w3, S w3 → Code.wp P c Q a w3) : Code.wp P c Q a w := k w h
theorem src_at {P : Program} {tx e' : TypeId} {W : World} {g : Nat} {x : Value} (hk : P.underlying tx = some (.slice e')) (h1 : x.oneCell' = true) (hc : W.cell? ⟨g, 0, none⟩ = some x) : Src P 1 tx (.slice (some ⟨g, 0, none⟩) 1 1) 1 [x] W :=
  Src.ofSlice _ hk _ 1 1 [x] rfl (fun j u hu => by
    match j, hu with
    | 0, hu => simp at hu; subst hu; simpa [Addr.add] using hc) (fun u hu => by simp at hu; subst hu; exact h1)
end Go.Proofs.YtdeifjnhbdkkgaaGreatDoor
namespace Go.Proofs.YtdeifjnhbdkkgaaGreatDoor
open Go.RowKit Go.Shelf
set_option maxRecDepth 100000
set_option linter.unusedVariables false

theorem Keep.putObj {S : Nat → Prop} {w w1 : World} (h : Keep S w w1) {l : Nat} (hl : w.heap.size ≤ l ∨ S l) (o : Obj) : Keep S w (w1.putObj l o) :=
  ⟨h.os, h.tape, h.output, by simpa using h.size, fun k hk hn => (World.putObj_heap_other (fun e => by subst e; rcases hl with hl | hl; exact absurd hk (by omega); exact hn hl)).trans (h.block k hk hn)⟩
/-- The two blocks of book-keeping lie as they lay. -/
def Same2 (m : Nat) (W W' : World) : Prop := W'.heap[m]? = W.heap[m]? ∧ W'.heap[m + 1]? = W.heap[m + 1]?
theorem Same2.trans {m : Nat} {A B C : World} (h : Same2 m A B) (k : Same2 m B C) : Same2 m A C := ⟨k.1.trans h.1, k.2.trans h.2⟩
theorem Same2.keep {m : Nat} {S : Nat → Prop} {A B : World} (h : Keep S A B) (hm : m + 1 < A.heap.size) (h0 : ¬ S m) (h1 : ¬ S (m + 1)) : Same2 m A B := ⟨h.block _ (by omega) h0, h.block _ hm h1⟩
/-- How a round may be left: it goes on; or it returns. -/
def RoundEnd {σ : Type} (m : Nat) (Kp : World → World → Prop) (I : σ → World → Prop) (Ix : World → Prop) (s : σ) (W : World) : Exit → Act → World → Prop
  | .normal, _, W' => Same2 m W W' ∧ Kp W W' ∧ I s W'
  | .ret, _, W' => Same2 m W W' ∧ Ix W'
  | _, _, _ => False
theorem wp_range {σ α : Type} {P : Program} {g : Operand} {ps : Array Tmp} {assign body : Code} {Q : Exit → Act → World → Prop} {a : Act} {w : World}
    {gf : Nat} {lb : Array Value} (hg : a.eval g = .func (.func gf) #[] lb) (eg : ∀ args w, (callFunc gf args).run P w = .ok (.enter gf args) w)
    (encs : α → Array Value) (hps : ∀ x, (encs x).size = ps.size) (p : Nat) (hp : p < w.heap.size) (Kp : World → World → Prop) (hKt : ∀ A B C, Kp A B → Kp B C → Kp A C) (hKb : ∀ W o, Kp W (W.putObj (w.heap.size + 1) o))
    (Hx : σ → α → World → World → Prop) (nxt : σ → α → σ) (S : σ → Prop) (s0 : σ)
    (hseq : ∀ (l : Nat) (J : σ → World → Prop) (Jx : World → Prop) (W : World), Keep (fun _ => False) w W → w.heap.size + 2 ≤ W.heap.size → (∀ s A B, J s A → Keep (fun r => r = p) A B → J s B) → (∀ A B, Jx A → Keep (fun r => r = p) A B → Jx B) →
      (∀ s x W0 W1, J s W0 → Keep (fun _ => False) W0 W1 → Hx s x W0 W1 → YieldAt Fence.wide 3 P l (encs x) W1 fun e W' => (e = .returned (.bool true) ∧ J (nxt s x) W' ∧ Kp W1 W') ∨ (e = .returned (.bool false) ∧ Jx W')) →
      J s0 W → Calls P gf (#[.func (.yield l) #[] #[]] ++ lb) W fun e W' => (∃ v, e = .returned v) ∧ ((∃ s, S s ∧ J s W') ∨ Jx W'))
    (I : σ → World → Prop) (Ix : World → Prop) (hI : ∀ s A B, I s A → Keep (fun r => r = p ∨ r = w.heap.size ∨ r = w.heap.size + 1) A B → I s B) (hIx : ∀ A B, Ix A → Keep (fun r => r = p ∨ r = w.heap.size ∨ r = w.heap.size + 1) A B → Ix B) (h0 : I s0 w)
    (hround : ∀ (l : Nat) (s : σ) (x : α) (W0 W : World) (K : Act → World → Prop), I s W0 → Keep (fun _ => False) W0 W → Hx s x W0 W → w.heap.size + 1 < W0.heap.size →
      (∀ a1 W1, Same2 w.heap.size W W1 → Kp W W1 → (∀ W2, Keep (fun r => r = w.heap.size + 1) W1 W2 → body.wpIn (Fence.wide.inRound l) 3 P (RoundEnd w.heap.size Kp I Ix (nxt s x) W2) a1 W2) → K a1 W1) →
      assign.wpIn (Fence.wide.inRound l) 3 P (Exit.then K (fun _ _ _ => False)) { tmps := (ps.zip (encs x)).foldl (fun t (p, v) => t.setIfInBounds p v) a.tmps, defers := [] } W)
    (hdone : ∀ (s : σ) (W : World), S s → I s W → W.heap[w.heap.size]? = some (.deferred (some [])) → Q .normal { a with defers := { target := .collected w.heap.size, args := #[] } :: a.defers } W)
    (hstop : ∀ (W : World), Ix W → W.heap[w.heap.size]? = some (.deferred (some [])) → Q .ret { a with defers := { target := .collected w.heap.size, args := #[] } :: a.defers } W) :
    (Code.rangeFunc g ps assign body).wp P Q a w := by
  refine (wpIn_wide (n := 3)).1 (wpIn_rangeFunc ?_)
  intro fn _
  obtain ⟨rec, hrec⟩ : ∃ rec : LoopState → Option Code → Loop, rec = fun st pe => { state := st, pending := pe, fn, tmps := a.tmps, params := ps, assign, body, defers := w.heap.size } := ⟨_, rfl⟩
  obtain ⟨W1, hW1⟩ : ∃ W1, (w.alloc (.deferred (some []))).alloc (.loop (rec .ready none)) = W1 := ⟨_, rfl⟩
  have hL1 : W1.heap[w.heap.size + 1]? = some (.loop (rec .ready none)) := by
    rw [← hW1]; have := World.alloc_heap_new (w.alloc (.deferred (some []))) (.loop (rec .ready none)); rwa [World.size_alloc] at this
  have hK1 : W1.heap[w.heap.size]? = some (.deferred (some [])) := by
    rw [← hW1]; exact (Below.heap_alloc _ _ _ (by simp)).trans (World.alloc_heap_new w _)
  have hkw : Keep (fun _ => False) w W1 := by rw [← hW1]; exact ((Keep.refl _ w).alloc _).alloc _
  have hI1 : I s0 W1 := hI s0 w W1 h0 (hkw.mono (fun _ _ h => h.elim))
  have pm : p ≠ w.heap.size ∧ p ≠ w.heap.size + 1 := by omega
  refine ⟨w.heap.size + 1, [{ target := .collected w.heap.size, args := #[] }], W1, { target := .fn (.func gf) lb, args := #[.func (.yield (w.heap.size + 1)) #[] #[]] }, W1, gf,
    #[.func (.yield (w.heap.size + 1)) #[] #[]] ++ lb, W1, ?_, ?_, fun _ _ => trivial, ?_, fun h => by simp [Fence.wide] at h, ?_⟩
  · rw [← hW1, hrec]; exact run_enterLoop_outer _ _ _ _ _
  · simp only [resolve, hg]
    simp [go_sem]
  · simp [invoke, go_sem, eg]
  · refine callsIn_wide.2 ((hseq (w.heap.size + 1)
      (fun s W => I s W ∧ W.heap[w.heap.size + 1]? = some (.loop (rec .ready none)) ∧ W.heap[w.heap.size]? = some (.deferred (some [])))
      (fun W => Ix W ∧ W.heap[w.heap.size + 1]? = some (.loop (rec .done (some .ret))) ∧ W.heap[w.heap.size]? = some (.deferred (some [])))
      W1 hkw (Array.getElem?_eq_some_iff.1 hL1).1
      (fun s A B hs hk => ⟨hI s A B hs.1 (hk.mono (fun r _ h => .inl h)), (hk.block _ (Array.getElem?_eq_some_iff.1 hs.2.1).1 (Ne.symm pm.2)).trans hs.2.1, (hk.block _ (Array.getElem?_eq_some_iff.1 hs.2.2).1 (Ne.symm pm.1)).trans hs.2.2⟩)
      (fun A B hs hk => ⟨hIx A B hs.1 (hk.mono (fun r _ h => .inl h)), (hk.block _ (Array.getElem?_eq_some_iff.1 hs.2.1).1 (Ne.symm pm.2)).trans hs.2.1, (hk.block _ (Array.getElem?_eq_some_iff.1 hs.2.2).1 (Ne.symm pm.1)).trans hs.2.2⟩)
      ?_ ⟨hI1, hL1, hK1⟩).mono ?_)
    · rintro s x W0 W ⟨hi, hl, hk⟩ hk0 hx
      have hlt : w.heap.size + 1 < W0.heap.size := (Array.getElem?_eq_some_iff.1 hl).1
      replace hl := (hk0.block _ hlt (fun h => h)).trans hl
      replace hk := (hk0.block _ (Array.getElem?_eq_some_iff.1 hk).1 (fun h => h)).trans hk
      have hy := run_yield (P := P) (args := encs x) hl (by rw [hrec]; exact hps x)
      rw [hrec] at hy
      refine ⟨fn, _, assign, body, hy, roundIn_of_wpIn trivial (Code.wpIn_mono ?_ (hround _ s x W0 W (fun a1 W1 => Same2 w.heap.size W W1 ∧ Kp W W1 ∧ ∀ W2, Keep (fun r => r = w.heap.size + 1) W1 W2 → body.wpIn (Fence.wide.inRound _) 3 P (RoundEnd w.heap.size Kp I Ix (nxt s x) W2) a1 W2) hi hk0 hx hlt (fun _ _ h1 h2 h3 => ⟨h1, h2, h3⟩)))⟩
      rintro e a1 Wa he
      cases e with
      | normal =>
        obtain ⟨hs2, hka, hb⟩ := he
        have hl1 := hs2.2.trans hl
        have hk1 := hs2.1.trans hk
        refine ⟨_, run_beginRound hl1 (by rw [hrec]), ?_⟩
        have hl2 : (Wa.putObj (w.heap.size + 1) (.loop { rec .ready none with state := .busy })).heap[w.heap.size + 1]? = some (.loop { rec .ready none with state := .busy }) := World.putObj_heap_same (Array.getElem?_eq_some_iff.1 hl1).1
        have hk2 : (Wa.putObj (w.heap.size + 1) (.loop { rec .ready none with state := .busy })).heap[w.heap.size]? = some (.deferred (some [])) := (World.putObj_heap_other (by omega)).trans hk1
        refine Code.wpIn_mono ?_ (hb _ ((Keep.refl (fun r => r = w.heap.size + 1) Wa).putObj (.inr rfl) _))
        have fin : ∀ (jump : Option Code) (W3 : World), Same2 w.heap.size (Wa.putObj (w.heap.size + 1) (.loop { rec .ready none with state := .busy })) W3 →
            (Instr.endRound (w.heap.size + 1) jump).run P W3 = .ok (.bool jump.isNone) (W3.putObj (w.heap.size + 1) (.loop (rec (if jump.isNone then .ready else .done) jump))) ∧
            (W3.putObj (w.heap.size + 1) (.loop (rec (if jump.isNone then .ready else .done) jump))).heap[w.heap.size + 1]? = some (.loop (rec (if jump.isNone then .ready else .done) jump)) ∧
            (W3.putObj (w.heap.size + 1) (.loop (rec (if jump.isNone then .ready else .done) jump))).heap[w.heap.size]? = some (.deferred (some [])) := fun jump W3 hk3 => by
          have hl3 := hk3.2.trans hl2
          have := run_endRound (P := P) jump hl3
          rw [hrec] at this ⊢
          exact ⟨this, World.putObj_heap_same (Array.getElem?_eq_some_iff.1 hl3).1, (World.putObj_heap_other (by omega)).trans (hk3.1.trans hk2)⟩
        rintro e a3 W3 hp3
        cases e with
        | normal =>
          obtain ⟨h3, hkp3, hi3⟩ := hp3
          obtain ⟨hr, hl4, hk4⟩ := fin none W3 h3
          exact ⟨_, _, hr, .inl ⟨rfl, ⟨hI _ _ _ hi3 ((Keep.refl _ W3).putObj (.inr (.inr (.inr rfl))) _), hl4, hk4⟩, hKt _ _ _ hka (hKt _ _ _ (hKt _ _ _ (hKb _ _) hkp3) (hKb _ _))⟩⟩
        | ret =>
          obtain ⟨h3, hi3⟩ := hp3
          obtain ⟨hr, hl4, hk4⟩ := fin (some .ret) W3 h3
          exact ⟨_, _, hr, .inr ⟨rfl, hIx _ _ hi3 ((Keep.refl _ W3).putObj (.inr (.inr (.inr rfl))) _), hl4, hk4⟩⟩
        | exit id => exact hp3.elim
        | goto t => exact hp3.elim
        | panic ch => exact hp3.elim
        | outgrown => exact hp3.elim
      | exit id => exact he.elim
      | ret => exact he.elim
      | goto t => exact he.elim
      | panic ch => exact he.elim
      | outgrown => exact he.elim
    · rintro e W2 ⟨⟨v, rfl⟩, (⟨s, hS, hi, hl, hk⟩ | ⟨hi, hl, hk⟩)⟩
      · exact ⟨none, _, by have := run_endLoop (P := P) hl (by rw [hrec]; simp); rw [hrec] at this; exact this, hdone s _ hS (hI _ _ _ hi ((Keep.refl _ W2).putObj (.inr (.inr (.inr rfl))) _)) ((World.putObj_heap_other (by omega)).trans hk)⟩
      · exact ⟨some .ret, _, by have := run_endLoop (P := P) hl (by rw [hrec]; simp); rw [hrec] at this; exact this, wpIn_wide.2 (wp_ret (hstop _ (hIx _ _ hi ((Keep.refl _ W2).putObj (.inr (.inr (.inr rfl))) _)) ((World.putObj_heap_other (by omega)).trans hk)))⟩

/-- A region that draws, in a round: as in any other frame, where no operation is a defer. -/
theorem oper_in {P : Program} {o : Oper} {a : Act} {w : World} {K : Act → World → Prop} {Q : Exit → Act → World → Prop} {n l : Nat} (hd : ∀ c, o.op ≠ .defer c) (h : o.wp P a w K Q) : o.wpIn (Fence.wide.inRound l) n P a w K Q := by
  refine ⟨fun _ _ => trivial, ?_⟩
  unfold Oper.wp at h
  have hs : Oper.semAt (Fence.wide.inRound l).round a.eval o = execOp a.eval o := Oper.semAt_eq _ _ _ hd
  rw [hs]
  generalize (execOp a.eval o).run P w = r at *
  cases r with
  | ok x w' =>
    cases x <;> simp only [Oper.upon, Oper.uponIn] at h ⊢ <;>
      first
        | exact h
        | exact h.elim
        | exact ⟨fun h => by simp [Fence.wide, Fence.inRound] at h, CallsIn.inRound l (callsIn_wide.2 h)⟩
        | exact ⟨fun h => by simp [Fence.wide, Fence.inRound] at h, fun c cs _ => by obtain ⟨v, w', hr, hs⟩ := h c cs; exact ⟨v, w', hr, stepsIn_wide.2 hs⟩⟩
  | halt x w' => cases x <;> simp only [Oper.upon, Oper.uponIn] at h ⊢ <;> exact h
def noDefer (ops : Array Oper) : Bool := ops.all fun o => match o.op with | .defer _ => false | _ => true
theorem noDefer_of {ops : Array Oper} (h : noDefer ops = true) {i : Nat} {o : Oper} (hi : ops[i]? = some o) (c : Call) : o.op ≠ .defer c := by
  unfold noDefer at h
  rw [Array.all_eq_true'] at h
  have := h o (Array.mem_of_getElem? hi)
  intro e
  rw [e] at this
  cases this
theorem any_in {P : Program} {md : Region.Mode} {ops : Array Oper} {Q : Exit → Act → World → Prop} {n l : Nat} (hd : noDefer ops = true) (hl : ¬ LetsOut Q) :
    ∀ (fuel : Nat) (listed : Array Bool) (a : Act) (w : World), wpAny P md ops Q fuel listed a w → wpAnyIn (Fence.wide.inRound l) n P md ops Q fuel listed a w
  | 0, _, _, _, h => h
  | fuel + 1, listed, a, w, h => ⟨h.1, fun i hi => by
    have h1 := h.2 i hi
    refine wpOpIn_mono (K := wpAny P md ops Q fuel (listed.setIfInBounds i true)) (fun a' w' h' => any_in hd hl fuel _ a' w' h') ?_
    unfold wpOp at h1
    unfold wpOpIn
    cases ho : ops[i]? with
    | none => simp only [ho] at h1 ⊢; exact h1
    | some o =>
      simp only [ho] at h1 ⊢
      split
      · rename_i hw
        simp only [hw, if_true] at h1
        rcases h1 with h1 | ⟨_, h1⟩
        · exact oper_in (noDefer_of hd ho) h1
        · exact absurd h1 hl
      · rename_i hw
        simp only [hw] at h1
        exact ⟨fun _ _ => trivial, h1⟩⟩
theorem region_in {P : Program} {id n l : Nat} {ops : Array Oper} {Q : Exit → Act → World → Prop} {a : Act} {w : World} (S : World → Prop) (hm : P.follows .mixedOrders = true) (hd : noDefer ops = true) (hl : ¬ LetsOut Q) (hS : S w.drew)
    (h : wpAnyH P .any ops Q S ops.size (Array.replicate ops.size false) a w.drew) : (Code.region id ops true).wpIn (Fence.wide.inRound l) n P Q a w :=
  wpIn_region_any hm (any_in hd hl _ _ _ _ (wpAny_of_held _ _ _ _ h))
end Go.Proofs.YtdeifjnhbdkkgaaGreatDoor

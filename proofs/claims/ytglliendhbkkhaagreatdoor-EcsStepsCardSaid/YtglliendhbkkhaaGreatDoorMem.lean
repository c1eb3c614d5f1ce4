/- Memory words: what a call may change (Keep), a slice that reads as a list (Rd), a slice of the call's own (Own), append onto it from whatever source. No program in sight. -/
import Derived.Below
import Derived.Laws.OwnMore
import Derived.Deep.AppendSrc
import Derived.Deep.Draws
import Derived.OwnWalk
import Derived.Laws.CopyOwn
import Derived.WalkKit
import Derived.Outline
import Derived.Lib.Hide
import Derived.WalkLawsBesides
import Derived.WalkSpells
import Derived.Deep.QuietTactic
import Derived.BigQuiet
import Derived.RangeFuncNested
import Derived.RangeFuncBound
import Derived.RangeFuncCalls
import Derived.RangeFuncLeaves
import Derived.Shelf.Abstract
import Derived.Shelf.RegionOpen
import Derived.OwnWalkIn
import Derived.TacticsInMore
import Derived.OrdersIn
import Derived.OrdersHeld
import Derived.LoopNIn
import Derived.LoopIn
namespace Go.Proofs.YtglliendhbkkhaaGreatDoor
open Go.RowKit
set_option maxRecDepth 100000

/-- From w to w' no old block has changed but those of S. -/
structure Keep (S : Nat → Prop) (w w' : World) : Prop where
  os : w'.os = w.os
  tape : w'.tape = w.tape
  output : w'.output = w.output
  size : w.heap.size ≤ w'.heap.size
  block : ∀ k, k < w.heap.size → ¬ S k → w'.heap[k]? = w.heap[k]?

section
variable {S T : Nat → Prop} {w w1 w2 w' : World}
theorem Keep.refl (S : Nat → Prop) (w : World) : Keep S w w := ⟨rfl, rfl, rfl, Nat.le_refl _, fun _ _ _ => rfl⟩
theorem Keep.trans (h : Keep S w w1) (k : Keep T w1 w2) (ht : ∀ x, x < w.heap.size → T x → S x) : Keep S w w2 :=
  ⟨k.os.trans h.os, k.tape.trans h.tape, k.output.trans h.output, Nat.le_trans h.size k.size,
    fun x hx hn => (k.block x (Nat.lt_of_lt_of_le hx h.size) (fun hT => hn (ht x hx hT))).trans (h.block x hx hn)⟩
theorem Keep.mono (h : Keep S w w1) (hs : ∀ x, x < w.heap.size → S x → T x) : Keep T w w1 :=
  ⟨h.os, h.tape, h.output, h.size, fun x hx hn => h.block x hx fun hS => hn (hs x hx hS)⟩
theorem Keep.drew (h : Keep S w w1) : Keep S w w1.drew := ⟨h.os, h.tape, h.output, h.size, h.block⟩
theorem Keep.drewN (h : Keep S w w1) (n : Nat) : Keep S w (w1.drewN n) := ⟨h.os, h.tape, h.output, h.size, h.block⟩
theorem Keep.alloc (h : Keep S w w1) (o : Obj) : Keep S w (w1.alloc o) :=
  ⟨h.os, h.tape, h.output, Nat.le_trans h.size (by simp), fun x hx hn => (Below.heap_alloc w1 o x (Nat.lt_of_lt_of_le hx h.size)).trans (h.block x hx hn)⟩
theorem Keep.setCell (h : Keep S w w1) {p : Addr} (hp : w.heap.size ≤ p.block ∨ S p.block) (u : Value) : Keep S w (w1.setCell p u) :=
  ⟨h.os, h.tape, h.output, by simpa using h.size, fun x hx hn => (Below.heap_setCell w1 p u x (by
    rintro rfl
    rcases hp with hp | hp
    · omega
    · exact hn hp)).trans (h.block x hx hn)⟩
theorem Keep.setRow (h : Keep S w w1) {g : Nat} (hg : w.heap.size ≤ g ∨ S g) (cs : Array Value) : Keep S w (w1.setRow g cs) :=
  ⟨h.os, h.tape, h.output, by simpa using h.size, fun x hx hn => by
    have hne : g ≠ x := by
      rintro rfl
      rcases hg with hg | hg
      · omega
      · exact hn hg
    have : (w1.setRow g cs).heap[x]? = w1.heap[x]? := by simp [World.setRow, Array.getElem?_modify, hne]
    exact this.trans (h.block x hx hn)⟩
theorem below_drewN {B : Nat} {a w : World} (h : Below B a w) (n : Nat) : Below B a (w.drewN n) := ⟨h.os, h.tape, h.output, h.size, h.block⟩
theorem Keep.of_below {B : Nat} (h : Below B w w1) : Keep (fun k => B ≤ k) w w1 := ⟨h.os, h.tape, h.output, h.size, fun x _ hn => h.block x (by omega)⟩
theorem Keep.of_below' (h : Below w.heap.size w w1) : Keep (fun _ => False) w w1 := ⟨h.os, h.tape, h.output, h.size, fun x hx _ => h.block x hx⟩
theorem Keep.below {B : Nat} (h : Keep S w w1) (hB : B ≤ w.heap.size) (hs : ∀ x, x < B → ¬ S x) : Below B w w1 :=
  ⟨h.os, h.tape, h.output, h.size, fun x hx => h.block x (by omega) (hs x hx)⟩
theorem Keep.to_below {B : Nat} (h : Keep (fun k => B ≤ k) w w1) (hB : B ≤ w.heap.size) : Below B w w1 := h.below hB (fun x hx => by omega)
theorem Keep.to_below' (h : Keep (fun _ => False) w w1) : Below w.heap.size w w1 := h.below (Nat.le_refl _) (fun _ _ h => h)
theorem Keep.cell (h : Keep S w w1) {p : Addr} {v : Value} (hp : ¬ S p.block) (hc : w.cell? p = some v) : w1.cell? p = some v :=
  (World.cell?_of_block (h.block p.block (World.block_lt_of_cell? w p hc) hp)).trans hc
theorem Keep.frozen (h : Keep S w w1) {p : Addr} (hp : ¬ S p.block) (hl : p.block < w.heap.size) : w1.frozen? p = w.frozen? p :=
  World.frozen?_of_block (h.block p.block hl hp)
end

/-- A slice at A reads as the m cells xs, all in blocks of F. -/
def Rd (w : World) (F : Nat → Prop) (A : Option Addr) (m : Nat) (xs : List Value) : Prop :=
  xs.length = m ∧ (0 < m → ∃ b off, A = some ⟨b, off, none⟩ ∧ F b ∧ ∀ i u, xs[i]? = some u → w.cell? ⟨b, off + i, none⟩ = some u)

section
variable {F G S : Nat → Prop} {w w' : World} {A : Option Addr} {m : Nat} {xs : List Value}
theorem Rd.nil (w : World) (F : Nat → Prop) (A : Option Addr) : Rd w F A 0 [] := ⟨rfl, fun h => absurd h (by omega)⟩
theorem Rd.at_ (h : Rd w F A m xs) {k : Nat} (hk : k < m) : ∃ b off, A = some ⟨b, off, none⟩ ∧ F b ∧ ∀ i u, xs[i]? = some u → w.cell? ⟨b, off + i, none⟩ = some u := h.2 (by omega)
theorem Rd.mono (h : Rd w F A m xs) (hf : ∀ b, b < w.heap.size → F b → G b) : Rd w G A m xs :=
  ⟨h.1, fun hm => by
    obtain ⟨b, off, e, hF, hc⟩ := h.2 hm
    have hl : 0 < xs.length := by have := h.1; omega
    exact ⟨b, off, e, hf b (World.block_lt_of_cell? w _ (hc 0 _ (List.getElem?_eq_getElem hl))) hF, hc⟩⟩
theorem Rd.keep (h : Rd w F A m xs) (hk : Keep S w w') (hs : ∀ b, b < w.heap.size → F b → ¬ S b) : Rd w' F A m xs :=
  ⟨h.1, fun hm => by
    obtain ⟨b, off, e, hF, hc⟩ := h.2 hm
    exact ⟨b, off, e, hF, fun i u hu => hk.cell (hs b (World.block_lt_of_cell? w _ (hc i u hu)) hF) (hc i u hu)⟩⟩
theorem Rd.below (h : Rd w F A m xs) (hb : Below w.heap.size w w') : Rd w' F A m xs := h.keep (Keep.of_below' hb) (fun _ _ _ h => h)
theorem Rd.drewN (h : Rd w F A m xs) (k : Nat) : Rd (w.drewN k) F A m xs := h
theorem Rd.drew (h : Rd w F A m xs) : Rd w.drew F A m xs := h
theorem Rd.alloc (h : Rd w F A m xs) (o : Obj) : Rd (w.alloc o) F A m xs := h.keep ((Keep.refl (fun _ => False) w).alloc o) (fun _ _ _ h => h)
/-- A literal just laid. -/
theorem Rd.lit (w : World) (e : TypeId) (cs : List Value) : Rd (w.alloc (.cells cs.toArray e)) (fun k => k = w.heap.size) (some ⟨w.heap.size, 0, none⟩) cs.length cs :=
  ⟨rfl, fun _ => ⟨w.heap.size, 0, rfl, rfl, fun i u hu => by
    rw [Nat.zero_add, cell_of_row _ w.heap.size i cs.toArray e (0, 0) (heap_alloc_new w _)]
    simpa using hu⟩⟩
/-- A piece of it. -/
theorem Rd.piece (h : Rd w F A m xs) {size lo hi : Nat} (hlh : lo ≤ hi) (hh : hi * size ≤ m) {A' : Option Addr} (hA : ∀ b off, A = some ⟨b, off, none⟩ → lo < hi → A' = some ⟨b, off + lo * size, none⟩) :
    Rd w F A' ((hi - lo) * size) ((xs.drop (lo * size)).take ((hi - lo) * size)) := by
  have e : (hi - lo) * size = hi * size - lo * size := Nat.sub_mul ..
  have hlo : lo * size ≤ hi * size := Nat.mul_le_mul_right _ hlh
  refine ⟨by rw [List.length_take, List.length_drop, h.1]; omega, fun hm => ?_⟩
  obtain ⟨b, off, eA, hF, hc⟩ := h.2 (by omega)
  have hne : lo < hi := by
    rcases Nat.lt_or_ge lo hi with h1 | h1
    · exact h1
    · have : hi - lo = 0 := by omega
      rw [this] at hm; simp at hm
  refine ⟨b, off + lo * size, hA b off eA hne, hF, fun i u hu => ?_⟩
  rw [List.getElem?_take] at hu
  split at hu
  · rw [List.getElem?_drop] at hu
    rw [Nat.add_assoc]
    exact hc _ u hu
  · cases hu
/-- What an append takes of it. -/
theorem Rd.src {P : Program} {size n c : Nat} {tx e' : TypeId} (h : Rd w F A (n * size) xs) (hk : P.underlying tx = some (.slice e')) (h1 : ∀ u ∈ xs, u.oneCell' = true) (hsz : 0 < size) : Src P size tx (.slice A n c) n xs w := by
  rcases Nat.eq_zero_or_pos n with h0 | h0
  · subst h0
    have hx : xs = [] := List.eq_nil_of_length_eq_zero (by simpa using h.1)
    subst hx
    rcases A with _ | a
    · exact Src.ofNil w hk c
    · exact Src.ofSlice w hk a 0 c [] (by simp) (fun j u hu => by simp at hu) h1
  · obtain ⟨b, off, rfl, _, hc⟩ := h.2 (Nat.mul_pos h0 hsz)
    exact Src.ofSlice w hk _ n c xs h.1 (fun j u hu => by
      have : (⟨b, off, none⟩ : Addr).add j = ⟨b, off + j, none⟩ := by
        unfold Addr.add; split <;> simp_all
      rw [this]; exact hc j u hu) h1
end

/-- A slice value that reads as the cells xs (elements of 'size' cells), in blocks of F. -/
def Sl (w : World) (F : Nat → Prop) (size : Nat) (v : Value) (n : Nat) (xs : List Value) : Prop :=
  ∃ A c, v = .slice A n c ∧ n ≤ c ∧ c ≤ maxLen ∧ (A = none → c = 0) ∧ Rd w F A (n * size) xs

section
variable {F G S : Nat → Prop} {w w' : World} {size n : Nat} {v : Value} {xs : List Value}
theorem Sl.mono (h : Sl w F size v n xs) (hf : ∀ b, b < w.heap.size → F b → G b) : Sl w G size v n xs := by
  obtain ⟨A, c, rfl, h1, h2, h3, h4⟩ := h
  exact ⟨A, c, rfl, h1, h2, h3, h4.mono hf⟩
theorem Sl.any (h : Sl w F size v n xs) : Sl w (fun _ => True) size v n xs := h.mono fun _ _ _ => trivial
theorem Sl.keep (h : Sl w F size v n xs) (hk : Keep S w w') (hs : ∀ b, b < w.heap.size → F b → ¬ S b) : Sl w' F size v n xs := by
  obtain ⟨A, c, rfl, h1, h2, h3, h4⟩ := h
  exact ⟨A, c, rfl, h1, h2, h3, h4.keep hk hs⟩
theorem Sl.below (h : Sl w F size v n xs) (hb : Below w.heap.size w w') : Sl w' F size v n xs := h.keep (Keep.of_below' hb) (fun _ _ _ h => h)
theorem Sl.alloc (h : Sl w F size v n xs) (o : Obj) : Sl (w.alloc o) F size v n xs := h.keep ((Keep.refl (fun _ => False) w).alloc o) (fun _ _ _ h => h)
theorem Sl.drewN (h : Sl w F size v n xs) (k : Nat) : Sl (w.drewN k) F size v n xs := h
theorem Sl.drew (h : Sl w F size v n xs) : Sl w.drew F size v n xs := h
theorem Sl.len (h : Sl w F size v n xs) : xs.length = n * size := by
  obtain ⟨A, c, rfl, h1, h2, h3, h4⟩ := h
  exact h4.1
theorem Sl.nil (w : World) (F : Nat → Prop) (size : Nat) : Sl w F size (.slice none 0 0) 0 [] :=
  ⟨none, 0, rfl, Nat.le_refl _, Nat.zero_le _, fun _ => rfl, by rw [Nat.zero_mul]; exact Rd.nil _ _ _⟩
/-- A literal just laid. -/
theorem Sl.lit (w : World) (e : TypeId) (cs : List Value) (h : cs.length ≤ maxLen) : Sl (w.alloc (.cells cs.toArray e)) (fun k => k = w.heap.size) 1 (.slice (some ⟨w.heap.size, 0, none⟩) cs.length cs.length) cs.length cs :=
  ⟨_, _, rfl, Nat.le_refl _, h, fun h => (by cases h), by rw [Nat.mul_one]; exact Rd.lit w e cs⟩
end

/-- The block of a slice that has room. -/
def ownB : Value → Option Nat
  | .slice (some a) _ (_ + 1) => some a.block
  | _ => none
/-- The slice value v, n elements of 'size' cells of type e, holds xs; either it has no room at all, or a block of its own from 'base' on. -/
def Own (w : World) (base : Nat) (e : TypeId) (size : Nat) (v : Value) (n : Nat) (xs : List Value) : Prop :=
  xs.length = n * size ∧ ∃ A c, v = .slice A n c ∧ n ≤ c ∧ c ≤ maxLen ∧
    (0 < c → ∃ g cur, A = some ⟨g, 0, none⟩ ∧ base ≤ g ∧ w.heap[g]? = some (.cells cur e (0, 0)) ∧ cur.size = c * size ∧ cur.toList.take (n * size) = xs)

section
variable {w w' : World} {base base' n size : Nat} {e : TypeId} {v : Value} {xs : List Value} {S : Nat → Prop}
theorem Own.none_ (w : World) (base : Nat) (e : TypeId) (size : Nat) (A : Option Addr) : Own w base e size (.slice A 0 0) 0 [] :=
  ⟨by simp, A, 0, rfl, Nat.le_refl _, Nat.zero_le _, fun h => absurd h (by omega)⟩
theorem Own.row (h : Own w base e size v n xs) (hn : 0 < n) : w.ownsRow base e size v n xs := by
  obtain ⟨hl, A, c, rfl, hnc, hc, hg⟩ := h
  obtain ⟨g, cur, rfl, hb, hgg, hs, ht⟩ := hg (by omega)
  exact ⟨hl, .inr ⟨g, c, cur, rfl, hb, hgg, hnc, hc, hs, ht⟩⟩
theorem Own.ownB (h : Own w base e size v n xs) : ∀ k, Go.Proofs.YtglliendhbkkhaaGreatDoor.ownB v = some k → base ≤ k ∧ k < w.heap.size := by
  obtain ⟨_, A, c, rfl, _, _, hg⟩ := h
  intro k hk
  rcases c with _ | c
  · rcases A with _ | a <;> simp [Go.Proofs.YtglliendhbkkhaaGreatDoor.ownB] at hk
  · obtain ⟨g, cur, rfl, hb, hgg, _⟩ := hg (by omega)
    simp [Go.Proofs.YtglliendhbkkhaaGreatDoor.ownB] at hk
    subst hk
    exact ⟨hb, (Array.getElem?_eq_some_iff.1 hgg).1⟩
/-- A block of other elements, or a map, is none of a slice's own. -/
theorem Own.ne_cells (h : Own w base e size v n xs) {p : Nat} {t : TypeId} {cs : Array Value} {fr : Nat × Nat} (hp : w.heap[p]? = some (.cells cs t fr)) (hne : e ≠ t) : Go.Proofs.YtglliendhbkkhaaGreatDoor.ownB v ≠ some p := by
  obtain ⟨_, A, c, rfl, _, _, hg⟩ := h
  intro hk
  rcases c with _ | c
  · rcases A with _ | a <;> simp [Go.Proofs.YtglliendhbkkhaaGreatDoor.ownB] at hk
  · obtain ⟨g, cur, rfl, hb, hgg, _⟩ := hg (by omega)
    simp [Go.Proofs.YtglliendhbkkhaaGreatDoor.ownB] at hk
    subst hk
    rw [hp] at hgg
    injection hgg with hgg
    injection hgg with _ ht
    exact hne ht.symm
theorem Own.ne_map (h : Own w base e size v n xs) {p : Nat} {es : Array MapEntry} {cl : Nat} (hp : w.heap[p]? = some (.map es cl)) : Go.Proofs.YtglliendhbkkhaaGreatDoor.ownB v ≠ some p := by
  obtain ⟨_, A, c, rfl, _, _, hg⟩ := h
  intro hk
  rcases c with _ | c
  · rcases A with _ | a <;> simp [Go.Proofs.YtglliendhbkkhaaGreatDoor.ownB] at hk
  · obtain ⟨g, cur, rfl, hb, hgg, _⟩ := hg (by omega)
    simp [Go.Proofs.YtglliendhbkkhaaGreatDoor.ownB] at hk
    subst hk
    rw [hp] at hgg
    injection hgg with hgg
    cases hgg
theorem Own.keep (h : Own w base e size v n xs) (hk : Keep S w w') (hs : ∀ k, Go.Proofs.YtglliendhbkkhaaGreatDoor.ownB v = some k → ¬ S k) : Own w' base e size v n xs := by
  obtain ⟨hl, A, c, rfl, hnc, hc, hg⟩ := h
  refine ⟨hl, A, c, rfl, hnc, hc, fun h0 => ?_⟩
  obtain ⟨g, cur, rfl, hb, hgg, hcs, ht⟩ := hg h0
  refine ⟨g, cur, rfl, hb, ?_, hcs, ht⟩
  rw [hk.block g (Array.getElem?_eq_some_iff.1 hgg).1 (hs g (by
    obtain ⟨c', rfl⟩ : ∃ c', c = c' + 1 := ⟨c - 1, by omega⟩
    rfl))]
  exact hgg
theorem Own.alloc (h : Own w base e size v n xs) (o : Obj) : Own (w.alloc o) base e size v n xs := h.keep ((Keep.refl (fun _ => False) w).alloc o) (fun _ _ h => h)
theorem Own.drew (h : Own w base e size v n xs) : Own w.drew base e size v n xs := h
theorem Own.drewN (h : Own w base e size v n xs) (k : Nat) : Own (w.drewN k) base e size v n xs := h
theorem Own.mono (h : Own w base e size v n xs) (hb : base' ≤ base) : Own w base' e size v n xs := by
  obtain ⟨hl, A, c, rfl, hnc, hc, hg⟩ := h
  refine ⟨hl, A, c, rfl, hnc, hc, fun h0 => ?_⟩
  obtain ⟨g, cur, rfl, hb', rest⟩ := hg h0
  exact ⟨g, cur, rfl, Nat.le_trans hb hb', rest⟩
theorem Own.form (h : Own w base e size v n xs) : ∃ A c, v = .slice A n c ∧ Rd w (fun k => base ≤ k) A (n * size) xs := by
  obtain ⟨hl, A, c, rfl, hnc, hc, hg⟩ := h
  refine ⟨A, c, rfl, hl, fun hm => ?_⟩
  have hn : 0 < n := Nat.pos_of_mul_pos_right hm
  obtain ⟨g, cur, rfl, hb, hgg, hcs, ht⟩ := hg (by omega)
  refine ⟨g, 0, rfl, hb, fun i u hu => ?_⟩
  rw [Nat.zero_add, cell_of_row w g i cur e (0, 0) hgg]
  rw [← ht, List.getElem?_take] at hu
  split at hu
  · simpa using hu
  · cases hu
theorem Own.sl (h : Own w base e size v n xs) : Sl w (fun k => base ≤ k) size v n xs := by
  obtain ⟨A, c, hv, hr⟩ := h.form
  obtain ⟨hl, A', c', hv', hnc, hc, hg⟩ := h
  subst hv
  injection hv' with h1 h2 h3
  subst h1 h3
  refine ⟨A, c, rfl, hnc, hc, fun h => ?_, hr⟩
  rcases Nat.eq_zero_or_pos c with h0 | h0
  · exact h0
  · obtain ⟨g, _, e, _⟩ := hg h0
    rw [h] at e
    cases e
theorem Own.re {m : Nat} {ys : List Value} (h : Own w base e 1 v n xs) (hx : xs = ys) (hm : ys.length = m) : Own w base e 1 v m ys := by
  subst hx
  have : n = m := by have := h.1; omega
  subst this
  exact h
theorem Own.len (h : Own w base e size v n xs) : xs.length = n * size := h.1
/-- A row just made, whole. -/
theorem Own.made (w : World) (cs : Array Value) (n c : Nat) (hb : base ≤ w.heap.size) (hnc : n ≤ c) (hm : c ≤ maxLen) (hs : cs.size = c * size) : Own (w.alloc (.cells cs e)) base e size (.slice (some ⟨w.heap.size, 0, none⟩) n c) n (cs.toList.take (n * size)) :=
  ⟨by rw [List.length_take, Array.length_toList, hs]; exact Nat.min_eq_left (Nat.mul_le_mul_right _ hnc), _, c, rfl, hnc, hm, fun _ => ⟨w.heap.size, cs, rfl, hb, heap_alloc_new w _, hs, rfl⟩⟩
/-- A shorter one, in place. -/
theorem Own.take {A : Option Addr} {c k : Nat} (h : Own w base e size (.slice A n c) n xs) (hk : k ≤ n) : Own w base e size (.slice A k c) k (xs.take (k * size)) := by
  obtain ⟨hl, A', c', hv, hnc, hc, hg⟩ := h
  injection hv with h1 h2 h3
  subst h1 h3
  refine ⟨by rw [List.length_take, hl]; exact Nat.min_eq_left (Nat.mul_le_mul_right _ hk), A, c, rfl, by omega, hc, fun h0 => ?_⟩
  obtain ⟨g, cur, rfl, hb, hgg, hcs, ht⟩ := hg h0
  refine ⟨g, cur, rfl, hb, hgg, hcs, ?_⟩
  rw [← ht, List.take_take, Nat.min_eq_left (Nat.mul_le_mul_right _ hk)]
end

/-- Behind an append onto a slice of the call's own: old memory stands. -/
theorem append_below {w wr w1 : World} {e : TypeId} {size : Nat} {v : Value} {n : Nat} {xs : List Value} {o : Obj} (hb : Below w.heap.size w wr) (hown : Own wr w.heap.size e size v n xs)
    (hk : Keep (fun k => ownB v = some k) (wr.alloc o) w1) : Below w.heap.size w w1 :=
  hb.trans ((Keep.trans (S := fun k => w.heap.size ≤ k) ((Keep.refl _ wr).alloc _) hk (fun x _ ht => (hown.ownB x ht).1)).to_below hb.size)
section
variable {P : Program} (w : World)
/-- append onto a slice of the call's own, or one without room, whatever the source. -/
theorem run_append_gen (base : Nat) (t tx ty e : TypeId) (i : TypeInfo) (z : Value) (size bytes : Nat) (ht : P.underlying t = some (.slice e)) (hi : P.info? e = some i) (hz : i.zero = some z)
    (hsize : i.size = size) (hby : i.bytes = bytes) (hzs : z.cells.size = size)
    (v : Value) (n : Nat) (xs : List Value) (hown : Own w base e size v n xs) (x : Value) (m : Nat) (news : List Value) (hs : Src P size tx x m news w)
    (h63 : n + m ≤ maxLen) (hbytes : (n + m) * bytes ≤ 140737488355328) (hbase : base ≤ w.heap.size) :
    ∃ v' w', (Builtin.append_ #[t, tx] ty #[v, x]).run P w = .ok v' w' ∧ Own w' base e size v' (n + m) (xs ++ news) ∧ Keep (fun k => ownB v = some k) w w' ∧
      (∀ k, ownB v' = some k → ownB v = some k ∨ w.heap.size ≤ k) := by
  subst hsize
  subst hby
  have hlen : (xs ++ news).length = (n + m) * i.size := by rw [List.length_append, hown.1, hs.newsLen, Nat.add_mul]
  obtain ⟨hl, A, c, rfl, hnc, hcm, hg⟩ := hown
  have h64 : n + m ≤ 9223372036854775807 := by unfold maxLen at h63; exact h63
  by_cases hroom : n + m ≤ c
  · rcases Nat.eq_zero_or_pos c with h0 | h0
    · subst h0
      have hn : n = 0 := by omega
      have hm : m = 0 := by omega
      subst hn hm
      have hx : xs = [] := List.eq_nil_of_length_eq_zero (by simpa using hl)
      have hw : news = [] := List.eq_nil_of_length_eq_zero (by simpa using hs.newsLen)
      subst hx hw
      refine ⟨.slice A 0 0, w, ?_, Own.none_ w base e i.size A, Keep.refl _ _, fun k hk => .inl hk⟩
      rcases A with _ | a
      · rcases hs.kind with ⟨e', hk⟩ | hk <;> simp [Builtin.append_, run_underlying ht, run_underlying hk, sizeOf, typeInfo, hi, hs.len, hs.cells]
      · rcases hs.kind with ⟨e', hk⟩ | hk <;> simp [Builtin.append_, run_underlying ht, run_underlying hk, sizeOf, typeInfo, hi, hs.len, hs.cells, storeCells]
    · obtain ⟨g, cur, rfl, hb, hgg, hcs, htk⟩ := hg h0
      have hfit : n * i.size + 0 + news.length ≤ cur.size := by
        rw [hcs, hs.newsLen, Nat.add_zero, ← Nat.add_mul]
        exact Nat.mul_le_mul_right _ hroom
      have hst := run_storeCells_at P g (n * i.size) e news 0 cur w hgg hfit hs.one
      simp only [Nat.add_zero] at hst
      refine ⟨.slice (some ⟨g, 0, none⟩) (n + m) c, w.setRow g (cur.toList.take (n * i.size) ++ news ++ cur.toList.drop (n * i.size + news.length)).toArray, ?_, ?_, ?_, ?_⟩
      · rcases hs.kind with ⟨e', hk⟩ | hk <;> simp [Builtin.append_, run_underlying ht, run_underlying hk, sizeOf, typeInfo, hi, hs.len, hroom, hs.cells, Addr.add_lit, hst]
      · refine ⟨hlen, _, c, rfl, hroom, hcm, fun _ => ⟨g, _, rfl, hb, by simp only [World.setRow, Array.getElem?_modify, if_pos, hgg]; rfl, ?_, ?_⟩⟩
        · simp only [List.size_toArray, List.length_append, List.length_take, List.length_drop, Array.length_toList]
          omega
        · rw [htk, ← hlen]
          exact List.take_left
      · refine (Keep.refl _ w).setRow (.inr ?_) _
        obtain ⟨c', rfl⟩ : ∃ c', c = c' + 1 := ⟨c - 1, by omega⟩
        rfl
      · intro k hk
        refine .inl ?_
        obtain ⟨c', rfl⟩ : ∃ c', c = c' + 1 := ⟨c - 1, by omega⟩
        exact hk
  · have hold : (Builtin.firstCells i.size n (.slice A n c)).run P w.drew = .ok xs.toArray w.drew := by
      rcases Nat.eq_zero_or_pos n with h0 | h0
      · subst h0
        have hx : xs = [] := List.eq_nil_of_length_eq_zero (by simpa using hl)
        subst hx
        rcases A with _ | a
        · exact run_firstCells_none w.drew i.size 0 0 c
        · exact run_firstCells_some w.drew i.size 0 a 0 c [] (by simp) (fun j u hu => by simp at hu)
      · obtain ⟨g, cur, rfl, hb, hgg, hcs, htk⟩ := hg (by omega)
        refine run_firstCells_some w.drew i.size n _ n c xs hl (fun j u hu => ?_)
        rw [Addr.add_lit, World.cell?_drew, Nat.zero_add, cell_of_row w g j cur e (0, 0) hgg]
        rw [← htk, List.getElem?_take] at hu
        split at hu
        · simpa using hu
        · cases hu
    have hr := run_append_grow_src (P := P) w t tx ty e i z ht hi hz A n c xs hold x m news hs (by omega) (by omega) (growslice_fits (by omega) hbytes)
    have hge := grownCap_ge w (n + m) c e
    have hcm' : grownCap w (n + m) c e ≤ maxLen := grownCap_le_maxLen w (n + m) c e h63
    refine ⟨_, _, hr, ⟨hlen, _, _, rfl, hge, hcm', fun _ => ⟨w.heap.size, _, rfl, hbase, heap_alloc_new w.drew _, ?_, ?_⟩⟩, ((Keep.refl _ w).drew).alloc _, ?_⟩
    · simp only [Array.size_append, List.size_toArray, size_zeroCells, hzs, hlen, ← Nat.add_mul]
      congr 1
      omega
    · simp only [Array.toList_append]
      rw [← hlen]
      exact List.take_left
    · intro k hk
      refine .inr ?_
      generalize grownCap w (n + m) c e = q at hk
      rcases q with _ | q
      · simp [ownB] at hk
      · simp [ownB] at hk; omega

theorem wp_append_gen {o : Oper} {a : Act} {K : Act → World → Prop} {Q : Exit → Act → World → Prop} (s x : Operand) (t tx : TypeId)
    (ho : o.op = .call { callee := .builtin .append, args := #[s, x], argTypes := #[t, tx] })
    (base : Nat) (e : TypeId) (i : TypeInfo) (z : Value) (size bytes : Nat) (ht : P.underlying t = some (.slice e)) (hi : P.info? e = some i) (hz : i.zero = some z)
    (hsize : i.size = size) (hby : i.bytes = bytes) (hzs : z.cells.size = size)
    (v : Value) (n : Nat) (xs : List Value) (hv : a.eval s = v) (hown : Own w base e size v n xs)
    (y : Value) (m : Nat) (news : List Value) (hy : a.eval x = y) (hs : Src P size tx y m news w)
    (h63 : n + m ≤ maxLen) (hbytes : (n + m) * bytes ≤ 140737488355328) (hbase : base ≤ w.heap.size)
    (h : ∀ v' w', Own w' base e size v' (n + m) (xs ++ news) → Keep (fun k => ownB v = some k) w w' → (∀ k, ownB v' = some k → ownB v = some k ∨ w.heap.size ≤ k) → K (a.put o.dst v') w') : o.wp P a w K Q := by
  obtain ⟨v', w', hrun, h2, h3, h4⟩ := run_append_gen (P := P) w base t tx o.type e i z size bytes ht hi hz hsize hby hzs v n xs hown y m news hs h63 hbytes hbase
  unfold Oper.wp execOp
  simp only [ho, resolve, invoke, builtin, Sem.run_bind, Sem.run_pure, Result.andThen_ok, List.map_toArray, List.map_cons, List.map_nil, hv, hy, hrun]
  exact h v' w' h2 h3 h4

theorem wpList_append_gen {ops : Array Oper} {rest : List Oper} {o : Oper} {a : Act} {Q : Exit → Act → World → Prop} (hgd : Region.wanted o (yielded ops a.tmps) = true) (s x : Operand) (t tx : TypeId)
    (ho : o.op = .call { callee := .builtin .append, args := #[s, x], argTypes := #[t, tx] })
    (base : Nat) (e : TypeId) (i : TypeInfo) (z : Value) (size bytes : Nat) (ht : P.underlying t = some (.slice e)) (hi : P.info? e = some i) (hz : i.zero = some z)
    (hsize : i.size = size) (hby : i.bytes = bytes) (hzs : z.cells.size = size)
    (v : Value) (n : Nat) (xs : List Value) (hv : a.eval s = v) (hown : Own w base e size v n xs)
    (y : Value) (m : Nat) (news : List Value) (hy : a.eval x = y) (hs : Src P size tx y m news w)
    (h63 : n + m ≤ maxLen) (hbytes : (n + m) * bytes ≤ 140737488355328) (hbase : base ≤ w.heap.size)
    (h : ∀ v' w', Own w' base e size v' (n + m) (xs ++ news) → Keep (fun k => ownB v = some k) w w' → (∀ k, ownB v' = some k → ownB v = some k ∨ w.heap.size ≤ k) → wpList P ops Q rest (a.put o.dst v') w') : wpList P ops Q (o :: rest) a w :=
  wpList_step fun _ hK => by
    rw [if_pos hgd]
    exact wp_append_gen w s x t tx ho base e i z size bytes ht hi hz hsize hby hzs v n xs hv hown y m news hy hs h63 hbytes hbase fun v' w' h2 h3 h4 => hK _ _ (h v' w' h2 h3 h4)

theorem step_append_gen {ops : Array Oper} {o : Oper} {a : Act} {K : Act → World → Prop} {Q : Exit → Act → World → Prop} {E : Prop} (hgd : Region.wanted o (yielded ops a.tmps) = true) (s x : Operand) (t tx : TypeId)
    (ho : o.op = .call { callee := .builtin .append, args := #[s, x], argTypes := #[t, tx] })
    (base : Nat) (e : TypeId) (i : TypeInfo) (z : Value) (size bytes : Nat) (ht : P.underlying t = some (.slice e)) (hi : P.info? e = some i) (hz : i.zero = some z)
    (hsize : i.size = size) (hby : i.bytes = bytes) (hzs : z.cells.size = size)
    (v : Value) (n : Nat) (xs : List Value) (hv : a.eval s = v) (hown : Own w base e size v n xs)
    (y : Value) (m : Nat) (news : List Value) (hy : a.eval x = y) (hs : Src P size tx y m news w)
    (h63 : n + m ≤ maxLen) (hbytes : (n + m) * bytes ≤ 140737488355328) (hbase : base ≤ w.heap.size)
    (h : ∀ v' w', Own w' base e size v' (n + m) (xs ++ news) → Keep (fun k => ownB v = some k) w w' → (∀ k, ownB v' = some k → ownB v = some k ∨ w.heap.size ≤ k) → K (a.put o.dst v') w') :
    if Region.wanted o (yielded ops a.tmps) = true then Oper.wp P o a w K Q else E := by
  rw [if_pos hgd]
  exact wp_append_gen w s x t tx ho base e i z size bytes ht hi hz hsize hby hzs v n xs hv hown y m news hy hs h63 hbytes hbase h
end
end Go.Proofs.YtglliendhbkkhaaGreatDoor
namespace Go.Proofs.YtglliendhbkkhaaGreatDoor
open Go.RowKit
set_option maxRecDepth 100000

/-- What a copy onto block g, place off, leaves: the cells cs are laid there. -/
def Laid (w w' : World) (g off : Nat) (cur : Array Value) (cs : List Value) : Prop :=
  (cs = [] → w' = w) ∧ (cs ≠ [] → w' = w.setRow g (splice cur.toList off cs).toArray)

section
variable {P : Program} {w : World}
theorem run_copy_gen (dT sT ty elem : TypeId) (hu : P.underlying dT = some (.slice elem)) (hsz : (P.info? elem).map (·.size) = some 1)
    (A : Option Addr) (dLen dCap g off : Nat) (cur : Array Value) (t : TypeId) (hA : 0 < dLen → A = some ⟨g, off, none⟩ ∧ w.heap[g]? = some (.cells cur t (0, 0)) ∧ off + dLen ≤ cur.size)
    (F : Nat → Prop) (u : Value) (m : Nat) (ys : List Value) (hs : Sl w F 1 u m ys) (h1 : ∀ y ∈ ys, y.oneCell' = true) :
    ∃ w', (Builtin.copy_ #[dT, sT] ty #[.slice A dLen dCap, u]).run P w = .ok (goInt ((min m dLen : Nat) : Int)) w' ∧ Laid w w' g off cur (ys.take (min m dLen)) := by
  have hl := hs.len
  obtain ⟨B, c, rfl, _, _, _, hr⟩ := hs
  rw [Nat.mul_one] at hl
  rcases Nat.eq_zero_or_pos (min m dLen) with h0 | h0
  · refine ⟨w, ?_, ?_⟩
    · rw [h0]
      exact run_copy_none w dT sT ty elem A B dLen dCap m c hu hsz h0
    · rw [h0]
      exact ⟨fun _ => rfl, fun h => absurd rfl h⟩
  · obtain ⟨rfl, hg, hfit⟩ := hA (by omega)
    obtain ⟨b, o, rfl, _, hc⟩ := hr.2 (by omega)
    have hlen : (ys.take (min m dLen)).length = min m dLen := by rw [List.length_take]; omega
    have hrun := run_copy_row (P := P) w dT sT ty elem g off dLen dCap ⟨b, o, none⟩ m c cur t (ys.take (min m dLen)) hu hsz hg hlen (fun j v hj => by
      have e : (⟨b, o, none⟩ : Addr).add j = ⟨b, o + j, none⟩ := by unfold Addr.add; split <;> simp_all
      rw [e]
      rw [List.getElem?_take] at hj
      split at hj
      · exact hc j v hj
      · cases hj) (by rw [hlen]; omega) (fun v hv => h1 v (List.mem_of_mem_take hv))
    rw [hlen] at hrun
    refine ⟨_, hrun, fun h => ?_, fun _ => ?_⟩
    · rw [h] at hlen
      simp at hlen
      omega
    · unfold splice
      rw [hlen, List.append_assoc]

theorem wp_copy_gen {o : Oper} {a : Act} {K : Act → World → Prop} {Q : Exit → Act → World → Prop} (d s : Operand) (dT sT : TypeId)
    (ho : o.op = .call { callee := .builtin .copy, args := #[d, s], argTypes := #[dT, sT] }) (elem : TypeId) (hu : P.underlying dT = some (.slice elem)) (hsz : (P.info? elem).map (·.size) = some 1)
    (A : Option Addr) (dLen dCap g off : Nat) (cur : Array Value) (t : TypeId) (hd : a.eval d = .slice A dLen dCap) (hA : 0 < dLen → A = some ⟨g, off, none⟩ ∧ w.heap[g]? = some (.cells cur t (0, 0)) ∧ off + dLen ≤ cur.size)
    (F : Nat → Prop) (u : Value) (m : Nat) (ys : List Value) (hv : a.eval s = u) (hs : Sl w F 1 u m ys) (h1 : ∀ y ∈ ys, y.oneCell' = true)
    (h : ∀ w', Laid w w' g off cur (ys.take (min m dLen)) → K (a.put o.dst (goInt ((min m dLen : Nat) : Int))) w') : o.wp P a w K Q := by
  obtain ⟨w', hrun, hw⟩ := run_copy_gen (P := P) (w := w) dT sT o.type elem hu hsz A dLen dCap g off cur t hA F u m ys hs h1
  unfold Oper.wp execOp
  simp only [ho, resolve, invoke, builtin, Sem.run_bind, Sem.run_pure, Result.andThen_ok, List.map_toArray, List.map_cons, List.map_nil, hd, hv, hrun]
  exact h w' hw
theorem wpList_copy_gen {ops : Array Oper} {rest : List Oper} {o : Oper} {a : Act} {Q : Exit → Act → World → Prop} (hgd : Region.wanted o (yielded ops a.tmps) = true) (d s : Operand) (dT sT : TypeId)
    (ho : o.op = .call { callee := .builtin .copy, args := #[d, s], argTypes := #[dT, sT] }) (elem : TypeId) (hu : P.underlying dT = some (.slice elem)) (hsz : (P.info? elem).map (·.size) = some 1)
    (A : Option Addr) (dLen dCap g off : Nat) (cur : Array Value) (t : TypeId) (hd : a.eval d = .slice A dLen dCap) (hA : 0 < dLen → A = some ⟨g, off, none⟩ ∧ w.heap[g]? = some (.cells cur t (0, 0)) ∧ off + dLen ≤ cur.size)
    (F : Nat → Prop) (u : Value) (m : Nat) (ys : List Value) (hv : a.eval s = u) (hs : Sl w F 1 u m ys) (h1 : ∀ y ∈ ys, y.oneCell' = true)
    (h : ∀ w', Laid w w' g off cur (ys.take (min m dLen)) → wpList P ops Q rest (a.put o.dst (goInt ((min m dLen : Nat) : Int))) w') : wpList P ops Q (o :: rest) a w :=
  wpList_step fun _ hK => by
    rw [if_pos hgd]
    exact wp_copy_gen d s dT sT ho elem hu hsz A dLen dCap g off cur t hd hA F u m ys hv hs h1 fun w' hw => hK _ _ (h w' hw)
end

section
variable {w w' : World} {g off : Nat} {cur : Array Value} {cs : List Value}
theorem Laid.keep (h : Laid w w' g off cur cs) : Keep (fun k => k = g) w w' := by
  by_cases hc : cs = []
  · rw [h.1 hc]; exact Keep.refl _ _
  · rw [h.2 hc]; exact Keep.setRow (S := fun k => k = g) (Keep.refl _ w) (.inr rfl) _
theorem Laid.block {t : TypeId} (h : Laid w w' g off cur cs) (hg : w.heap[g]? = some (.cells cur t (0, 0))) : w'.heap[g]? = some (.cells (splice cur.toList off cs).toArray t (0, 0)) := by
  by_cases hc : cs = []
  · rw [h.1 hc, hc, hg]; simp [splice]
  · rw [h.2 hc]; simp [World.setRow, Array.getElem?_modify, hg]
/-- The whole of a slice of the call's own. -/
theorem Own.laid {base n c : Nat} {e : TypeId} {A : Option Addr} {xs : List Value} (h : Own w base e 1 (.slice A n c) n xs) (hA : 0 < n → A = some ⟨g, 0, none⟩ ∧ w.heap[g]? = some (.cells cur e (0, 0)) ∧ 0 + n ≤ cur.size)
    (hl : Laid w w' g 0 cur cs) (hcs : cs.length ≤ n) : Own w' base e 1 (.slice A n c) n (cs ++ xs.drop cs.length) ∧ Keep (fun k => Go.Proofs.YtglliendhbkkhaaGreatDoor.ownB (Value.slice A n c) = some k) w w' := by
  rcases Nat.eq_zero_or_pos cs.length with h0 | h0
  · have hc : cs = [] := List.eq_nil_of_length_eq_zero h0
    subst hc
    rw [hl.1 rfl]
    exact ⟨by simpa using h, Keep.refl _ _⟩
  · obtain ⟨rfl, hg, hfit⟩ := hA (by omega)
    have hb := hl.block hg
    obtain ⟨hlen, A', c', hv, hnc, hcm, hx⟩ := h
    injection hv with h1 h2 h3
    subst h1 h3
    obtain ⟨g', cur', hgg, hbase, hgg', hcs', htk⟩ := hx (by omega)
    injection hgg with hgg
    injection hgg with hgg
    subst hgg
    rw [hg] at hgg'
    injection hgg' with hgg'
    injection hgg' with hcur
    subst hcur
    refine ⟨⟨?_, _, c, rfl, hnc, hcm, fun _ => ⟨g, _, rfl, hbase, hb, ?_, ?_⟩⟩, ?_⟩
    · rw [List.length_append, List.length_drop, hlen]; omega
    · have hz : cur.toList.length = cur.size := Array.length_toList
      rw [List.size_toArray, length_splice _ _ _ (by omega), hz, hcs']
    · have e : ((splice cur.toList 0 cs).toArray).toList = cs ++ cur.toList.drop cs.length := by simp [splice]
      rw [e, List.take_append, List.take_of_length_le (by omega), ← htk, List.drop_take]
    · refine hl.keep.mono fun x _ hx => ?_
      subst hx
      obtain ⟨c', rfl⟩ : ∃ c', c = c' + 1 := ⟨c - 1, by omega⟩
      rfl
end
end Go.Proofs.YtglliendhbkkhaaGreatDoor
namespace Go.Proofs.YtglliendhbkkhaaGreatDoor
open Go.RowKit
set_option maxRecDepth 100000

theorem ret_bool {a b : Bool} (h : a = b) : Ending.returned (.bool a) = .returned (.bool b) := by rw [h]
theorem ret_int {k : IntKind} {a b : Int} (h : a = b) : Ending.returned (.int k a) = .returned (.int k b) := by rw [h]
def iv (l : List Int) : List Value := l.map (Value.int .i64)
/-- What 'append(l, x)' appends: the one-element slice that it has just laid. -/
theorem src_one {P : Program} {tx e e' : TypeId} (w : World) (x : Value) (hk : P.underlying tx = some (.slice e')) (h1 : x.oneCell' = true) : Src P 1 tx (.slice (some ⟨w.heap.size, 0, none⟩) 1 1) 1 [x] (w.alloc (.cells #[x] e)) :=
  Src.ofSlice _ hk _ 1 1 [x] rfl (fun j u hu => by
    match j, hu with
    | 0, hu => simp at hu; subst hu; simp [Addr.add]) (fun u hu => by simp at hu; subst hu; exact h1)

/-- Sets and other 64-bit words, as cells. -/
def uv (l : List Nat) : List Value := l.map fun n : Nat => Value.int .u64 (n : Int)
theorem uv_at {l : List Nat} {k : Nat} (h : k < l.length) : (uv l)[k]? = some (.int .u64 (l.getD k 0 : Nat)) ∧ l[k]? = some (l.getD k 0) := by
  have e : l[k]? = some (l.getD k 0) := by rw [List.getElem?_eq_getElem h, List.getD_eq_getElem?_getD, List.getElem?_eq_getElem h]; rfl
  exact ⟨by rw [uv, List.getElem?_map, e]; rfl, e⟩
/-- An int's list, element by element. -/
theorem iv_at {l : List Int} {k : Nat} (h : k < l.length) : (iv l)[k]? = some (.int .i64 (l.getD k 0)) ∧ l[k]? = some (l.getD k 0) := by
  have e : l[k]? = some (l.getD k 0) := by rw [List.getElem?_eq_getElem h, List.getD_eq_getElem?_getD, List.getElem?_eq_getElem h]; rfl
  exact ⟨by rw [iv, List.getElem?_map, e]; rfl, e⟩
end Go.Proofs.YtglliendhbkkhaaGreatDoor
namespace Go.Proofs.YtglliendhbkkhaaGreatDoor
open Go.RowKit
set_option maxRecDepth 100000

theorem cells1 {w : World} {p : Nat} {t : TypeId} {c0 : Value} (h : w.heap[p]? = some (.cells #[c0] t (0, 0))) :
    w.cell? ⟨p, 0, none⟩ = some c0 ∧ ∀ i, w.frozen? ⟨p, i, none⟩ = false :=
  ⟨by rw [cell_of_row w p 0 _ _ _ h]; rfl, fun i => frozen_of_row w p i _ _ h⟩
theorem cells2 {w : World} {p : Nat} {t : TypeId} {c0 c1 : Value} (h : w.heap[p]? = some (.cells #[c0, c1] t (0, 0))) :
    w.cell? ⟨p, 0, none⟩ = some c0 ∧ w.cell? ⟨p, 1, none⟩ = some c1 ∧ ∀ i, w.frozen? ⟨p, i, none⟩ = false :=
  ⟨by rw [cell_of_row w p 0 _ _ _ h]; rfl, by rw [cell_of_row w p 1 _ _ _ h]; rfl, fun i => frozen_of_row w p i _ _ h⟩
theorem cells3 {w : World} {p : Nat} {t : TypeId} {c0 c1 c2 : Value} (h : w.heap[p]? = some (.cells #[c0, c1, c2] t (0, 0))) :
    w.cell? ⟨p, 0, none⟩ = some c0 ∧ w.cell? ⟨p, 1, none⟩ = some c1 ∧ w.cell? ⟨p, 2, none⟩ = some c2 ∧ ∀ i, w.frozen? ⟨p, i, none⟩ = false :=
  ⟨by rw [cell_of_row w p 0 _ _ _ h]; rfl, by rw [cell_of_row w p 1 _ _ _ h]; rfl, by rw [cell_of_row w p 2 _ _ _ h]; rfl, fun i => frozen_of_row w p i _ _ h⟩
theorem cells4 {w : World} {p : Nat} {t : TypeId} {c0 c1 c2 c3 : Value} (h : w.heap[p]? = some (.cells #[c0, c1, c2, c3] t (0, 0))) :
    w.cell? ⟨p, 0, none⟩ = some c0 ∧ w.cell? ⟨p, 1, none⟩ = some c1 ∧ w.cell? ⟨p, 2, none⟩ = some c2 ∧ w.cell? ⟨p, 3, none⟩ = some c3 ∧ ∀ i, w.frozen? ⟨p, i, none⟩ = false :=
  ⟨by rw [cell_of_row w p 0 _ _ _ h]; rfl, by rw [cell_of_row w p 1 _ _ _ h]; rfl, by rw [cell_of_row w p 2 _ _ _ h]; rfl, by rw [cell_of_row w p 3 _ _ _ h]; rfl, fun i => frozen_of_row w p i _ _ h⟩
theorem cells5 {w : World} {p : Nat} {t : TypeId} {c0 c1 c2 c3 c4 : Value} (h : w.heap[p]? = some (.cells #[c0, c1, c2, c3, c4] t (0, 0))) :
    w.cell? ⟨p, 0, none⟩ = some c0 ∧ w.cell? ⟨p, 1, none⟩ = some c1 ∧ w.cell? ⟨p, 2, none⟩ = some c2 ∧ w.cell? ⟨p, 3, none⟩ = some c3 ∧ w.cell? ⟨p, 4, none⟩ = some c4 ∧ ∀ i, w.frozen? ⟨p, i, none⟩ = false :=
  ⟨by rw [cell_of_row w p 0 _ _ _ h]; rfl, by rw [cell_of_row w p 1 _ _ _ h]; rfl, by rw [cell_of_row w p 2 _ _ _ h]; rfl, by rw [cell_of_row w p 3 _ _ _ h]; rfl, by rw [cell_of_row w p 4 _ _ _ h]; rfl, fun i => frozen_of_row w p i _ _ h⟩
theorem heap_drew' (w : World) : w.drew.heap = w.heap := rfl
theorem heap_alloc_at (w : World) (o : Obj) (k : Nat) (h : k = w.heap.size) : (w.alloc o).heap[k]? = some o := by subst h; exact heap_alloc_new w o
theorem wp_world {P : Program} {c : Code} {Q : Exit → Act → World → Prop} {a : Act} {w : World} {S : World → Prop} (h : S w) (k : ∀ w3, S w3 → Code.wp P c Q a w3) : Code.wp P c Q a w := k w h
theorem src_at {P : Program} {tx e' : TypeId} {W : World} {g : Nat} {x : Value} (hk : P.underlying tx = some (.slice e')) (h1 : x.oneCell' = true) (hc : W.cell? ⟨g, 0, none⟩ = some x) : Src P 1 tx (.slice (some ⟨g, 0, none⟩) 1 1) 1 [x] W :=
  Src.ofSlice _ hk _ 1 1 [x] rfl (fun j u hu => by
    match j, hu with
    | 0, hu => simp at hu; subst hu; simpa [Addr.add] using hc) (fun u hu => by simp at hu; subst hu; exact h1)
end Go.Proofs.YtglliendhbkkhaaGreatDoor
namespace Go.Proofs.YtglliendhbkkhaaGreatDoor
open Go.RowKit Go.Shelf
set_option maxRecDepth 100000
set_option linter.unusedVariables false

/-- The two blocks of book-keeping lie as they lay. -/
def Same2 (m : Nat) (W W' : World) : Prop := W'.heap[m]? = W.heap[m]? ∧ W'.heap[m + 1]? = W.heap[m + 1]?
theorem Same2.trans {m : Nat} {A B C : World} (h : Same2 m A B) (k : Same2 m B C) : Same2 m A C := ⟨k.1.trans h.1, k.2.trans h.2⟩
theorem Same2.keep {m : Nat} {S : Nat → Prop} {A B : World} (h : Keep S A B) (hm : m + 1 < A.heap.size) (h0 : ¬ S m) (h1 : ¬ S (m + 1)) : Same2 m A B := ⟨h.block _ (by omega) h0, h.block _ hm h1⟩
end Go.Proofs.YtglliendhbkkhaaGreatDoor

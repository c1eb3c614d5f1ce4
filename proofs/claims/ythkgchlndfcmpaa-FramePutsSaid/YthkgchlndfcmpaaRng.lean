/- A range over a function whose iterator keeps state of its own in one box p: a law at the fence that asks nothing; regions that draw, in a round. No program in sight. -/
import Derived.Test.YthkgchlndfcmpaaMem
import Derived.RangeFuncNested
import Derived.RangeFuncBound
import Derived.RangeFuncCalls
import Derived.RangeFuncLeaves
import Derived.Shelf.Abstract
import Derived.Shelf.RegionOpen
import Derived.WalkKit
import Derived.OwnWalkIn
import Derived.TacticsInMore
import Derived.OrdersIn
import Derived.OrdersHeld
import Derived.LoopNIn
import Derived.LoopIn
namespace Go.Proofs.Ythkgchlndfcmpaa
open Go.RowKit Go.Shelf
set_option maxRecDepth 100000
set_option linter.unusedVariables false

theorem Keep.putObj {S : Nat → Prop} {w w1 : World} (h : Keep S w w1) {l : Nat} (hl : w.heap.size ≤ l ∨ S l) (o : Obj) : Keep S w (w1.putObj l o) :=
  ⟨h.os, h.tape, h.output, by simpa using h.size, fun k hk hn => (World.putObj_heap_other (fun e => by subst e; rcases hl with hl | hl; exact absurd hk (by omega); exact hn hl)).trans (h.block k hk hn)⟩
/-- The two blocks of book-keeping lie as they lay. -/
def Same2 (m : Nat) (W W' : World) : Prop := W'.heap[m]? = W.heap[m]? ∧ W'.heap[m + 1]? = W.heap[m + 1]?
theorem Same2.trans {m : Nat} {A B C : World} (h : Same2 m A B) (k : Same2 m B C) : Same2 m A C := ⟨k.1.trans h.1, k.2.trans h.2⟩
theorem Same2.keep {m : Nat} {S : Nat → Prop} {A B : World} (h : Keep S A B) (hm : m + 1 < A.heap.size) (h0 : ¬ S m) (h1 : ¬ S (m + 1)) : Same2 m A B := ⟨h.block _ (by omega) h0, h.block _ hm h1⟩
/-- How a round may be left: it goes on; or it returns. -/
def RoundEnd {σ : Type} (m : Nat) (Kp : World → World → Prop) (I : σ → World → Prop) (Ix : World → Prop) (s : σ) (W : World) : Exit → Act → World → Prop
  | .normal, _, W' => Same2 m W W' ∧ Kp W W' ∧ I s W'
  | .ret, _, W' => Same2 m W W' ∧ Ix W'
  | _, _, _ => False
theorem wp_range {σ α : Type} {P : Program} {g : Operand} {ps : Array Tmp} {assign body : Code} {Q : Exit → Act → World → Prop} {a : Act} {w : World}
    {gf : Nat} {lb : Array Value} (hg : a.eval g = .func (.func gf) #[] lb) (eg : ∀ args w, (callFunc gf args).run P w = .ok (.enter gf args) w)
    (encs : α → Array Value) (hps : ∀ x, (encs x).size = ps.size) (p : Nat) (hp : p < w.heap.size) (Kp : World → World → Prop) (hKt : ∀ A B C, Kp A B → Kp B C → Kp A C) (hKb : ∀ W o, Kp W (W.putObj (w.heap.size + 1) o))
    (Hx : σ → α → World → World → Prop) (nxt : σ → α → σ) (S : σ → Prop) (s0 : σ)
    (hseq : ∀ (l : Nat) (J : σ → World → Prop) (Jx : World → Prop) (W : World), Keep (fun _ => False) w W → w.heap.size + 2 ≤ W.heap.size → (∀ s A B, J s A → Keep (fun r => r = p) A B → J s B) → (∀ A B, Jx A → Keep (fun r => r = p) A B → Jx B) →
      (∀ s x W0 W1, J s W0 → Keep (fun _ => False) W0 W1 → Hx s x W0 W1 → YieldAt Fence.wide 3 P l (encs x) W1 fun e W' => (e = .returned (.bool true) ∧ J (nxt s x) W' ∧ Kp W1 W') ∨ (e = .returned (.bool false) ∧ Jx W')) →
      J s0 W → Calls P gf (#[.func (.yield l) #[] #[]] ++ lb) W fun e W' => (∃ v, e = .returned v) ∧ ((∃ s, S s ∧ J s W') ∨ Jx W'))
    (I : σ → World → Prop) (Ix : World → Prop) (hI : ∀ s A B, I s A → Keep (fun r => r = p ∨ r = w.heap.size ∨ r = w.heap.size + 1) A B → I s B) (hIx : ∀ A B, Ix A → Keep (fun r => r = p ∨ r = w.heap.size ∨ r = w.heap.size + 1) A B → Ix B) (h0 : I s0 w)
    (hround : ∀ (l : Nat) (s : σ) (x : α) (W0 W : World) (K : Act → World → Prop), I s W0 → Keep (fun _ => False) W0 W → Hx s x W0 W → w.heap.size + 1 < W0.heap.size →
      (∀ a1 W1, Same2 w.heap.size W W1 → Kp W W1 → (∀ W2, Keep (fun r => r = w.heap.size + 1) W1 W2 → body.wpIn (Fence.wide.inRound l) 3 P (RoundEnd w.heap.size Kp I Ix (nxt s x) W2) a1 W2) → K a1 W1) →
      assign.wpIn (Fence.wide.inRound l) 3 P (Exit.then K (fun _ _ _ => False)) { tmps := (ps.zip (encs x)).foldl (fun t (p, v) => t.setIfInBounds p v) a.tmps, defers := [] } W)
    (hdone : ∀ (s : σ) (W : World), S s → I s W → W.heap[w.heap.size]? = some (.deferred (some [])) → Q .normal { a with defers := { target := .collected w.heap.size, args := #[] } :: a.defers } W)
    (hstop : ∀ (W : World), Ix W → W.heap[w.heap.size]? = some (.deferred (some [])) → Q .ret { a with defers := { target := .collected w.heap.size, args := #[] } :: a.defers } W) :
    (Code.rangeFunc g ps assign body).wp P Q a w := by
  refine (wpIn_wide (n := 3)).1 (wpIn_rangeFunc ?_)
  intro fn _
  obtain ⟨rec, hrec⟩ : ∃ rec : LoopState → Option Code → Loop, rec = fun st pe => { state := st, pending := pe, fn, tmps := a.tmps, params := ps, assign, body, defers := w.heap.size } := ⟨_, rfl⟩
  obtain ⟨W1, hW1⟩ : ∃ W1, (w.alloc (.deferred (some []))).alloc (.loop (rec .ready none)) = W1 := ⟨_, rfl⟩
  have hL1 : W1.heap[w.heap.size + 1]? = some (.loop (rec .ready none)) := by
    rw [← hW1]; have := World.alloc_heap_new (w.alloc (.deferred (some []))) (.loop (rec .ready none)); rwa [World.size_alloc] at this
  have hK1 : W1.heap[w.heap.size]? = some (.deferred (some [])) := by
    rw [← hW1]; exact (Below.heap_alloc _ _ _ (by simp)).trans (World.alloc_heap_new w _)
  have hkw : Keep (fun _ => False) w W1 := by rw [← hW1]; exact ((Keep.refl _ w).alloc _).alloc _
  have hI1 : I s0 W1 := hI s0 w W1 h0 (hkw.mono (fun _ _ h => h.elim))
  have pm : p ≠ w.heap.size ∧ p ≠ w.heap.size + 1 := by omega
  refine ⟨w.heap.size + 1, [{ target := .collected w.heap.size, args := #[] }], W1, { target := .fn (.func gf) lb, args := #[.func (.yield (w.heap.size + 1)) #[] #[]] }, W1, gf,
    #[.func (.yield (w.heap.size + 1)) #[] #[]] ++ lb, W1, ?_, ?_, fun _ _ => trivial, ?_, fun h => by simp [Fence.wide] at h, ?_⟩
  · rw [← hW1, hrec]; exact run_enterLoop_outer _ _ _ _ _
  · simp only [resolve, hg]
    simp [go_sem]
  · simp [invoke, go_sem, eg]
  · refine callsIn_wide.2 ((hseq (w.heap.size + 1)
      (fun s W => I s W ∧ W.heap[w.heap.size + 1]? = some (.loop (rec .ready none)) ∧ W.heap[w.heap.size]? = some (.deferred (some [])))
      (fun W => Ix W ∧ W.heap[w.heap.size + 1]? = some (.loop (rec .done (some .ret))) ∧ W.heap[w.heap.size]? = some (.deferred (some [])))
      W1 hkw (Array.getElem?_eq_some_iff.1 hL1).1
      (fun s A B hs hk => ⟨hI s A B hs.1 (hk.mono (fun r _ h => .inl h)), (hk.block _ (Array.getElem?_eq_some_iff.1 hs.2.1).1 (Ne.symm pm.2)).trans hs.2.1, (hk.block _ (Array.getElem?_eq_some_iff.1 hs.2.2).1 (Ne.symm pm.1)).trans hs.2.2⟩)
      (fun A B hs hk => ⟨hIx A B hs.1 (hk.mono (fun r _ h => .inl h)), (hk.block _ (Array.getElem?_eq_some_iff.1 hs.2.1).1 (Ne.symm pm.2)).trans hs.2.1, (hk.block _ (Array.getElem?_eq_some_iff.1 hs.2.2).1 (Ne.symm pm.1)).trans hs.2.2⟩)
      ?_ ⟨hI1, hL1, hK1⟩).mono ?_)
    · rintro s x W0 W ⟨hi, hl, hk⟩ hk0 hx
      have hlt : w.heap.size + 1 < W0.heap.size := (Array.getElem?_eq_some_iff.1 hl).1
      replace hl := (hk0.block _ hlt (fun h => h)).trans hl
      replace hk := (hk0.block _ (Array.getElem?_eq_some_iff.1 hk).1 (fun h => h)).trans hk
      have hy := run_yield (P := P) (args := encs x) hl (by rw [hrec]; exact hps x)
      rw [hrec] at hy
      refine ⟨fn, _, assign, body, hy, roundIn_of_wpIn trivial (Code.wpIn_mono ?_ (hround _ s x W0 W (fun a1 W1 => Same2 w.heap.size W W1 ∧ Kp W W1 ∧ ∀ W2, Keep (fun r => r = w.heap.size + 1) W1 W2 → body.wpIn (Fence.wide.inRound _) 3 P (RoundEnd w.heap.size Kp I Ix (nxt s x) W2) a1 W2) hi hk0 hx hlt (fun _ _ h1 h2 h3 => ⟨h1, h2, h3⟩)))⟩
      rintro e a1 Wa he
      cases e with
      | normal =>
        obtain ⟨hs2, hka, hb⟩ := he
        have hl1 := hs2.2.trans hl
        have hk1 := hs2.1.trans hk
        refine ⟨_, run_beginRound hl1 (by rw [hrec]), ?_⟩
        have hl2 : (Wa.putObj (w.heap.size + 1) (.loop { rec .ready none with state := .busy })).heap[w.heap.size + 1]? = some (.loop { rec .ready none with state := .busy }) := World.putObj_heap_same (Array.getElem?_eq_some_iff.1 hl1).1
        have hk2 : (Wa.putObj (w.heap.size + 1) (.loop { rec .ready none with state := .busy })).heap[w.heap.size]? = some (.deferred (some [])) := (World.putObj_heap_other (by omega)).trans hk1
        refine Code.wpIn_mono ?_ (hb _ ((Keep.refl (fun r => r = w.heap.size + 1) Wa).putObj (.inr rfl) _))
        have fin : ∀ (jump : Option Code) (W3 : World), Same2 w.heap.size (Wa.putObj (w.heap.size + 1) (.loop { rec .ready none with state := .busy })) W3 →
            (Instr.endRound (w.heap.size + 1) jump).run P W3 = .ok (.bool jump.isNone) (W3.putObj (w.heap.size + 1) (.loop (rec (if jump.isNone then .ready else .done) jump))) ∧
            (W3.putObj (w.heap.size + 1) (.loop (rec (if jump.isNone then .ready else .done) jump))).heap[w.heap.size + 1]? = some (.loop (rec (if jump.isNone then .ready else .done) jump)) ∧
            (W3.putObj (w.heap.size + 1) (.loop (rec (if jump.isNone then .ready else .done) jump))).heap[w.heap.size]? = some (.deferred (some [])) := fun jump W3 hk3 => by
          have hl3 := hk3.2.trans hl2
          have := run_endRound (P := P) jump hl3
          rw [hrec] at this ⊢
          exact ⟨this, World.putObj_heap_same (Array.getElem?_eq_some_iff.1 hl3).1, (World.putObj_heap_other (by omega)).trans (hk3.1.trans hk2)⟩
        rintro e a3 W3 hp3
        cases e with
        | normal =>
          obtain ⟨h3, hkp3, hi3⟩ := hp3
          obtain ⟨hr, hl4, hk4⟩ := fin none W3 h3
          exact ⟨_, _, hr, .inl ⟨rfl, ⟨hI _ _ _ hi3 ((Keep.refl _ W3).putObj (.inr (.inr (.inr rfl))) _), hl4, hk4⟩, hKt _ _ _ hka (hKt _ _ _ (hKt _ _ _ (hKb _ _) hkp3) (hKb _ _))⟩⟩
        | ret =>
          obtain ⟨h3, hi3⟩ := hp3
          obtain ⟨hr, hl4, hk4⟩ := fin (some .ret) W3 h3
          exact ⟨_, _, hr, .inr ⟨rfl, hIx _ _ hi3 ((Keep.refl _ W3).putObj (.inr (.inr (.inr rfl))) _), hl4, hk4⟩⟩
        | exit id => exact hp3.elim
        | goto t => exact hp3.elim
        | panic ch => exact hp3.elim
        | outgrown => exact hp3.elim
      | exit id => exact he.elim
      | ret => exact he.elim
      | goto t => exact he.elim
      | panic ch => exact he.elim
      | outgrown => exact he.elim
    · rintro e W2 ⟨⟨v, rfl⟩, (⟨s, hS, hi, hl, hk⟩ | ⟨hi, hl, hk⟩)⟩
      · exact ⟨none, _, by have := run_endLoop (P := P) hl (by rw [hrec]; simp); rw [hrec] at this; exact this, hdone s _ hS (hI _ _ _ hi ((Keep.refl _ W2).putObj (.inr (.inr (.inr rfl))) _)) ((World.putObj_heap_other (by omega)).trans hk)⟩
      · exact ⟨some .ret, _, by have := run_endLoop (P := P) hl (by rw [hrec]; simp); rw [hrec] at this; exact this, wpIn_wide.2 (wp_ret (hstop _ (hIx _ _ hi ((Keep.refl _ W2).putObj (.inr (.inr (.inr rfl))) _)) ((World.putObj_heap_other (by omega)).trans hk)))⟩

/-- A region that draws, in a round: as in any other frame, where no operation is a defer. -/
theorem oper_in {P : Program} {o : Oper} {a : Act} {w : World} {K : Act → World → Prop} {Q : Exit → Act → World → Prop} {n l : Nat} (hd : ∀ c, o.op ≠ .defer c) (h : o.wp P a w K Q) : o.wpIn (Fence.wide.inRound l) n P a w K Q := by
  refine ⟨fun _ _ => trivial, ?_⟩
  unfold Oper.wp at h
  have hs : Oper.semAt (Fence.wide.inRound l).round a.eval o = execOp a.eval o := Oper.semAt_eq _ _ _ hd
  rw [hs]
  generalize (execOp a.eval o).run P w = r at *
  cases r with
  | ok x w' =>
    cases x <;> simp only [Oper.upon, Oper.uponIn] at h ⊢ <;>
      first
        | exact h
        | exact h.elim
        | exact ⟨fun h => by simp [Fence.wide, Fence.inRound] at h, CallsIn.inRound l (callsIn_wide.2 h)⟩
        | exact ⟨fun h => by simp [Fence.wide, Fence.inRound] at h, fun c cs _ => by obtain ⟨v, w', hr, hs⟩ := h c cs; exact ⟨v, w', hr, stepsIn_wide.2 hs⟩⟩
  | halt x w' => cases x <;> simp only [Oper.upon, Oper.uponIn] at h ⊢ <;> exact h
def noDefer (ops : Array Oper) : Bool := ops.all fun o => match o.op with | .defer _ => false | _ => true
theorem noDefer_of {ops : Array Oper} (h : noDefer ops = true) {i : Nat} {o : Oper} (hi : ops[i]? = some o) (c : Call) : o.op ≠ .defer c := by
  unfold noDefer at h
  rw [Array.all_eq_true'] at h
  have := h o (Array.mem_of_getElem? hi)
  intro e
  rw [e] at this
  cases this
theorem any_in {P : Program} {md : Region.Mode} {ops : Array Oper} {Q : Exit → Act → World → Prop} {n l : Nat} (hd : noDefer ops = true) (hl : ¬ LetsOut Q) :
    ∀ (fuel : Nat) (listed : Array Bool) (a : Act) (w : World), wpAny P md ops Q fuel listed a w → wpAnyIn (Fence.wide.inRound l) n P md ops Q fuel listed a w
  | 0, _, _, _, h => h
  | fuel + 1, listed, a, w, h => ⟨h.1, fun i hi => by
    have h1 := h.2 i hi
    refine wpOpIn_mono (K := wpAny P md ops Q fuel (listed.setIfInBounds i true)) (fun a' w' h' => any_in hd hl fuel _ a' w' h') ?_
    unfold wpOp at h1
    unfold wpOpIn
    cases ho : ops[i]? with
    | none => simp only [ho] at h1 ⊢; exact h1
    | some o =>
      simp only [ho] at h1 ⊢
      split
      · rename_i hw
        simp only [hw, if_true] at h1
        rcases h1 with h1 | ⟨_, h1⟩
        · exact oper_in (noDefer_of hd ho) h1
        · exact absurd h1 hl
      · rename_i hw
        simp only [hw] at h1
        exact ⟨fun _ _ => trivial, h1⟩⟩
theorem region_in {P : Program} {id n l : Nat} {ops : Array Oper} {Q : Exit → Act → World → Prop} {a : Act} {w : World} (S : World → Prop) (hm : P.follows .mixedOrders = true) (hd : noDefer ops = true) (hl : ¬ LetsOut Q) (hS : S w.drew)
    (h : wpAnyH P .any ops Q S ops.size (Array.replicate ops.size false) a w.drew) : (Code.region id ops true).wpIn (Fence.wide.inRound l) n P Q a w :=
  wpIn_region_any hm (any_in hd hl _ _ _ _ (wpAny_of_held _ _ _ _ h))
end Go.Proofs.Ythkgchlndfcmpaa

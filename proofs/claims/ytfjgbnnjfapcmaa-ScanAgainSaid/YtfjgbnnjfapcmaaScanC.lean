/- Where the walk of ScanGrows stands; plain facts on the records that are laid. -/
import Derived.Test.YtfjgbnnjfapcmaaScanB
import Derived.Test.YtfjgbnnjfapcmaaScanOnesW
namespace Go.Proofs.Ytfjgbnnjfapcmaa
open Go.RowKit
set_option maxRecDepth 100000
set_option linter.unusedVariables false
set_option linter.unusedSimpArgs false

/-- A layout in the first box, a tail in block q. -/
structure GrSt (w W : World) (a b c d u : Value) (q : Nat) (vR : Value) (R0 : List (List UInt8)) (tl te tq : Int) : Prop where
  k : KSt w W a b c d u
  lt : w.heap.size < q
  box : W.heap[q]? = some (.cells #[vR, .int .i64 tl, .int .i64 te, .int .i64 tq] 44 (0, 0))
  recs : Bys W (fun b => b < q) vR R0
section
variable {w W W' : World} {a b c d u vR : Value} {q : Nat} {R0 : List (List UInt8)} {tl te tq : Int}
theorem GrSt.hq (h : GrSt w W a b c d u q vR R0 tl te tq) : q < W.heap.size := (Array.getElem?_eq_some_iff.1 h.box).1
theorem GrSt.keep_ {S : Nat → Prop} (h : GrSt w W a b c d u q vR R0 tl te tq) (hk : Keep S W W') (hS : ∀ x, S x → q < x) : GrSt w W' a b c d u q vR R0 tl te tq :=
  have h1 := h.lt
  have h2 := h.hq
  ⟨⟨(hk.block _ h.k.lt (fun e => by have := hS _ e; omega)).trans h.k.1, ((Keep.of_below h.k.2).trans hk (fun x _ e => by have := hS _ e; omega)).to_below (Nat.le_refl _)⟩, h1, (hk.block _ h2 (fun e => by have := hS _ e; omega)).trans h.box, h.recs.keep hk (fun b _ hb e => by have := hS _ e; omega)⟩
theorem GrSt.to (h : GrSt w W a b c d u q vR R0 tl te tq) (hb : Below W.heap.size W W') : GrSt w W' a b c d u q vR R0 tl te tq := h.keep_ (Keep.of_below' hb) (fun _ h => h.elim)
theorem GrSt.keep (h : GrSt w W a b c d u q vR R0 tl te tq) : Keep (fun _ => False) w W := h.k.keep
theorem KSt.tail {F : Nat → Prop} (h : KSt w W a b c d u) (hr : Bys W F vR R0) (tl te tq : Int) : GrSt w (W.alloc (.cells #[vR, .int .i64 tl, .int .i64 te, .int .i64 tq] 44)) a b c d u W.heap.size vR R0 tl te tq :=
  ⟨h.below ((Below.refl _ W).alloc (Nat.le_refl _) _), h.lt, heap_alloc_new W _, (hr.mono (G := fun b => b < W.heap.size) (fun b hb _ => hb)).keep ((Keep.refl (fun _ => False) W).alloc _) (fun _ _ _ h => h)⟩
end
/-- The records of the first k frames. -/
def rcs (FS : List (List Cmd)) (k : Nat) : List (List UInt8) := (FS.take k).map frameB
theorem rcs_len {FS : List (List Cmd)} {k : Nat} (h : k ≤ FS.length) : (rcs FS k).length = k := by unfold rcs; rw [List.length_map, List.length_take]; omega
theorem rcs_zero (FS : List (List Cmd)) : rcs FS 0 = [] := by unfold rcs; rw [List.take_zero]; rfl
theorem rcs_next {FS : List (List Cmd)} {k : Nat} (h : k < FS.length) : rcs FS (k + 1) = rcs FS k ++ [frameB (FS.getD k [])] := by
  unfold rcs
  rw [List.take_add_one, List.map_append, List.getElem?_eq_getElem h, List.getD_eq_getElem?_getD, List.getElem?_eq_getElem h]; rfl
/-- All of the first k may be. -/
def oks (FS : List (List Cmd)) (k : Nat) : Prop := ∀ x ∈ FS.take k, checksF x = 0
theorem oks_zero (FS : List (List Cmd)) : oks FS 0 := fun x h => by simp at h
theorem oks_next {FS : List (List Cmd)} {k : Nat} (h : k < FS.length) (ho : oks FS k) (h0 : checksF (FS.getD k []) = 0) : oks FS (k + 1) := fun x hx => by
  rw [List.take_add_one, List.getElem?_eq_getElem h] at hx
  rcases List.mem_append.1 hx with hx | hx
  · exact ho x hx
  · rw [List.getD_eq_getElem?_getD, List.getElem?_eq_getElem h] at h0
    have : x = FS[k]'h := by simpa using hx
    rw [this]; exact h0
theorem oks_all {FS : List (List Cmd)} (h : oks FS FS.length) (hr : ∀ x ∈ FS, cmR x) : ∀ b ∈ rcs FS FS.length, need b.length ≤ 1024 ∧ (getFr b).2 = 0 := fun b hb => by
  unfold rcs at hb
  obtain ⟨x, hx, rfl⟩ := List.mem_map.1 hb
  rw [List.take_length] at hx
  exact frame_ok (h x (by rw [List.take_length]; exact hx)) (hr x hx)
theorem rcs_bytes {FS : List (List Cmd)} (h : oks FS FS.length) : ∀ b ∈ rcs FS FS.length, b.length ≤ 1099511627776 := fun b hb => by
  unfold rcs at hb
  obtain ⟨x, hx, rfl⟩ := List.mem_map.1 hb
  exact Nat.le_trans (frameB_le (h x hx)) (by decide)
theorem secs_next {FS : List (List Cmd)} {k : Nat} (m tl tq : Int) (h : k < FS.length) :
    secsF m tl tq (rcs FS (k + 1)) = secsF m tl tq (rcs FS k) ++ sealedF m (tl + (secsF m tl tq (rcs FS k)).length) (tq + (k : Nat)) (frameB (FS.getD k [])) := by
  rw [rcs_next h, secsF_snoc, rcs_len (by omega)]
theorem secs_few {FS : List (List Cmd)} {k : Nat} (m tl tq : Int) (h : k ≤ FS.length) : (secsF m tl tq (rcs FS k)).length ≤ 1024 * k := by
  have := secs_le m (rcs FS k) tl tq
  rwa [rcs_len h] at this
theorem Tw.fst {B : Nat} {w : World} {u v : Value} {R S : List (List UInt8)} (h : Tw B w u v R S) : Bys w (fun _ => True) u R := h.1.nb.bys
theorem Tw.snd {B : Nat} {w : World} {u v : Value} {R S : List (List UInt8)} (h : Tw B w u v R S) : Bys w (fun _ => True) v S := h.2.1.nb.bys
/-- The cells of the first ones. -/
theorem Bys.src {w : World} {F : Nat → Prop} {A : Option Addr} {n d k : Nat} {L : List (List UInt8)} (h : Bys w F (.slice A n d) L) (hk : k ≤ n) : ∃ cs : List Value, cs.length = (L.take k).length ∧ (L.take k).length = k ∧ Src Try.prog 1 25 (.slice A k d) k cs w ∧ ∀ (i : Nat) x q, (L.take k)[i]? = some x → cs[i]? = some q → By w F q x := by
  obtain ⟨cs, h1, h2⟩ := h
  have hcl : cs.length = L.length := by have := h1.len; rw [Nat.mul_one] at this; exact this
  obtain ⟨A', c, e, _, _, _, h4⟩ := h1
  injection e with e1 e2 e3
  subst e1 e2 e3
  have hone := Bys.one hcl h2
  have hlen : (L.take k).length = k := by rw [List.length_take]; omega
  refine ⟨cs.take k, by rw [List.length_take, List.length_take]; omega, hlen, Rd.src (F := F) (n := k) ⟨by rw [List.length_take]; omega, fun h0 => ?_⟩ Try.underlying25 (fun u hu => hone u (List.mem_of_mem_take hu)) (by decide), fun i x q hx hq => ?_⟩
  · obtain ⟨b, o, e1, e2, hc⟩ := h4.2 (by omega)
    refine ⟨b, o, e1, e2, fun i u hu => hc i u ?_⟩
    rw [List.getElem?_take] at hu
    split at hu
    · exact hu
    · cases hu
  · rw [List.getElem?_take] at hx hq
    split at hx
    · rename_i hik
      rw [if_pos hik] at hq
      obtain ⟨u, hu, hb⟩ := h2 i x hx
      rw [hq] at hu
      obtain rfl := Option.some.inj hu
      exact hb
    · cases hx
theorem Bys.srcK {w : World} {F : Nat → Prop} {A : Option Addr} {n d k : Nat} {L : List (List UInt8)} (h : Bys w F (.slice A n d) L) (hk : k ≤ n) : ∃ cs : List Value, cs.length = (L.take k).length ∧ (∀ W, Keep (fun _ => False) w W → Src Try.prog 1 25 (.slice A k d) k cs W) ∧ ∀ (i : Nat) x q, (L.take k)[i]? = some x → cs[i]? = some q → By w F q x := by
  obtain ⟨cs, h1, h2⟩ := h
  have hcl : cs.length = L.length := by have := h1.len; rw [Nat.mul_one] at this; exact this
  obtain ⟨A', c, e, _, _, _, h4⟩ := h1
  injection e with e1 e2 e3
  subst e1 e2 e3
  have hone := Bys.one hcl h2
  refine ⟨cs.take k, by rw [List.length_take, List.length_take]; omega, fun W hW => Rd.src (F := F) (n := k) ⟨by rw [List.length_take]; omega, fun h0 => ?_⟩ Try.underlying25 (fun u hu => hone u (List.mem_of_mem_take hu)) (by decide), fun i x q hx hq => ?_⟩
  · obtain ⟨b, o, e1, e2, hc⟩ := h4.2 (by omega)
    refine ⟨b, o, e1, e2, fun i u hu => hW.cell (fun h => h) (hc i u ?_)⟩
    rw [List.getElem?_take] at hu
    split at hu
    · exact hu
    · cases hu
  · rw [List.getElem?_take] at hx hq
    split at hx
    · rename_i hik
      rw [if_pos hik] at hq
      obtain ⟨u, hu, hb⟩ := h2 i x hx
      rw [hq] at hu
      obtain rfl := Option.some.inj hu
      exact hb
    · cases hx
theorem two_cells {w w' : World} {F G : Nat → Prop} {R L : List (List UInt8)} {cs ds : List Value} (hk : Keep (fun _ => False) w w') (hc : cs.length = R.length) (h1 : ∀ (i : Nat) x q, R[i]? = some x → cs[i]? = some q → By w F q x) (h2 : ∀ (i : Nat) x q, L[i]? = some x → ds[i]? = some q → By w G q x) :
    ∀ (i : Nat) x q, (R ++ L)[i]? = some x → (cs ++ ds)[i]? = some q → By w' (fun _ => True) q x := fun i x q hx hq => by
  rcases Nat.lt_or_ge i R.length with hi | hi
  · rw [List.getElem?_append_left hi] at hx
    rw [List.getElem?_append_left (by omega)] at hq
    exact By.mono (By.keep (h1 i x q hx hq) hk (fun _ _ _ h => h)) (fun _ _ _ => trivial)
  · rw [List.getElem?_append_right hi] at hx
    rw [List.getElem?_append_right (by omega), hc] at hq
    exact By.mono (By.keep (h2 _ x q hx hq) hk (fun _ _ _ h => h)) (fun _ _ _ => trivial)
/-- What an own row of slices reads as. -/
theorem Own.bys {w : World} {B : Nat} {e : TypeId} {v : Value} {n : Nat} {cs : List Value} {L : List (List UInt8)} (h : Own w B e 1 v n cs) (hl : cs.length = L.length) (hb : ∀ (i : Nat) x q, L[i]? = some x → cs[i]? = some q → By w (fun _ => True) q x) : Bys w (fun _ => True) v L := by
  have hn : n = L.length := by have := h.1; omega
  subst hn
  refine ⟨cs, h.sl.mono (fun _ _ _ => trivial), fun i r hr => ?_⟩
  have hi : i < cs.length := by rw [hl]; exact (List.getElem?_eq_some_iff.1 hr).1
  exact ⟨cs[i], List.getElem?_eq_getElem hi, hb i r _ hr (List.getElem?_eq_getElem hi)⟩
/-- What an append of a list of slices takes. -/
theorem ListSt.src {B : Nat} {w : World} {A : Option Addr} {n d : Nat} {L : List (List UInt8)} (h : ListSt B w (.slice A n d) L) : ∃ cs : List Value, cs.length = L.length ∧ L.length = n ∧ Src Try.prog 1 25 (.slice A n d) n cs w ∧ ∀ (i : Nat) x q, L[i]? = some x → cs[i]? = some q → By w (fun b => B ≤ b) q x := by
  obtain ⟨cs, h1, h2⟩ := h.bys
  have hcl : cs.length = L.length := by have := h1.len; rw [Nat.mul_one] at this; exact this
  obtain ⟨A', c, e, _, _, _, h4⟩ := h1
  injection e with e1 e2 e3
  subst e1 e2 e3
  refine ⟨cs, hcl, rfl, h4.src Try.underlying25 (Bys.one hcl h2) (by decide), fun i x q hx hq => ?_⟩
  obtain ⟨u, hu, hb⟩ := h2 i x hx
  rw [hq] at hu
  obtain rfl := Option.some.inj hu
  exact hb
end Go.Proofs.Ytfjgbnnjfapcmaa

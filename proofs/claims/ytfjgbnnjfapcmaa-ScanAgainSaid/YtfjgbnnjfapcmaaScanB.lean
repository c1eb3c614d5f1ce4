/- Lists of frames that came in; two lists of byte slices that are built side by side; plain facts on frames' bytes. -/
import Derived.Test.YtfjgbnnjfapcmaaScanA
import Derived.Test.YtfjgbnnjfapcmaaScanLv
import Derived.Test.YtfjgbnnjfapcmaaFrm1
namespace Go.Proofs.Ytfjgbnnjfapcmaa
open Go.RowKit
set_option maxRecDepth 100000
set_option linter.unusedVariables false
set_option linter.unusedSimpArgs false

/-- Slices of commands, as a shape. -/
def csN : Nst (List Cmd) Value where
  cells := fun p => [p.2]
  m := 1
  pos := Nat.one_pos
  len := fun _ => rfl
  inn := fun w F l u => NS cmN w F u l
  one := fun h u hu => by
    obtain rfl : u = _ := by simpa using hu
    obtain ⟨A, c, rfl, -⟩ := NS.form h
    rfl
  keep := fun h hk hs => NS.keep h hk hs
  mono := fun h hf => NS.mono h hf
def cmR (l : List Cmd) : Prop := ∀ x ∈ l, rngC x
theorem argFrames {H : Type} {enc : TypeId × Value → H} {w : World} {base : Nat} {spare : Nat → Bool} {held : Bool} {A : Option Addr} {len cap : Nat} {d : DataW H} {p : List MemPlace}
    (h : DataW.Trod enc Try.prog w base spare held 39 (.slice A len cap) d p) : ∃ l, NS csN w (fun _ => True) (.slice A len cap) l ∧ ∀ x ∈ l, cmR x := by
  haveI : Inhabited (List Cmd × Value) := ⟨([], undef)⟩
  have cl : Try.prog.cellsOf 48 = 1 := by kernel_rfl
  obtain ⟨l, g1, g2, g3, rfl, g5, g6⟩ := argSt (f := csN.cells) (ok := fun y => NS cmN w (fun _ => True) y.2 y.1 ∧ cmR y.1) csN.len (by decide) Try.underlying39 cl (fun n cs x hl hx => by
    obtain ⟨A1, n1, d1, rfl⟩ := Joins.slice_form Try.underlying48 hx
    obtain ⟨y, hy, hr⟩ := argCmds (enc := enc) (base := base) (spare := spare) (held := held) (d := x.1) (p := x.2) ⟨n, by simpa [Value.cells] using hx⟩
    exact ⟨(y, _), rfl, hy, fun z hz => ⟨wf_i64 (hr z hz).1, wf_i64 (hr z hz).2.1, wf_i64 (hr z hz).2.2.1, wf_i64 (hr z hz).2.2.2⟩⟩) h
  have hz : (l.map Prod.fst).zip (l.map Prod.snd) = l := by
    clear g1 g3 g5 h
    induction l with
    | nil => rfl
    | cons y l ih => simp [ih]
  refine ⟨l.map Prod.fst, ⟨l.map Prod.snd, by simp, ?_, fun i x u hx hu => ?_⟩, fun x hx => ?_⟩
  · rw [hz]; exact ⟨A, cap, rfl, g1, g2, g3, g6⟩
  · have h2 : l[i]? = some (x, u) := by rw [← hz]; exact List.getElem?_zip_eq_some.2 ⟨hx, hu⟩
    exact (g5 _ (List.mem_of_getElem? h2)).1
  · obtain ⟨y, hy, rfl⟩ := List.mem_map.1 hx
    exact (g5 y hy).2
theorem csAt {w : World} {F : Nat → Prop} {A : Option Addr} {n c k : Nat} {l : List (List Cmd)} (h : NS csN w F (.slice A n c) l) (hk : k < n) :
    ∃ b off A1 c1, A = some ⟨b, off, none⟩ ∧ l[k]? = some (l.getD k []) ∧ NS cmN w F (.slice A1 (l.getD k []).length c1) (l.getD k []) ∧ w.cell? ⟨b, off + k, none⟩ = some (.slice A1 (l.getD k []).length c1) := by
  obtain ⟨b, off, x, v, h1, h2, h3, h4, h5⟩ := h.at_ hk
  have hx : l.getD k [] = x := by rw [List.getD_eq_getElem?_getD, h3]; rfl
  rw [hx]
  obtain ⟨A1, c1, rfl, -⟩ := NS.form (show NS cmN w F v x from h4)
  have h6 := h5 0 _ rfl
  rw [show csN.m = 1 from rfl, Nat.mul_one, Nat.add_zero] at h6
  exact ⟨b, off, A1, c1, h1, h3, h4, h6⟩
/-- A slice of ints that came in. -/
theorem argInts {w : World} {A : Option Addr} {len cap : Nat} {zs : List Int} (h : ArgRow .i64 w A len cap zs) : Sl w (fun _ => True) 1 (.slice A zs.length cap) zs.length (iv zs) ∧ (∀ t ∈ zs, -9223372036854775808 ≤ t ∧ t ≤ 9223372036854775807) ∧ zs.length = len := by
  obtain ⟨h1, h2, h3, h4, h5⟩ := h
  have hz : zs.length = len := by have := h3.1; simpa using this
  refine ⟨⟨A, cap, rfl, by omega, h2, h5, ?_⟩, fun t ht => ?_, hz⟩
  · rw [Nat.mul_one, hz]; exact h3
  · exact wf_i64 (h4 t ht)
/-- Behind an append of many. -/
theorem NBX.pushes {X : Nat → Prop} {B : Nat} {e : TypeId} {w w' : World} {v v' : Value} {R L : List (List UInt8)} {cs : List Value} {us : List Value} (h1 : us.length = R.length)
    (h3 : ∀ (i : Nat) x q, R[i]? = some x → us[i]? = some q → By w (fun b => X b ∧ ownB v ≠ some b) q x) (hc : cs.length = L.length)
    (h4 : ∀ (i : Nat) x q, L[i]? = some x → cs[i]? = some q → By w (fun b => X b ∧ ownB v ≠ some b) q x) (ho : Own w' B e 1 v' (R.length + L.length) (us ++ cs)) (hk : Keep (fun k => ownB v = some k) w w')
    (hn : ∀ k, ownB v' = some k → ownB v = some k ∨ w.heap.size ≤ k) : NBX bsN X B e w' v' (R ++ L) := by
  have mv : ∀ (y : List UInt8) (q : Value), By w (fun b => X b ∧ ownB v ≠ some b) q y → By w' (fun b => X b ∧ ownB v' ≠ some b) q y := fun y q h =>
    By.mono (By.keep (By.mono (G := fun b => (X b ∧ ownB v ≠ some b) ∧ b < w.heap.size) h (fun b hb h => ⟨h, hb⟩)) hk (fun b _ h e => h.1.2 e)) (fun b _ h => ⟨h.1.1, fun e => by
      rcases hn b e with e | e
      · exact h.1.2 e
      · have := h.2; omega⟩)
  refine ⟨us ++ cs, by rw [List.length_append, List.length_append, h1, hc], ?_, fun i x q hx hq => ?_⟩
  · show Own w' B e 1 v' (R ++ L).length (((R ++ L).zip (us ++ cs)).flatMap (fun p => [p.2]))
    rw [zip_snd (by rw [List.length_append, List.length_append, h1, hc]), List.length_append]
    exact ho
  · show By w' _ q x
    rcases Nat.lt_or_ge i R.length with hi | hi
    · rw [List.getElem?_append_left hi] at hx
      rw [List.getElem?_append_left (by omega)] at hq
      exact mv x q (h3 i x q hx hq)
    · rw [List.getElem?_append_right hi] at hx
      rw [List.getElem?_append_right (by omega), h1] at hq
      exact mv x q (h4 _ x q hx hq)
/-- Two lists that are built side by side. -/
def Tw (B : Nat) (w : World) (u v : Value) (R S : List (List UInt8)) : Prop :=
  NBX bsN (fun b => B ≤ b ∧ ownB v ≠ some b) B 29 w u R ∧ NBX bsN (fun b => B ≤ b ∧ ownB u ≠ some b) B 29 w v S ∧ (∀ k, ownB u = some k → ownB v ≠ some k)
section
variable {B : Nat} {w w' : World} {u u' v v' : Value} {R S L : List (List UInt8)} {us cs : List Value}
theorem Tw.first (B : Nat) (w : World) : Tw B w (.slice none 0 0) (.slice none 0 0) [] [] := ⟨NBX.nil _ _ _ _ _, NBX.nil _ _ _ _ _, fun k h => by simp [ownB] at h⟩
theorem Tw.swap (h : Tw B w u v R S) : Tw B w v u S R := ⟨h.2.1, h.1, fun k e1 e2 => h.2.2 k e2 e1⟩
theorem Tw.same (h : Tw B w u v R S) (hk : Keep (fun _ => False) w w') : Tw B w' u v R S := ⟨h.1.keep hk (fun _ _ h => h) (fun _ _ _ _ h => h), h.2.1.keep hk (fun _ _ h => h) (fun _ _ _ _ h => h), h.2.2⟩
theorem NBX.mono' {X Y : Nat → Prop} {e : TypeId} (h : NBX bsN X B e w u R) (hX : ∀ b, b < w.heap.size → X b → Y b) : NBX bsN Y B e w u R := by
  obtain ⟨us, h1, h2, h3⟩ := h
  exact ⟨us, h1, h2, fun i x v hx hv => bsN.mono (h3 i x v hx hv) (fun b hb h => ⟨hX b hb h.1, h.2⟩)⟩
theorem Tw.ofo (h : Tw B w u v R S) : ∃ us : List Value, us.length = R.length ∧ Own w B 29 1 u R.length us ∧ ∀ (i : Nat) x q, R[i]? = some x → us[i]? = some q → By w (fun b => (B ≤ b ∧ ownB v ≠ some b) ∧ ownB u ≠ some b) q x := by
  obtain ⟨us, h1, h2, h3⟩ := h.1
  have h2 : Own w B 29 1 u R.length ((R.zip us).flatMap (fun p => [p.2])) := h2
  rw [zip_snd h1] at h2
  exact ⟨us, h1, h2, h3⟩
/-- Behind an append to the first. -/
theorem Tw.push (h : Tw B w u v R S) (h1 : us.length = R.length) (h3 : ∀ (i : Nat) x q, R[i]? = some x → us[i]? = some q → By w (fun b => (B ≤ b ∧ ownB v ≠ some b) ∧ ownB u ≠ some b) q x) (hc : cs.length = L.length)
    (h4 : ∀ (i : Nat) x q, L[i]? = some x → cs[i]? = some q → By w (fun b => (B ≤ b ∧ ownB v ≠ some b) ∧ ownB u ≠ some b) q x) (ho : Own w' B 29 1 u' (R.length + L.length) (us ++ cs)) (hk : Keep (fun k => ownB u = some k) w w')
    (hn : ∀ k, ownB u' = some k → ownB u = some k ∨ w.heap.size ≤ k) : Tw B w' u' v (R ++ L) S := by
  refine ⟨NBX.pushes h1 h3 hc h4 ho hk hn, ?_, fun k e1 e2 => ?_⟩
  · refine (NBX.keep (X := fun b => (B ≤ b ∧ ownB u ≠ some b) ∧ b < w.heap.size) (h.2.1.mono' (fun b hb h => ⟨h, hb⟩)) hk (fun k e1 e2 => h.2.2 k e2 e1) (fun b _ h _ e => h.1.2 e)).mono' (fun b _ hb => ⟨hb.1.1, fun e => ?_⟩)
    rcases hn b e with e2 | e2
    · exact hb.1.2 e2
    · have := hb.2; omega
  · rcases hn k e1 with e3 | e3
    · exact h.2.2 k e3 e2
    · have := (h.2.1.own_lt e2).2; omega
end
/-- A frame's bytes are few. -/
theorem bytesC_few {x : Cmd} (h : x.l.length ≤ 64) : (bytesC x).length ≤ 100 := by
  unfold bytesC
  split
  · simp
  · rw [List.length_append, leB_len]
    split
    · simp
    · rw [List.length_append, List.length_append]
      split <;> split <;> split <;> simp [leB_len] <;> omega
theorem flat_le : ∀ {l : List Cmd}, (∀ x ∈ l, x.l.length ≤ 64) → (l.flatMap bytesC).length ≤ 100 * l.length
  | [], _ => by simp
  | x :: l, h => by
    rw [List.flatMap_cons, List.length_append, List.length_cons]
    have h1 := bytesC_few (h x (List.mem_cons_self ..))
    have h2 := flat_le (fun y hy => h y (List.mem_cons_of_mem _ hy))
    omega
theorem frameB_le {l : List Cmd} (h : checksF l = 0) : (frameB l).length ≤ 6405 := by
  obtain ⟨h64, hall⟩ := checksF_0 h
  have h2 := flat_le (l := l) (fun x hx => (hall x hx).2)
  unfold frameB fronB cmdsB
  rw [List.length_append, List.length_append, leB_len, leB_len, List.take_length]
  omega
theorem frame_ok {l : List Cmd} (h : checksF l = 0) (hr : cmR l) : need (frameB l).length ≤ 1024 ∧ (getFr (frameB l)).2 = 0 := by
  refine ⟨?_, by rw [get_put l h hr]⟩
  have := frameB_le h
  unfold need
  split <;> omega
theorem secs_le (ep : Int) : ∀ (R : List (List UInt8)) (lsn sq : Int), (secsF ep lsn sq R).length ≤ 1024 * R.length
  | [], _, _ => by simp [secsF]
  | b :: R, lsn, sq => by
    rw [secsF, List.length_append, sealedF_len, List.length_cons]
    have h1 := splitL_le sq b
    have h2 := secs_le ep R (lsn + (splitL sq b).length) (sq + 1)
    omega
theorem secs_512 (ep : Int) : ∀ (R : List (List UInt8)) (lsn sq : Int), ∀ s ∈ secsF ep lsn sq R, s.length = 512
  | [], _, _, s, h => by simp [secsF] at h
  | b :: R, lsn, sq, s, h => by
    rw [secsF] at h
    rcases List.mem_append.1 h with h | h
    · unfold sealedF at h
      obtain ⟨i, _, rfl⟩ := List.mem_map.1 h
      exact sealB_len _
    · exact secs_512 ep R _ _ s h
theorem topTo_le {l : List (List UInt8)} : ∀ (k : Nat), k ≤ l.length → 0 ≤ topTo l k ∧ ∀ i, i < k → topZ (l.getD i []) ≤ topTo l k
  | 0, _ => ⟨by rw [topTo_zero]; exact Int.le_refl _, fun i hi => absurd hi (by omega)⟩
  | k + 1, hk => by
    obtain ⟨h1, h2⟩ := topTo_le (l := l) k (by omega)
    rw [topTo_next (by omega)]
    refine ⟨Int.le_trans h1 (Int.le_max_left _ _), fun i hi => ?_⟩
    by_cases e : i = k
    · subst e; exact Int.le_max_right _ _
    · exact Int.le_trans (h2 i (by omega)) (Int.le_max_left _ _)
theorem top_all (l : List (List UInt8)) : 0 ≤ topTo l l.length ∧ ∀ s ∈ l, topZ s ≤ topTo l l.length := by
  obtain ⟨h1, h2⟩ := topTo_le l.length (Nat.le_refl _)
  refine ⟨h1, fun s hs => ?_⟩
  obtain ⟨i, hi, rfl⟩ := List.getElem_of_mem hs
  have := h2 i hi
  rwa [List.getD_eq_getElem?_getD, List.getElem?_eq_getElem hi] at this
end Go.Proofs.Ytfjgbnnjfapcmaa

/- A core, plain: who stands where; entering, leaving. -/
import Derived.Test.YtdeifjnhbdkkgaaGreatDoorEcs7
import Derived.Test.YtdeifjnhbdkkgaaGreatDoorSt1
import Derived.Test.YtdeifjnhbdkkgaaGreatDoorEcs9
import Derived.Test.YtdeifjnhbdkkgaaGreatDoorEcsA
namespace Go.Proofs.YtdeifjnhbdkkgaaGreatDoor
open Go.RowKit
set_option maxRecDepth 100000
set_option linter.unusedVariables false
set_option linter.unusedSimpArgs false

theorem getD_set_at {α : Type} (d : α) {l : List α} {i : Nat} (j : Nat) (x : α) (h : i < l.length) : (l.set i x).getD j d = if j = i then x else l.getD j d := by
  by_cases e : j = i
  · subst e; rw [if_pos rfl, getD_set_self d l x h]
  · rw [if_neg e, getD_set_ne d l x (fun h => e h.symm)]
theorem dropL_at {l : List IdZ} {r : Nat} (k : Nat) (hr : r < l.length) : (dropL l r)[k]? = if k < l.length - 1 then (if k = r then some (l.getD (l.length - 1) default) else l[k]?) else none := by
  unfold dropL
  rw [List.getElem?_take]
  by_cases h : k < l.length - 1
  · rw [if_pos h, if_pos h, List.getElem?_set]
    by_cases e : r = k
    · subst e; rw [if_pos rfl, if_pos hr, if_pos rfl]
    · rw [if_neg e, if_neg (fun h => e h.symm)]
  · rw [if_neg h, if_neg h]
theorem dropR_at {l : List (List UInt8)} {r : Nat} (k : Nat) (hr : r < l.length) (hk : k < l.length - 1) : (dropR l r).getD k [] = if k = r then l.getD (l.length - 1) [] else l.getD k [] := by
  unfold dropR
  rw [List.getD_eq_getElem?_getD, List.getElem?_take, if_pos hk, List.getElem?_set]
  by_cases e : r = k
  · subst e; rw [if_pos rfl, if_pos hr, if_pos rfl]; rfl
  · rw [if_neg e, if_neg (fun h => e h.symm), ← List.getD_eq_getElem?_getD]
theorem dropR_len (l : List (List UInt8)) (r : Nat) : (dropR l r).length = l.length - 1 := by
  unfold dropR
  rw [List.length_take, List.length_set]; omega
theorem dropR_mem {l : List (List UInt8)} {r : Nat} {e : List UInt8} (hr : r < l.length) (h : e ∈ dropR l r) : e ∈ l := by
  unfold dropR at h
  have h := List.mem_of_mem_take h
  rcases List.mem_or_eq_of_mem_set h with h | rfl
  · exact h
  · rw [List.getD_eq_getElem?_getD, List.getElem?_eq_getElem (by omega)]; exact List.getElem_mem _
theorem rowC_in {n r : Nat} (h : r < n) : rowC n (r : Int) = 0 := by
  unfold rowC
  rw [if_neg (by omega)]
/-- Who stands, of which generation; where. -/
structure CoOk (l : List Cp) (a : Co) (L : Nat → Option Nat) : Prop where
  st : ∀ i g, L i = some g → i < a.spots.length ∧ (spAt a i).node < a.tabs.length ∧ (tbAt a (spAt a i).node).ids[(spAt a i).row]? = some ⟨(i : Int), (g : Int)⟩
  bk : ∀ j r x, (tbAt a j).ids[r]? = some x → ∃ i g : Nat, x = ⟨(i : Int), (g : Int)⟩ ∧ L i = some g ∧ (spAt a i).node = j ∧ (spAt a i).row = r
  col : ∀ j, ∀ d ∈ bl (sgAt a j) 64, ((tbAt a j).col d).length = (tbAt a j).ids.length ∧ ∀ e ∈ (tbAt a j).col d, e.length = szOf l d
section
variable {l : List Cp} {a : Co} {L : Nat → Option Nat} {i g : Nat}
theorem CoOk.ext (h : CoOk l a L) {L' : Nat → Option Nat} (e : ∀ i, L' i = L i) : CoOk l a L' := by
  have : L' = L := funext e
  rw [this]; exact h
theorem CoOk.na (h : CoOk l a L) (n : Na) : CoOk l (naC a n) L := ⟨h.st, h.bk, h.col⟩
/-- The sets may grow. -/
theorem CoOk.sgs (h : CoOk l a L) {S : List Nat} (hS : ∀ j, j < a.tabs.length → S.getD j 0 = a.sigs.getD j 0) : CoOk l ⟨a.na, S, a.tabs, a.spots⟩ L :=
  ⟨h.st, h.bk, fun j d hd => by
    rcases Nat.lt_or_ge j a.tabs.length with hj | hj
    · refine h.col j d ?_
      have e : sgAt ⟨a.na, S, a.tabs, a.spots⟩ j = sgAt a j := hS j hj
      rw [e] at hd
      exact hd
    · have e : tbAt ⟨a.na, S, a.tabs, a.spots⟩ j = tz0 := by
        unfold tbAt
        rw [List.getD_eq_getElem?_getD, List.getElem?_eq_none hj]; rfl
      rw [e]
      exact ⟨rfl, fun e h => by cases h⟩⟩
theorem entP_sgs {S : List Nat} (hn : (spAt a i).node < a.tabs.length) (hS : ∀ j, j < a.tabs.length → S.getD j 0 = a.sigs.getD j 0) : entP ⟨a.na, S, a.tabs, a.spots⟩ i = entP a i := by
  have e : sgAt ⟨a.na, S, a.tabs, a.spots⟩ (spAt a i).node = sgAt a (spAt a i).node := hS _ hn
  show rowT (sgAt ⟨a.na, S, a.tabs, a.spots⟩ (spAt a i).node) _ _ = rowT _ _ _
  rw [e]
  rfl
theorem CoOk.stands (h : CoOk l a L) (hi : L i = some g) : Stands a i :=
  ⟨(h.st i g hi).1, (h.st i g hi).2.1, (List.getElem?_eq_some_iff.1 (h.st i g hi).2.2).1, fun x hx => by
    obtain ⟨r, hr⟩ := List.getElem?_of_mem hx
    obtain ⟨k, gk, rfl, hk, -⟩ := h.bk _ r x hr
    exact ⟨Int.natCast_nonneg _, by simpa using (h.st k gk hk).1⟩⟩
theorem leaveC_len (a : Co) (i : Nat) : (leaveC a i).spots.length = a.spots.length ∧ (leaveC a i).tabs.length = a.tabs.length := by
  refine ⟨?_, by unfold leaveC; simp⟩
  unfold leaveC moveS
  dsimp only
  split <;> simp
theorem CoOk.leave (h : CoOk l a L) (hi : L i = some g) : CoOk l (leaveC a i) (fun k => if k = i then none else L k) ∧ ∀ k gk, k ≠ i → L k = some gk → (spAt (leaveC a i) k).node = (spAt a k).node ∧ entP (leaveC a i) k = entP a k := by
  obtain ⟨h1, h2, h3⟩ := h.st i g hi
  obtain ⟨hl1, hl2⟩ := leaveC_len a i
  obtain ⟨j0, e0⟩ : ∃ j0, (spAt a i).node = j0 := ⟨_, rfl⟩
  obtain ⟨r0, e1⟩ : ∃ r0, (spAt a i).row = r0 := ⟨_, rfl⟩
  obtain ⟨T, e2⟩ : ∃ T, tbAt a j0 = T := ⟨_, rfl⟩
  rw [e0, e1, e2] at h3
  rw [e0] at h2
  have hr := (List.getElem?_eq_some_iff.1 h3).1
  have hlast : T.ids[T.ids.length - 1]? = some (T.ids.getD (T.ids.length - 1) default) := getD_at default (by omega)
  obtain ⟨m, gm, hm, hLm, hnm, hrm⟩ := h.bk j0 (T.ids.length - 1) _ (by rw [e2]; exact hlast)
  have hm1 := (h.st m gm hLm).1
  have etb : ∀ j, tbAt (leaveC a i) j = if j = j0 then ⟨dropL T.ids r0, dropK T.ids.length (sgAt a j0) T.col (r0 : Int)⟩ else tbAt a j := fun j => by
    show (List.set a.tabs (spAt a i).node ⟨dropI (tbAt a (spAt a i).node).ids ((spAt a i).row : Int), dropK (tbAt a (spAt a i).node).ids.length (sgAt a (spAt a i).node) (tbAt a (spAt a i).node).col ((spAt a i).row : Int)⟩).getD j tz0 = _
    rw [e0, e1, e2, getD_set_at tz0 j _ h2, show dropI T.ids (r0 : Int) = dropL T.ids r0 from by unfold dropI; rw [if_pos (rowC_in hr), Int.toNat_natCast]]
    rfl
  have hmt : movedT T.ids (r0 : Int) = if r0 ≠ T.ids.length - 1 then (⟨(m : Int), (gm : Int)⟩, true) else (zeroId, false) := by
    unfold movedT
    rw [rowC_in hr, Int.toNat_natCast, hm]
    simp
  have esp : ∀ k, spAt (leaveC a i) k = if k = i then sp0 else if r0 ≠ T.ids.length - 1 ∧ k = m then ⟨j0, r0, (spAt a m).there⟩ else spAt a k := fun k => by
    show (List.set (moveS a (spAt a i)) i sp0).getD k sp0 = _
    by_cases hc : r0 ≠ T.ids.length - 1
    · have e : moveS a (spAt a i) = a.spots.set m ⟨j0, r0, (spAt a m).there⟩ := by
        unfold moveS
        rw [e0, e1, e2, hmt, if_pos hc]
        dsimp only
        rw [if_pos rfl, Int.toNat_natCast, hnm]
      rw [e, getD_set_at sp0 k _ (by rw [List.length_set]; exact h1), getD_set_at sp0 k _ hm1]
      by_cases ki : k = i
      · rw [if_pos ki, if_pos ki]
      · rw [if_neg ki, if_neg ki]
        by_cases km : k = m
        · rw [if_pos km, if_pos ⟨hc, km⟩]
        · rw [if_neg km, if_neg (fun h => km h.2)]; rfl
    · have e : moveS a (spAt a i) = a.spots := by
        unfold moveS
        rw [e0, e1, e2, hmt, if_neg hc]
        rfl
      rw [e, getD_set_at sp0 k _ h1]
      by_cases ki : k = i
      · rw [if_pos ki, if_pos ki]
      · rw [if_neg ki, if_neg ki, if_neg (fun h => hc h.1)]; rfl
  have key : ∀ k gk, k ≠ i → L k = some gk → (spAt a k).node = j0 → (spAt a k).row ≠ r0 := fun k gk hki hk hn hr' => by
    have := (h.st k gk hk).2.2
    rw [hn, hr', e2, h3] at this
    injection this with this
    injection this with t1 t2
    omega
  have key2 : ∀ k gk, L k = some gk → (spAt a k).node = j0 → (spAt a k).row = T.ids.length - 1 → k = m := fun k gk hk hn hr' => by
    have := (h.st k gk hk).2.2
    rw [hn, hr', e2, hlast, hm] at this
    injection this with this
    injection this with t1 t2
    omega
  have key3 : ∀ k gk, k ≠ i → L k = some gk → ¬ (r0 ≠ T.ids.length - 1 ∧ k = m) → (spAt a k).node = j0 → (spAt a k).row < T.ids.length - 1 := fun k gk ki hk hc hn => by
    have s3 := (h.st k gk hk).2.2
    rw [hn, e2] at s3
    have s4 := (List.getElem?_eq_some_iff.1 s3).1
    have s5 := key k gk ki hk hn
    by_cases e : (spAt a k).row = T.ids.length - 1
    · have := key2 k gk hk hn e
      exact absurd ⟨by omega, this⟩ hc
    · omega
  refine ⟨⟨fun k gk hk => ?_, fun j r x hx => ?_, fun j d hd => ?_⟩, fun k gk ki hk => ?_⟩
  · by_cases ki : k = i
    · rw [if_pos ki] at hk; cases hk
    rw [if_neg ki] at hk
    obtain ⟨s1, s2, s3⟩ := h.st k gk hk
    rw [hl1, hl2, esp, if_neg ki]
    by_cases hc : r0 ≠ T.ids.length - 1 ∧ k = m
    · rw [if_pos hc]
      dsimp only
      rw [etb, if_pos rfl]
      dsimp only
      rw [dropL_at _ hr, if_pos (by omega), if_pos rfl, hm]
      obtain rfl := hc.2
      rw [hLm] at hk
      injection hk with hk
      subst hk
      exact ⟨s1, h2, rfl⟩
    · rw [if_neg hc, etb]
      refine ⟨s1, s2, ?_⟩
      by_cases hj : (spAt a k).node = j0
      · rw [if_pos hj]
        dsimp only
        rw [dropL_at _ hr, if_pos (key3 k gk ki hk hc hj), if_neg (key k gk ki hk hj)]
        rw [hj, e2] at s3
        exact s3
      · rw [if_neg hj]; exact s3
  · rw [etb] at hx
    by_cases hj : j = j0
    · rw [if_pos hj] at hx
      dsimp only at hx
      rw [dropL_at _ hr] at hx
      by_cases hn1 : r < T.ids.length - 1
      · rw [if_pos hn1] at hx
        by_cases hr0 : r = r0
        · rw [if_pos hr0] at hx
          injection hx with hx
          have mi : m ≠ i := fun e => by rw [e, e1] at hrm; omega
          refine ⟨m, gm, hx.symm.trans hm, by rw [if_neg mi]; exact hLm, ?_, ?_⟩
          · rw [esp, if_neg mi, if_pos ⟨by omega, rfl⟩]; exact hj.symm
          · rw [esp, if_neg mi, if_pos ⟨by omega, rfl⟩]; exact hr0.symm
        · rw [if_neg hr0] at hx
          obtain ⟨k, gk, hx2, hk, hn, hrr⟩ := h.bk j0 r x (by rw [e2]; exact hx)
          have ki : k ≠ i := fun e => by rw [e, e1] at hrr; omega
          have hc : ¬ (r0 ≠ T.ids.length - 1 ∧ k = m) := fun hc => by rw [hc.2, hrm] at hrr; omega
          refine ⟨k, gk, hx2, by rw [if_neg ki]; exact hk, ?_, ?_⟩
          · rw [esp, if_neg ki, if_neg hc, hn, hj]
          · rw [esp, if_neg ki, if_neg hc, hrr]
      · rw [if_neg hn1] at hx; cases hx
    · rw [if_neg hj] at hx
      obtain ⟨k, gk, hx2, hk, hn, hrr⟩ := h.bk j r x hx
      have ki : k ≠ i := fun e => by rw [e, e0] at hn; exact hj hn.symm
      have hc : ¬ (r0 ≠ T.ids.length - 1 ∧ k = m) := fun hc => by rw [hc.2, hnm] at hn; exact hj hn.symm
      refine ⟨k, gk, hx2, by rw [if_neg ki]; exact hk, ?_, ?_⟩
      · rw [esp, if_neg ki, if_neg hc, hn]
      · rw [esp, if_neg ki, if_neg hc, hrr]
  · rw [etb]
    have hd' : d ∈ bl (sgAt a j) 64 := hd
    by_cases hj : j = j0
    · rw [if_pos hj]
      rw [hj] at hd'
      obtain ⟨c1, c2⟩ := h.col j0 d hd'
      rw [e2] at c1 c2
      dsimp only
      have ek : dropK T.ids.length (sgAt a j0) T.col (r0 : Int) d = dropR (T.col d) r0 := by unfold dropK; rw [if_pos ⟨rowC_in hr, hd'⟩, Int.toNat_natCast]
      rw [ek, dropR_len, c1]
      refine ⟨?_, fun e he => c2 e (dropR_mem (by rw [c1]; exact hr) he)⟩
      unfold dropL
      rw [List.length_take, List.length_set]; omega
    · rw [if_neg hj]; exact h.col j d hd'
  · have hn : (spAt (leaveC a i) k).node = (spAt a k).node := by
      rw [esp, if_neg ki]
      by_cases hc : r0 ≠ T.ids.length - 1 ∧ k = m
      · rw [if_pos hc, hc.2, hnm]
      · rw [if_neg hc]
    refine ⟨hn, ?_⟩
    unfold entP
    rw [hn]
    show rowT (sgAt a (spAt a k).node) _ _ = rowT (sgAt a (spAt a k).node) _ _
    unfold rowT
    refine List.map_congr_left fun c hc => ?_
    refine congrArg (PtZ.mk (c : Int)) ?_
    rw [etb]
    by_cases hj : (spAt a k).node = j0
    · rw [if_pos hj, hj, e2]
      rw [hj] at hc
      have c1 := (h.col j0 c hc).1
      rw [e2] at c1
      have ek : dropK T.ids.length (sgAt a j0) T.col (r0 : Int) c = dropR (T.col c) r0 := by unfold dropK; rw [if_pos ⟨rowC_in hr, hc⟩, Int.toNat_natCast]
      dsimp only
      rw [ek, esp, if_neg ki]
      by_cases hcm : r0 ≠ T.ids.length - 1 ∧ k = m
      · rw [if_pos hcm]
        dsimp only
        rw [dropR_at _ (by rw [c1]; exact hr) (by rw [c1]; omega), if_pos rfl, hcm.2, hrm, c1]
      · rw [if_neg hcm, dropR_at _ (by rw [c1]; exact hr) (by rw [c1]; exact key3 k gk ki hk hcm hj), if_neg (key k gk ki hk hj)]
    · rw [if_neg hj, esp, if_neg ki, if_neg (fun hcm => hj (by rw [hcm.2]; exact hnm))]
theorem CoOk.enter (h : CoOk l a L) (hi : L i = none) (j : Nat) {P : List PtZ} (hadd : addOk (sgAt a j) (szOf l) P = true) :
    CoOk l (enterC (szOf l) a i g j P) (fun k => if k = i then some g else L k) ∧ (∀ k gk, k ≠ i → L k = some gk → (spAt (enterC (szOf l) a i g j P) k).node = (spAt a k).node ∧ entP (enterC (szOf l) a i g j P) k = entP a k) ∧
    (spAt (enterC (szOf l) a i g j P) i).node = j ∧ entP (enterC (szOf l) a i g j P) i = (bl (sgAt a j) 64).map fun (c : Nat) => ⟨(c : Int), dataT P (c : Int) (szOf l c)⟩ := by
  have hg1 : j < (growC a (j + 1)).tabs.length := by unfold growC; simp; omega
  obtain ⟨T, e2⟩ : ∃ T, tbAt a j = T := ⟨_, rfl⟩
  have etb : ∀ k, tbAt (enterC (szOf l) a i g j P) k = if k = j then ⟨T.ids ++ [⟨(i : Int), (g : Int)⟩], colA P (szOf l) T.col (bl (sgAt a j) 64)⟩ else tbAt a k := fun k => by
    show (List.set (growC a (j + 1)).tabs j ⟨(tbAt a j).ids ++ [⟨(i : Int), (g : Int)⟩], colA P (szOf l) (tbAt a j).col (bl (sgAt a j) 64)⟩).getD k tz0 = _
    rw [e2, getD_set_at tz0 k _ hg1]
    by_cases hk : k = j
    · rw [if_pos hk, if_pos hk]
    · rw [if_neg hk, if_neg hk]; exact tbAt_grow a (j + 1) k
  have esp : ∀ k, spAt (enterC (szOf l) a i g j P) k = if k = i then ⟨j, T.ids.length, true⟩ else spAt a k := fun k => by
    show (List.set (padS a.spots (i + 1)) i ⟨j, (tbAt a j).ids.length, true⟩).getD k sp0 = _
    rw [e2, getD_set_at sp0 k _ (by rw [padS_len']; omega)]
    by_cases hk : k = i
    · rw [if_pos hk, if_pos hk]
    · rw [if_neg hk, if_neg hk]; exact spAt_pad a (i + 1) k
  have hls : (enterC (szOf l) a i g j P).spots.length = max a.spots.length (i + 1) := by
    show (List.set (padS a.spots (i + 1)) i _).length = _
    rw [List.length_set, padS_len']
  have hlt : (enterC (szOf l) a i g j P).tabs.length = max a.tabs.length (j + 1) := by
    show (List.set (growC a (j + 1)).tabs j _).length = _
    rw [List.length_set]
    unfold growC
    simp; omega
  have ki : ∀ k gk, L k = some gk → k ≠ i := fun k gk hk e => by rw [e, hi] at hk; cases hk
  have hcol : ∀ d ∈ bl (sgAt a j) 64, (T.col d).length = T.ids.length ∧ ∀ e ∈ T.col d, e.length = szOf l d := fun d hd => by rw [← e2]; exact h.col j d hd
  refine ⟨⟨fun k gk hk => ?_, fun j' r x hx => ?_, fun j' d hd => ?_⟩, fun k gk hki hk => ?_, ?_, ?_⟩
  · rw [hls, hlt, esp]
    by_cases hki : k = i
    · rw [if_pos hki] at hk ⊢
      injection hk with hk
      subst hk hki
      dsimp only
      rw [etb, if_pos rfl]
      dsimp only
      rw [List.getElem?_append_right (Nat.le_refl _), Nat.sub_self]
      exact ⟨by omega, by omega, rfl⟩
    · rw [if_neg hki] at hk ⊢
      obtain ⟨s1, s2, s3⟩ := h.st k gk hk
      rw [etb]
      refine ⟨by omega, by omega, ?_⟩
      by_cases hj : (spAt a k).node = j
      · rw [if_pos hj]
        rw [hj, e2] at s3
        dsimp only
        rw [List.getElem?_append_left (List.getElem?_eq_some_iff.1 s3).1]
        exact s3
      · rw [if_neg hj]; exact s3
  · rw [etb] at hx
    by_cases hj : j' = j
    · rw [if_pos hj] at hx
      dsimp only at hx
      rcases Nat.lt_or_ge r T.ids.length with hr | hr
      · rw [List.getElem?_append_left hr] at hx
        obtain ⟨k, gk, hx2, hk, hn, hrr⟩ := h.bk j r x (by rw [e2]; exact hx)
        refine ⟨k, gk, hx2, by rw [if_neg (ki k gk hk)]; exact hk, ?_, ?_⟩
        · rw [esp, if_neg (ki k gk hk), hn, hj]
        · rw [esp, if_neg (ki k gk hk), hrr]
      · rw [List.getElem?_append_right hr] at hx
        have hr2 : r - T.ids.length < 1 := by
          have := (List.getElem?_eq_some_iff.1 hx).1
          simpa using this
        rw [show r - T.ids.length = 0 by omega] at hx
        injection hx with hx
        refine ⟨i, g, hx.symm, by rw [if_pos rfl], ?_, ?_⟩
        · rw [esp, if_pos rfl, hj]
        · rw [esp, if_pos rfl]; dsimp only; omega
    · rw [if_neg hj] at hx
      obtain ⟨k, gk, hx2, hk, hn, hrr⟩ := h.bk j' r x hx
      refine ⟨k, gk, hx2, by rw [if_neg (ki k gk hk)]; exact hk, ?_, ?_⟩
      · rw [esp, if_neg (ki k gk hk), hn]
      · rw [esp, if_neg (ki k gk hk), hrr]
  · have hd' : d ∈ bl (sgAt a j') 64 := hd
    rw [etb]
    by_cases hj : j' = j
    · rw [if_pos hj]
      rw [hj] at hd'
      dsimp only
      obtain ⟨c1, c2⟩ := hcol d hd'
      unfold colA
      rw [if_pos hd', List.length_append, List.length_append, c1]
      refine ⟨rfl, fun e he => ?_⟩
      rcases List.mem_append.1 he with he | he
      · exact c2 e he
      · obtain rfl : e = dataT P (d : Int) (szOf l d) := by simpa using he
        unfold addOk at hadd
        exact of_decide_eq_true (List.all_eq_true.1 hadd d hd')
    · rw [if_neg hj]; exact h.col j' d hd'
  · have hn : (spAt (enterC (szOf l) a i g j P) k).node = (spAt a k).node := by rw [esp, if_neg hki]
    refine ⟨hn, ?_⟩
    unfold entP
    rw [hn]
    show rowT (sgAt a (spAt a k).node) _ _ = rowT (sgAt a (spAt a k).node) _ _
    unfold rowT
    refine List.map_congr_left fun c hc => ?_
    refine congrArg (PtZ.mk (c : Int)) ?_
    rw [etb, esp, if_neg hki]
    by_cases hj : (spAt a k).node = j
    · rw [if_pos hj, hj, e2]
      rw [hj] at hc
      have s3 := (h.st k gk hk).2.2
      rw [hj, e2] at s3
      have s4 := (List.getElem?_eq_some_iff.1 s3).1
      dsimp only
      unfold colA
      rw [if_pos hc, List.getD_eq_getElem?_getD, List.getElem?_append_left (by rw [(hcol c hc).1]; exact s4), ← List.getD_eq_getElem?_getD]
    · rw [if_neg hj]
  · rw [esp, if_pos rfl]
  · unfold entP
    rw [esp, if_pos rfl]
    dsimp only
    show rowT (sgAt a j) _ _ = _
    unfold rowT
    refine List.map_congr_left fun c hc => ?_
    refine congrArg (PtZ.mk (c : Int)) ?_
    rw [etb, if_pos rfl]
    dsimp only
    unfold colA
    rw [if_pos hc, List.getD_eq_getElem?_getD, List.getElem?_append_right (by rw [(hcol c hc).1]; exact Nat.le_refl _), (hcol c hc).1, Nat.sub_self]
    rfl
end
end Go.Proofs.YtdeifjnhbdkkgaaGreatDoor
namespace Go.Proofs.YtdeifjnhbdkkgaaGreatDoor
open Go.RowKit
set_option maxRecDepth 100000
set_option linter.unusedVariables false
set_option linter.unusedSimpArgs false

/-- Two rising lists with the same members are one. -/
theorem sorted_eq {α : Type} (key : α → Int) : ∀ (l m : List α), l.Pairwise (fun x y => key x < key y) → m.Pairwise (fun x y => key x < key y) → (∀ x, x ∈ l ↔ x ∈ m) → l = m
  | [], [], _, _, _ => rfl
  | [], y :: m, _, _, h => by have := (h y).2 List.mem_cons_self; cases this
  | x :: l, [], _, _, h => by have := (h x).1 List.mem_cons_self; cases this
  | x :: l, y :: m, h1, h2, h => by
    rw [List.pairwise_cons] at h1 h2
    have e : x = y := by
      rcases List.mem_cons.1 ((h x).1 List.mem_cons_self) with e | e
      · exact e
      · rcases List.mem_cons.1 ((h y).2 List.mem_cons_self) with e2 | e2
        · exact e2.symm
        · have := h2.1 x e
          have := h1.1 y e2
          omega
    subst e
    rw [sorted_eq key l m h1.2 h2.2 fun z => ⟨fun hz => by
      rcases List.mem_cons.1 ((h z).1 (List.mem_cons_of_mem _ hz)) with e | e
      · have := h1.1 z hz
        rw [e] at this; omega
      · exact e, fun hz => by
      rcases List.mem_cons.1 ((h z).2 (List.mem_cons_of_mem _ hz)) with e | e
      · have := h2.1 z hz
        rw [e] at this; omega
      · exact e⟩]
/-- One comes in ahead of the first one that is greater. -/
def insB {α : Type} (p : α → Bool) (x : α) (l : List α) : List α × Bool := l.foldl (fun (s : List α × Bool) e => if !s.2 && p e then (s.1 ++ [x] ++ [e], true) else (s.1 ++ [e], s.2)) ([], false)
def insE {α : Type} (p : α → Bool) (x : α) (l : List α) : List α := if (insB p x l).2 = true then (insB p x l).1 else (insB p x l).1 ++ [x]
theorem insB_is {α : Type} (p : α → Bool) (x : α) (l : List α) : insB p x l = if l.any p = true then (l.takeWhile (fun e => !p e) ++ x :: l.dropWhile (fun e => !p e), true) else (l, false) := by
  unfold insB
  have go : ∀ (l a : List α), l.foldl (fun (s : List α × Bool) e => if !s.2 && p e then (s.1 ++ [x] ++ [e], true) else (s.1 ++ [e], s.2)) (a, true) = (a ++ l, true) := fun l => by
    induction l with
    | nil => simp
    | cons e l ih => intro a; rw [List.foldl_cons]; simp only [Bool.not_true, Bool.false_and, Bool.false_eq_true, if_false]; rw [ih]; simp
  have go2 : ∀ (l a : List α), l.foldl (fun (s : List α × Bool) e => if !s.2 && p e then (s.1 ++ [x] ++ [e], true) else (s.1 ++ [e], s.2)) (a, false) = if l.any p = true then (a ++ (l.takeWhile (fun e => !p e) ++ x :: l.dropWhile (fun e => !p e)), true) else (a ++ l, false) := fun l => by
    induction l with
    | nil => simp
    | cons e l ih =>
      intro a
      rw [List.foldl_cons]
      cases hp : p e with
      | true => simp only [Bool.not_false, Bool.true_and, if_true]; rw [go]; simp [hp]
      | false => simp only [Bool.not_false, Bool.true_and, Bool.false_eq_true, if_false]; rw [ih]; simp [hp]
  rw [go2]
  simp
theorem while_all {α : Type} {p : α → Bool} : ∀ (l : List α), (∀ e ∈ l, p e = true) → l.takeWhile p = l ∧ l.dropWhile p = []
  | [], _ => ⟨rfl, rfl⟩
  | y :: l, h => by
    have hy := h y List.mem_cons_self
    obtain ⟨h1, h2⟩ := while_all l fun e he => h e (List.mem_cons_of_mem _ he)
    exact ⟨by rw [List.takeWhile_cons_of_pos hy, h1], by rw [List.dropWhile_cons_of_pos hy, h2]⟩
theorem insE_is {α : Type} (p : α → Bool) (x : α) (l : List α) : insE p x l = l.takeWhile (fun e => !p e) ++ x :: l.dropWhile (fun e => !p e) := by
  unfold insE
  rw [insB_is]
  by_cases h : l.any p = true
  · rw [if_pos h, if_pos rfl]
  · rw [if_neg h]
    dsimp only
    rw [if_neg (by simp)]
    have h2 : ∀ e ∈ l, (!p e) = true := fun e he => by
      cases hp : p e with
      | true => exact absurd (List.any_eq_true.2 ⟨e, he, hp⟩) h
      | false => rfl
    obtain ⟨e1, e2⟩ := while_all l h2
    rw [e1, e2]
theorem insB_next {α : Type} (p : α → Bool) (x : α) {l : List α} {k : Nat} {e : α} (h : l[k]? = some e) : insB p x (l.take (k + 1)) = if !(insB p x (l.take k)).2 && p e then ((insB p x (l.take k)).1 ++ [x] ++ [e], true) else ((insB p x (l.take k)).1 ++ [e], (insB p x (l.take k)).2) := by
  unfold insB
  rw [List.take_add_one, h, List.foldl_append]
  rfl
theorem insE_mem {α : Type} {p : α → Bool} {x : α} {l : List α} (e : α) : e ∈ insE p x l ↔ e = x ∨ e ∈ l := by
  rw [insE_is, List.mem_append, List.mem_cons]
  have := List.takeWhile_append_dropWhile (p := fun e => !p e) (l := l)
  constructor
  · rintro (h | h | h)
    · right; rw [← this]; exact List.mem_append.2 (.inl h)
    · exact .inl h
    · right; rw [← this]; exact List.mem_append.2 (.inr h)
  · rintro (h | h)
    · exact .inr (.inl h)
    · rw [← this] at h
      rcases List.mem_append.1 h with h | h
      · exact .inl h
      · exact .inr (.inr h)
theorem drop_gt {α : Type} (key : α → Int) {p : α → Bool} {x : α} (hp : ∀ e, p e = decide (key x < key e)) : ∀ (l : List α), l.Pairwise (fun x y => key x < key y) → ∀ e ∈ l.dropWhile (fun e => !p e), key x < key e
  | [], _, e, h => by cases h
  | y :: l, hl, e, h => by
    rw [List.pairwise_cons] at hl
    cases hy : p y with
    | true =>
      rw [List.dropWhile_cons_of_neg (by simp [hy])] at h
      have h1 : key x < key y := by rw [hp] at hy; exact of_decide_eq_true hy
      rcases List.mem_cons.1 h with rfl | h
      · exact h1
      · have := hl.1 e h; omega
    | false =>
      rw [List.dropWhile_cons_of_pos (by simp [hy])] at h
      exact drop_gt key hp l hl.2 e h
theorem take_le {α : Type} {p : α → Bool} : ∀ (l : List α), ∀ e ∈ l.takeWhile p, p e = true ∧ e ∈ l
  | [], e, h => by cases h
  | y :: l, e, h => by
    cases hy : p y with
    | true =>
      rw [List.takeWhile_cons_of_pos hy] at h
      rcases List.mem_cons.1 h with rfl | h
      · exact ⟨hy, List.mem_cons_self⟩
      · exact ⟨(take_le l e h).1, List.mem_cons_of_mem _ (take_le l e h).2⟩
    | false => rw [List.takeWhile_cons_of_neg (by simp [hy])] at h; cases h
theorem insE_sorted {α : Type} (key : α → Int) {p : α → Bool} {x : α} {l : List α} (hp : ∀ e, p e = decide (key x < key e)) (hl : l.Pairwise (fun x y => key x < key y)) (hx : ∀ e ∈ l, key e ≠ key x) : (insE p x l).Pairwise (fun x y => key x < key y) := by
  rw [insE_is]
  have hl0 := hl
  have hsp := List.takeWhile_append_dropWhile (p := fun e => !p e) (l := l)
  rw [← hsp, List.pairwise_append] at hl
  rw [List.pairwise_append]
  have ht : ∀ e ∈ l.takeWhile (fun e => !p e), key e < key x := fun e he => by
    obtain ⟨h1, h3⟩ := take_le l e he
    have h2 := hx e h3
    rw [hp] at h1
    simp at h1
    omega
  refine ⟨hl.1, List.pairwise_cons.2 ⟨fun e he => drop_gt key hp l hl0 e he, hl.2.1⟩, fun e he y hy => ?_⟩
  rcases List.mem_cons.1 hy with rfl | hy
  · exact ht e he
  · exact hl.2.2 e he y hy
/-- Who is alive. -/
def stN (n : Na) (i : Nat) : Option Nat := if (n.sl.getD i (0, false)).2 = true then some (n.sl.getD i (0, false)).1 else none
theorem stN_lt {n : Na} {i g : Nat} (h : stN n i = some g) : i < n.sl.length := by
  rcases Nat.lt_or_ge i n.sl.length with hi | hi
  · exact hi
  · unfold stN at h
    rw [List.getD_eq_getElem?_getD, List.getElem?_eq_none hi] at h
    simp at h
theorem stN_none {n : Na} {i : Nat} (h : (n.sl.getD i (0, false)).2 = false) : stN n i = none := by
  unfold stN
  rw [if_neg (by simpa using h)]
theorem aliveI_st {n : Na} {x : IdZ} : aliveI n x = true ↔ ∃ i g : Nat, x = ⟨(i : Int), (g : Int)⟩ ∧ stN n i = some g := by
  constructor
  · intro h
    obtain ⟨i, rfl, hi, hb⟩ := aliveI_true h
    exact ⟨i, _, rfl, by unfold stN; rw [if_pos hb]⟩
  · rintro ⟨i, g, rfl, h⟩
    have hi := stN_lt h
    unfold stN at h
    split at h
    · rename_i hb
      injection h with h
      unfold aliveI atI
      rw [if_pos ⟨Int.natCast_nonneg _, by simpa using hi, by simpa using hb⟩]
      simp only [Int.toNat_natCast, h]
      simp
    · cases h
theorem takeI_st {n : Na} (hn : NaOk n) (h0 : (takeI n).2.2 = 0) {i g : Nat} (hi : (takeI n).2.1 = ⟨(i : Int), (g : Int)⟩) :
    stN n i = none ∧ (∀ k, stN (takeI n).1 k = if k = i then some g else stN n k) ∧ i < (takeI n).1.sl.length ∧ n.sl.length ≤ (takeI n).1.sl.length := by
  rcases list_last n.free with hf | ⟨f, j, hf⟩
  · have e := takeI_none hf
    by_cases hl : n.sl.length = n.ents
    · rw [e, if_pos hl] at h0; simp at h0
    · rw [if_neg hl] at e
      rw [e] at hi ⊢
      dsimp only at hi ⊢
      injection hi with h1 h2
      obtain rfl : n.sl.length = i := by omega
      obtain rfl : g = 0 := by omega
      refine ⟨stN_none (by rw [List.getD_eq_getElem?_getD, List.getElem?_eq_none (Nat.le_refl _)]; rfl), fun k => ?_, by simp, by simp⟩
      unfold stN
      dsimp only
      by_cases hk : k = n.sl.length
      · subst hk
        rw [if_pos rfl, List.getD_eq_getElem?_getD, List.getElem?_append_right (Nat.le_refl _), Nat.sub_self]
        rfl
      · rw [if_neg hk]
        rcases Nat.lt_or_ge k n.sl.length with h | h
        · rw [List.getD_eq_getElem?_getD, List.getElem?_append_left h, ← List.getD_eq_getElem?_getD]
        · rw [List.getD_eq_getElem?_getD, List.getElem?_eq_none (by simp; omega), List.getD_eq_getElem?_getD, List.getElem?_eq_none h]
  · have e := takeI_last hf
    obtain ⟨j1, j2, j3⟩ := hn.fr j (by rw [hf]; simp)
    rw [e] at hi ⊢
    dsimp only at hi ⊢
    injection hi with h1 h2
    obtain rfl : j = i := by omega
    obtain rfl : (n.sl.getD j (0, false)).1 = g := by omega
    refine ⟨stN_none j2, fun k => ?_, by simpa using j1, by simp⟩
    unfold stN
    dsimp only
    rw [getD_set_at (0, false) k _ j1]
    by_cases hk : k = j
    · rw [if_pos hk, if_pos hk]; rfl
    · rw [if_neg hk, if_neg hk]
theorem giveI_st {n : Na} {i g : Nat} (h : stN n i = some g) : (giveI n ⟨(i : Int), (g : Int)⟩).2 = 0 ∧ (∀ k, stN (giveI n ⟨(i : Int), (g : Int)⟩).1 k = if k = i then none else stN n k) ∧ (giveI n ⟨(i : Int), (g : Int)⟩).1.sl.length = n.sl.length ∧
    gensI (giveI n ⟨(i : Int), (g : Int)⟩).1 = (gensI n).set i (g + 1) ∧ (giveI n ⟨(i : Int), (g : Int)⟩).1.free = if g + 1 < n.lim then n.free ++ [i] else n.free := by
  have hi := stN_lt h
  have ha : aliveI n ⟨(i : Int), (g : Int)⟩ = true := aliveI_st.2 ⟨i, g, rfl, h⟩
  have hg : (n.sl.getD i (0, false)).1 = g := by
    unfold stN at h
    split at h
    · injection h
    · cases h
  rw [← hg] at ha ⊢
  rw [giveI_at ha]
  dsimp only
  refine ⟨rfl, fun k => ?_, by simp, ?_, rfl⟩
  · unfold stN
    dsimp only
    rw [getD_set_at (0, false) k _ hi]
    by_cases hk : k = i
    · rw [if_pos hk, if_pos hk]; rfl
    · rw [if_neg hk, if_neg hk]
  · unfold gensI
    rw [List.map_set]
/-- The entities, by index. -/
def entsC (a : Co) (L : Nat → Option Nat) (n : Nat) : List EnZ := (List.range n).filterMap fun i => (L i).map fun (g : Nat) => ⟨⟨(i : Int), (g : Int)⟩, entP a i⟩
theorem entsC_mem {a : Co} {L : Nat → Option Nat} {n : Nat} {e : EnZ} : e ∈ entsC a L n ↔ ∃ i g : Nat, i < n ∧ L i = some g ∧ e = ⟨⟨(i : Int), (g : Int)⟩, entP a i⟩ := by
  unfold entsC
  rw [List.mem_filterMap]
  constructor
  · rintro ⟨i, hi, h⟩
    obtain ⟨g, hg, rfl⟩ := Option.map_eq_some_iff.1 h
    exact ⟨i, g, List.mem_range.1 hi, hg, rfl⟩
  · rintro ⟨i, g, hi, hg, rfl⟩
    exact ⟨i, List.mem_range.2 hi, by rw [hg]; rfl⟩
theorem entsC_sorted (a : Co) (L : Nat → Option Nat) (n : Nat) : (entsC a L n).Pairwise (fun x y => x.id.ix < y.id.ix) := by
  unfold entsC
  rw [List.pairwise_filterMap]
  refine List.Pairwise.imp ?_ List.pairwise_lt_range
  intro i j hij x hx y hy
  obtain ⟨g, hg, rfl⟩ := Option.map_eq_some_iff.1 hx
  obtain ⟨g2, hg2, rfl⟩ := Option.map_eq_some_iff.1 hy
  show (i : Int) < (j : Int)
  omega
/-- What a core tells. -/
def absC (a : Co) : SZ := ⟨ints (gensI a.na), ints a.na.free, entsC a (stN a.na) a.na.sl.length⟩
/-- The document's spawn. -/
def insI (x : IdZ) (l : List EnZ) : List EnZ := insE (fun e => decide (x.ix < e.id.ix)) ⟨x, []⟩ l
def spawnR (ents : Int) (s : SZ) : SZ × IdZ × Int :=
  match s.free.getLast? with
  | some i => (⟨s.gens, s.free.dropLast, insI ⟨i, s.gens.getD i.toNat 0⟩ s.ents⟩, ⟨i, s.gens.getD i.toNat 0⟩, 0)
  | none => if (s.gens.length : Int) = ents then (s, ⟨0, 0⟩, 9) else (⟨s.gens ++ [0], s.free, insI ⟨(s.gens.length : Int), 0⟩ s.ents⟩, ⟨(s.gens.length : Int), 0⟩, 0)
def placeR (s : SZ) (x : IdZ) : Option Nat := s.ents.findIdx? (fun e => decide (e.id = x))
def despawnR (lim : Int) (s : SZ) (x : IdZ) : SZ × Int :=
  match placeR s x with
  | none => (s, 5)
  | some p => (⟨s.gens.set x.ix.toNat (x.gen + 1), if x.gen + 1 < lim then s.free ++ [x.ix] else s.free, s.ents.eraseIdx p⟩, 0)
theorem ents_spawn {l : List Cp} {a : Co} {L : Nat → Option Nat} {i g n n' : Nat} (h : CoOk l a L) (hi : L i = none) (hin : i < n') (hn : n ≤ n') (hL : ∀ k gk, L k = some gk → k < n) (h0 : sgAt a 0 = 0) :
    entsC (enterC (szOf l) a i g 0 []) (fun k => if k = i then some g else L k) n' = insI ⟨(i : Int), (g : Int)⟩ (entsC a L n) := by
  have hb : bl (sgAt a 0) 64 = [] := by rw [h0]; decide
  obtain ⟨h1, h2, h3, h4⟩ := h.enter (g := g) hi 0 (P := []) (by unfold addOk; rw [hb]; rfl)
  rw [hb] at h4
  refine sorted_eq (fun e : EnZ => e.id.ix) _ _ (entsC_sorted _ _ _) (insE_sorted (fun e : EnZ => e.id.ix) (fun e => rfl) (entsC_sorted _ _ _) (fun e he hx => ?_)) (fun e => ?_)
  · obtain ⟨k, gk, hk, hLk, rfl⟩ := entsC_mem.1 he
    have : (k : Int) = (i : Int) := hx
    obtain rfl : k = i := by omega
    rw [hi] at hLk; cases hLk
  · unfold insI
    rw [insE_mem, entsC_mem, entsC_mem]
    constructor
    · rintro ⟨k, gk, hk, hLk, rfl⟩
      by_cases hki : k = i
      · rw [if_pos hki] at hLk
        injection hLk with hLk
        subst hLk hki
        left
        rw [h4]; rfl
      · rw [if_neg hki] at hLk
        right
        exact ⟨k, gk, hL k gk hLk, hLk, by rw [(h2 k gk hki hLk).2]⟩
    · rintro (rfl | ⟨k, gk, hk, hLk, rfl⟩)
      · exact ⟨i, g, hin, by rw [if_pos rfl], by rw [h4]; rfl⟩
      · have hki : k ≠ i := fun e => by rw [e, hi] at hLk; cases hLk
        exact ⟨k, gk, by omega, by rw [if_neg hki]; exact hLk, by rw [(h2 k gk hki hLk).2]⟩
/-- The place of one that stands. -/
theorem place_st {a : Co} {i g : Nat} (h : stN a.na i = some g) : ∃ p, placeR (absC a) ⟨(i : Int), (g : Int)⟩ = some p ∧ (absC a).ents[p]? = some ⟨⟨(i : Int), (g : Int)⟩, entP a i⟩ := by
  have hm : (⟨⟨(i : Int), (g : Int)⟩, entP a i⟩ : EnZ) ∈ (absC a).ents := entsC_mem.2 ⟨i, g, stN_lt h, h, rfl⟩
  unfold placeR
  cases hp : (absC a).ents.findIdx? (fun e => decide (e.id = ⟨(i : Int), (g : Int)⟩)) with
  | none =>
    rw [List.findIdx?_eq_none_iff] at hp
    have := hp _ hm
    simp at this
  | some p =>
    refine ⟨p, rfl, ?_⟩
    rw [List.findIdx?_eq_some_iff_getElem] at hp
    obtain ⟨hlt, hp1, _⟩ := hp
    rw [List.getElem?_eq_getElem hlt]
    have hid : ((absC a).ents[p]).id = ⟨(i : Int), (g : Int)⟩ := of_decide_eq_true hp1
    obtain ⟨k, gk, hk, hL, he⟩ := entsC_mem.1 (List.getElem_mem hlt : (absC a).ents[p] ∈ entsC a (stN a.na) a.na.sl.length)
    rw [he] at hid ⊢
    injection hid with e1 e2
    obtain rfl : k = i := by omega
    obtain rfl : gk = g := by omega
    rfl
theorem place_no {a : Co} {x : IdZ} (h : ¬ aliveI a.na x = true) : placeR (absC a) x = none := by
  unfold placeR
  rw [List.findIdx?_eq_none_iff]
  intro e he
  obtain ⟨k, gk, hk, hL, rfl⟩ := entsC_mem.1 he
  apply decide_eq_false
  intro hx
  exact h (aliveI_st.2 ⟨k, gk, hx.symm, hL⟩)
theorem sorted_ix {s : List EnZ} (hs : s.Pairwise (fun x y => x.id.ix < y.id.ix)) {p q : Nat} {x y : EnZ} (hp : s[p]? = some x) (hq : s[q]? = some y) (h : x.id.ix = y.id.ix) : p = q := by
  rw [List.pairwise_iff_getElem] at hs
  obtain ⟨hp1, rfl⟩ := List.getElem?_eq_some_iff.1 hp
  obtain ⟨hq1, rfl⟩ := List.getElem?_eq_some_iff.1 hq
  rcases Nat.lt_trichotomy p q with h1 | h1 | h1
  · have := hs p q hp1 hq1 h1; omega
  · exact h1
  · have := hs q p hq1 hp1 h1; omega
theorem ents_leave {l : List Cp} {a : Co} {L : Nat → Option Nat} {i g n p : Nat} (h : CoOk l a L) (hi : L i = some g) (hp : (entsC a L n)[p]? = some ⟨⟨(i : Int), (g : Int)⟩, entP a i⟩) :
    entsC (leaveC a i) (fun k => if k = i then none else L k) n = (entsC a L n).eraseIdx p := by
  obtain ⟨h1, h2⟩ := h.leave hi
  refine sorted_eq (fun e : EnZ => e.id.ix) _ _ (entsC_sorted _ _ _) ((entsC_sorted a L n).sublist (List.eraseIdx_sublist _ _)) (fun e => ?_)
  rw [entsC_mem, List.mem_eraseIdx_iff_getElem?]
  constructor
  · rintro ⟨k, gk, hk, hLk, rfl⟩
    by_cases hki : k = i
    · rw [if_pos hki] at hLk; cases hLk
    rw [if_neg hki] at hLk
    rw [(h2 k gk hki hLk).2]
    have hm : (⟨⟨(k : Int), (gk : Int)⟩, entP a k⟩ : EnZ) ∈ entsC a L n := entsC_mem.2 ⟨k, gk, hk, hLk, rfl⟩
    obtain ⟨j, hj⟩ := List.getElem?_of_mem hm
    refine ⟨j, fun e => ?_, hj⟩
    rw [e, hp] at hj
    injection hj with hj
    injection hj with hj _
    injection hj with hj _
    omega
  · rintro ⟨j, hjp, hj⟩
    obtain ⟨k, gk, hk, hLk, rfl⟩ := entsC_mem.1 (List.mem_of_getElem? hj)
    have hki : k ≠ i := fun e => hjp (sorted_ix (entsC_sorted a L n) hj hp (by show (k : Int) = (i : Int); omega))
    exact ⟨k, gk, hk, by rw [if_neg hki]; exact hLk, by rw [(h2 k gk hki hLk).2]⟩
theorem set_mem {α : Type} {l : List α} {p : Nat} {x e : α} (hp : p < l.length) : e ∈ l.set p x ↔ e = x ∨ ∃ j, j ≠ p ∧ l[j]? = some e := by
  rw [List.mem_iff_getElem?]
  constructor
  · rintro ⟨j, hj⟩
    rw [List.getElem?_set] at hj
    by_cases h : p = j
    · rw [if_pos h, if_pos hp] at hj
      injection hj with hj
      exact .inl hj.symm
    · rw [if_neg h] at hj
      exact .inr ⟨j, fun e => h e.symm, hj⟩
  · rintro (rfl | ⟨j, hj, h⟩)
    · exact ⟨p, by rw [List.getElem?_set, if_pos rfl, if_pos hp]⟩
    · exact ⟨j, by rw [List.getElem?_set, if_neg (fun e => hj e.symm)]; exact h⟩
theorem set_sorted {α : Type} (key : α → Int) {l : List α} {p : Nat} {x y : α} (hs : l.Pairwise (fun x y => key x < key y)) (hp : l[p]? = some y) (hx : key x = key y) : (l.set p x).Pairwise (fun x y => key x < key y) := by
  obtain ⟨hp1, rfl⟩ := List.getElem?_eq_some_iff.1 hp
  rw [List.pairwise_iff_getElem] at hs ⊢
  intro i j hi hj hij
  rw [List.length_set] at hi hj
  have h := hs i j hi hj hij
  rw [List.getElem_set, List.getElem_set]
  by_cases h1 : p = i
  · rw [if_pos h1, if_neg (by omega)]
    subst h1
    rw [hx]; exact h
  · rw [if_neg h1]
    by_cases h2 : p = j
    · rw [if_pos h2]
      subst h2
      rw [hx]; exact h
    · rw [if_neg h2]; exact h
theorem ents_turn {a a' : Co} {L : Nat → Option Nat} {i g n p : Nat} {P : List PtZ} (hi : L i = some g) (hin : i < n) (hp : (entsC a L n)[p]? = some ⟨⟨(i : Int), (g : Int)⟩, entP a i⟩) (ho : ∀ k gk, k ≠ i → L k = some gk → entP a' k = entP a k) (hP : entP a' i = P) :
    entsC a' L n = (entsC a L n).set p ⟨⟨(i : Int), (g : Int)⟩, P⟩ := by
  have hp1 := (List.getElem?_eq_some_iff.1 hp).1
  refine sorted_eq (fun e : EnZ => e.id.ix) _ _ (entsC_sorted _ _ _) (set_sorted (fun e : EnZ => e.id.ix) (entsC_sorted a L n) hp rfl) (fun e => ?_)
  rw [entsC_mem, set_mem hp1]
  constructor
  · rintro ⟨k, gk, hk, hLk, rfl⟩
    by_cases hki : k = i
    · subst hki
      rw [hi] at hLk
      injection hLk with hLk
      subst hLk
      exact .inl (by rw [hP])
    · refine .inr ?_
      rw [ho k gk hki hLk]
      have hm : (⟨⟨(k : Int), (gk : Int)⟩, entP a k⟩ : EnZ) ∈ entsC a L n := entsC_mem.2 ⟨k, gk, hk, hLk, rfl⟩
      obtain ⟨j, hj⟩ := List.getElem?_of_mem hm
      refine ⟨j, fun e => ?_, hj⟩
      rw [e, hp] at hj
      injection hj with hj
      injection hj with hj _
      injection hj with hj _
      omega
  · rintro (rfl | ⟨j, hjp, hj⟩)
    · exact ⟨i, g, hin, hi, by rw [hP]⟩
    · obtain ⟨k, gk, hk, hLk, rfl⟩ := entsC_mem.1 (List.mem_of_getElem? hj)
      have hki : k ≠ i := fun e => hjp (sorted_ix (entsC_sorted a L n) hj hp (by show (k : Int) = (i : Int); omega))
      exact ⟨k, gk, hk, hLk, by rw [ho k gk hki hLk]⟩
end Go.Proofs.YtdeifjnhbdkkgaaGreatDoor
namespace Go.Proofs.YtdeifjnhbdkkgaaGreatDoor
open Go.RowKit
set_option maxRecDepth 100000
set_option linter.unusedVariables false
set_option linter.unusedSimpArgs false

/-- A component's data in place. -/
def setF (k : Int) (d : List UInt8) (s : List PtZ × Bool) (e : PtZ) : List PtZ × Bool :=
  if !s.2 && decide (k ≤ e.comp) then (if e.comp = k then (s.1 ++ [⟨k, d⟩], true) else (s.1 ++ [⟨k, d⟩] ++ [e], true)) else (if e.comp = k then s else (s.1 ++ [e], s.2))
def setB (k : Int) (d : List UInt8) (l : List PtZ) : List PtZ × Bool := l.foldl (setF k d) ([], false)
def setP (k : Int) (d : List UInt8) (l : List PtZ) : List PtZ := if (setB k d l).2 = true then (setB k d l).1 else (setB k d l).1 ++ [⟨k, d⟩]
theorem setB_next (k : Int) (d : List UInt8) {l : List PtZ} {j : Nat} {e : PtZ} (h : l[j]? = some e) : setB k d (l.take (j + 1)) = setF k d (setB k d (l.take j)) e := by
  unfold setB
  rw [List.take_add_one, h, List.foldl_append]
  rfl
theorem setB_is (k : Int) (d : List UInt8) (l : List PtZ) : setB k d l = if l.any (fun e => decide (k ≤ e.comp)) = true then (l.takeWhile (fun e => !decide (k ≤ e.comp)) ++ ⟨k, d⟩ :: (l.dropWhile (fun e => !decide (k ≤ e.comp))).filter (fun e => decide (e.comp ≠ k)), true) else (l, false) := by
  unfold setB
  have go : ∀ (l a : List PtZ), l.foldl (setF k d) (a, true) = (a ++ l.filter (fun e => decide (e.comp ≠ k)), true) := fun l => by
    induction l with
    | nil => simp
    | cons e l ih =>
      intro a
      rw [List.foldl_cons]
      unfold setF
      simp only [Bool.not_true, Bool.false_and, Bool.false_eq_true, if_false]
      by_cases h : e.comp = k
      · rw [if_pos h]
        have := ih a
        unfold setF at this
        rw [this]; simp [h]
      · rw [if_neg h]
        have := ih (a ++ [e])
        unfold setF at this
        rw [this]; simp [h]
  have go2 : ∀ (l a : List PtZ), l.foldl (setF k d) (a, false) = if l.any (fun e => decide (k ≤ e.comp)) = true then (a ++ (l.takeWhile (fun e => !decide (k ≤ e.comp)) ++ ⟨k, d⟩ :: (l.dropWhile (fun e => !decide (k ≤ e.comp))).filter (fun e => decide (e.comp ≠ k))), true) else (a ++ l, false) := fun l => by
    induction l with
    | nil => simp
    | cons e l ih =>
      intro a
      rw [List.foldl_cons]
      by_cases hp : k ≤ e.comp
      · have e1 : setF k d (a, false) e = (if e.comp = k then (a ++ [⟨k, d⟩], true) else (a ++ [⟨k, d⟩] ++ [e], true)) := by unfold setF; simp [hp]
        rw [e1]
        by_cases h : e.comp = k
        · rw [if_pos h, go]; simp [hp, h]
        · rw [if_neg h, go]; simp [hp, h]
      · have hk : e.comp ≠ k := by omega
        have e1 : setF k d (a, false) e = (a ++ [e], false) := by unfold setF; simp [hp, hk]
        rw [e1, ih]; simp [hp]
  rw [go2]
  simp
theorem setP_is (k : Int) (d : List UInt8) (l : List PtZ) : setP k d l = l.takeWhile (fun e => !decide (k ≤ e.comp)) ++ ⟨k, d⟩ :: (l.dropWhile (fun e => !decide (k ≤ e.comp))).filter (fun e => decide (e.comp ≠ k)) := by
  unfold setP
  rw [setB_is]
  by_cases h : l.any (fun e => decide (k ≤ e.comp)) = true
  · rw [if_pos h, if_pos rfl]
  · rw [if_neg h]
    dsimp only
    rw [if_neg (by simp)]
    have h2 : ∀ e ∈ l, (!decide (k ≤ e.comp)) = true := fun e he => by
      by_cases hp : k ≤ e.comp
      · exact absurd (List.any_eq_true.2 ⟨e, he, decide_eq_true hp⟩) h
      · simp [hp]
    obtain ⟨e1, e2⟩ := while_all l h2
    rw [e1, e2]; rfl
theorem setP_mem {k : Int} {d : List UInt8} {l : List PtZ} {e : PtZ} : e ∈ setP k d l ↔ e = ⟨k, d⟩ ∨ (e ∈ l ∧ e.comp ≠ k) := by
  rw [setP_is, List.mem_append, List.mem_cons, List.mem_filter]
  have hsp := List.takeWhile_append_dropWhile (p := fun e : PtZ => !decide (k ≤ e.comp)) (l := l)
  constructor
  · rintro (h | h | h)
    · obtain ⟨h1, h2⟩ := take_le l e h
      simp at h1
      exact .inr ⟨h2, by omega⟩
    · exact .inl h
    · exact .inr ⟨by rw [← hsp]; exact List.mem_append.2 (.inr h.1), of_decide_eq_true h.2⟩
  · rintro (h | ⟨h, hk⟩)
    · exact .inr (.inl h)
    · rw [← hsp] at h
      rcases List.mem_append.1 h with h | h
      · exact .inl h
      · exact .inr (.inr ⟨h, decide_eq_true hk⟩)
theorem drop_ge {k : Int} : ∀ (l : List PtZ), l.Pairwise (fun x y => x.comp < y.comp) → ∀ e ∈ l.dropWhile (fun e => !decide (k ≤ e.comp)), k ≤ e.comp
  | [], _, e, h => by cases h
  | y :: l, hl, e, h => by
    rw [List.pairwise_cons] at hl
    by_cases hy : k ≤ y.comp
    · rw [List.dropWhile_cons_of_neg (by simp [hy])] at h
      rcases List.mem_cons.1 h with rfl | h
      · exact hy
      · have := hl.1 e h; omega
    · rw [List.dropWhile_cons_of_pos (by simp [hy])] at h
      exact drop_ge l hl.2 e h
theorem setP_sorted {k : Int} {d : List UInt8} {l : List PtZ} (hl : l.Pairwise (fun x y => x.comp < y.comp)) : (setP k d l).Pairwise (fun x y => x.comp < y.comp) := by
  rw [setP_is]
  have hl0 := hl
  have hsp := List.takeWhile_append_dropWhile (p := fun e : PtZ => !decide (k ≤ e.comp)) (l := l)
  rw [← hsp, List.pairwise_append] at hl
  rw [List.pairwise_append]
  have ht : ∀ e ∈ l.takeWhile (fun e => !decide (k ≤ e.comp)), e.comp < k := fun e he => by
    have := (take_le l e he).1
    simp at this
    omega
  refine ⟨hl.1, List.pairwise_cons.2 ⟨fun e he => ?_, hl.2.1.sublist List.filter_sublist⟩, fun e he y hy => ?_⟩
  · rw [List.mem_filter] at he
    have h1 := drop_ge l hl0 e he.1
    have h2 : e.comp ≠ k := of_decide_eq_true he.2
    show k < e.comp
    omega
  · rcases List.mem_cons.1 hy with rfl | hy
    · exact ht e he
    · exact hl.2.2 e he y (List.mem_filter.1 hy).1
theorem bl_sorted (s : Nat) : ∀ k, (bl s k).Pairwise (fun x y => x < y)
  | 0 => List.Pairwise.nil
  | k + 1 => by
    show (bl s k ++ if s.testBit k then [k] else []).Pairwise _
    rw [List.pairwise_append]
    refine ⟨bl_sorted s k, by split <;> simp, fun a ha b hb => ?_⟩
    have h1 := ((bl_mem s k a).1 ha).1
    split at hb
    · simp at hb; omega
    · simp at hb
/-- Parts by a list of components. -/
theorem parts_sorted (s : Nat) (f : Nat → List UInt8) : ((bl s 64).map fun (c : Nat) => (⟨(c : Int), f c⟩ : PtZ)).Pairwise (fun x y => x.comp < y.comp) := by
  rw [List.pairwise_map]
  refine (bl_sorted s 64).imp ?_
  intro a b h
  show (a : Int) < (b : Int)
  omega
theorem parts_mem {s : Nat} {f : Nat → List UInt8} {e : PtZ} : e ∈ ((bl s 64).map fun (c : Nat) => (⟨(c : Int), f c⟩ : PtZ)) ↔ ∃ c : Nat, c ∈ bl s 64 ∧ e = ⟨(c : Int), f c⟩ := by
  rw [List.mem_map]
  exact ⟨fun ⟨c, h1, h2⟩ => ⟨c, h1, h2.symm⟩, fun ⟨c, h1, h2⟩ => ⟨c, h1, h2.symm⟩⟩
/-- A component that comes or turns. -/
theorem parts_set {s s' : Nat} {f f' : Nat → List UInt8} {k : Nat} {d : List UInt8} (hs : ∀ c, c ∈ bl s' 64 ↔ c ∈ bl s 64 ∨ c = k) (hk : f' k = d) (ho : ∀ c, c ∈ bl s 64 → c ≠ k → f' c = f c) :
    ((bl s' 64).map fun (c : Nat) => (⟨(c : Int), f' c⟩ : PtZ)) = setP (k : Int) d ((bl s 64).map fun (c : Nat) => (⟨(c : Int), f c⟩ : PtZ)) := by
  refine sorted_eq (fun e : PtZ => e.comp) _ _ (parts_sorted _ _) (setP_sorted (parts_sorted _ _)) (fun e => ?_)
  rw [parts_mem, setP_mem, parts_mem]
  constructor
  · rintro ⟨c, hc, rfl⟩
    by_cases hck : c = k
    · subst hck; exact .inl (by rw [hk])
    · rcases (hs c).1 hc with h | h
      · exact .inr ⟨⟨c, h, by rw [ho c h hck]⟩, by show (c : Int) ≠ (k : Int); omega⟩
      · exact absurd h hck
  · rintro (rfl | ⟨⟨c, hc, rfl⟩, hck⟩)
    · exact ⟨k, (hs k).2 (.inr rfl), by rw [hk]⟩
    · have hck : (c : Int) ≠ (k : Int) := hck
      have hck2 : c ≠ k := by omega
      exact ⟨c, (hs c).2 (.inl hc), by rw [ho c hc hck2]⟩
/-- A component that goes. -/
def partR (l : List PtZ) (k : Int) : Option Nat := l.findIdx? (fun e => decide (e.comp = k))
theorem part_at {s : Nat} {f : Nat → List UInt8} {k : Nat} (h : k ∈ bl s 64) : ∃ p, partR ((bl s 64).map fun (c : Nat) => (⟨(c : Int), f c⟩ : PtZ)) (k : Int) = some p ∧ ((bl s 64).map fun (c : Nat) => (⟨(c : Int), f c⟩ : PtZ))[p]? = some ⟨(k : Int), f k⟩ := by
  have hm : (⟨(k : Int), f k⟩ : PtZ) ∈ ((bl s 64).map fun (c : Nat) => (⟨(c : Int), f c⟩ : PtZ)) := parts_mem.2 ⟨k, h, rfl⟩
  unfold partR
  cases hp : ((bl s 64).map fun (c : Nat) => (⟨(c : Int), f c⟩ : PtZ)).findIdx? (fun e => decide (e.comp = (k : Int))) with
  | none =>
    rw [List.findIdx?_eq_none_iff] at hp
    have := hp _ hm
    simp at this
  | some p =>
    refine ⟨p, rfl, ?_⟩
    rw [List.findIdx?_eq_some_iff_getElem] at hp
    obtain ⟨hlt, hp1, _⟩ := hp
    rw [List.getElem?_eq_getElem hlt]
    have hid := of_decide_eq_true hp1
    obtain ⟨c, hc, he⟩ := parts_mem.1 (List.getElem_mem hlt)
    rw [he] at hid ⊢
    have hid : (c : Int) = (k : Int) := hid
    obtain rfl : c = k := by omega
    rfl
theorem part_no {s : Nat} {f : Nat → List UInt8} {k : Int} (h : ∀ c : Nat, c ∈ bl s 64 → (c : Int) ≠ k) : partR ((bl s 64).map fun (c : Nat) => (⟨(c : Int), f c⟩ : PtZ)) k = none := by
  unfold partR
  rw [List.findIdx?_eq_none_iff]
  intro e he
  obtain ⟨c, hc, rfl⟩ := parts_mem.1 he
  exact decide_eq_false (h c hc)
theorem parts_drop {s s' p : Nat} {f f' : Nat → List UInt8} {k : Nat} (hs : ∀ c, c ∈ bl s' 64 ↔ c ∈ bl s 64 ∧ c ≠ k) (ho : ∀ c, c ∈ bl s 64 → c ≠ k → f' c = f c) (hp : ((bl s 64).map fun (c : Nat) => (⟨(c : Int), f c⟩ : PtZ))[p]? = some ⟨(k : Int), f k⟩) :
    ((bl s' 64).map fun (c : Nat) => (⟨(c : Int), f' c⟩ : PtZ)) = ((bl s 64).map fun (c : Nat) => (⟨(c : Int), f c⟩ : PtZ)).eraseIdx p := by
  have hsrt := parts_sorted s f
  refine sorted_eq (fun e : PtZ => e.comp) _ _ (parts_sorted _ _) (hsrt.sublist (List.eraseIdx_sublist _ _)) (fun e => ?_)
  rw [parts_mem, List.mem_eraseIdx_iff_getElem?]
  have uniq : ∀ j (x : PtZ), ((bl s 64).map fun (c : Nat) => (⟨(c : Int), f c⟩ : PtZ))[j]? = some x → x.comp = (k : Int) → j = p := fun j x hj hx => by
    rw [List.pairwise_iff_getElem] at hsrt
    obtain ⟨h1, e1⟩ := List.getElem?_eq_some_iff.1 hj
    obtain ⟨h2, e2⟩ := List.getElem?_eq_some_iff.1 hp
    rcases Nat.lt_trichotomy j p with h | h | h
    · have := hsrt j p h1 h2 h
      rw [e1, e2, hx] at this
      simp at this
    · exact h
    · have := hsrt p j h2 h1 h
      rw [e1, e2, hx] at this
      simp at this
  constructor
  · rintro ⟨c, hc, rfl⟩
    obtain ⟨hc1, hck⟩ := (hs c).1 hc
    rw [ho c hc1 hck]
    obtain ⟨j, hj⟩ := List.getElem?_of_mem (parts_mem.2 ⟨c, hc1, rfl⟩ : (⟨(c : Int), f c⟩ : PtZ) ∈ _)
    refine ⟨j, fun e => ?_, hj⟩
    rw [e, hp] at hj
    injection hj with hj
    injection hj with hj _
    omega
  · rintro ⟨j, hjp, hj⟩
    obtain ⟨c, hc, rfl⟩ := parts_mem.1 (List.mem_of_getElem? hj)
    have hck : c ≠ k := fun e => hjp (uniq j _ hj (by show (c : Int) = (k : Int); omega))
    exact ⟨c, (hs c).2 ⟨hc, hck⟩, by rw [ho c hc hck]⟩
end Go.Proofs.YtdeifjnhbdkkgaaGreatDoor
namespace Go.Proofs.YtdeifjnhbdkkgaaGreatDoor
open Go.RowKit
set_option maxRecDepth 100000
set_option linter.unusedVariables false
set_option linter.unusedSimpArgs false

/-- Names by index, of those that stand at some nodes. -/
def namesC (a : Co) (L : Nat → Option Nat) (n : Nat) (J : List Nat) : List IdZ := (List.range n).filterMap fun i => if (spAt a i).node ∈ J then (L i).map fun (g : Nat) => ⟨(i : Int), (g : Int)⟩ else none
theorem namesC_mem {a : Co} {L : Nat → Option Nat} {n : Nat} {J : List Nat} {x : IdZ} : x ∈ namesC a L n J ↔ ∃ i g : Nat, i < n ∧ (spAt a i).node ∈ J ∧ L i = some g ∧ x = ⟨(i : Int), (g : Int)⟩ := by
  unfold namesC
  rw [List.mem_filterMap]
  constructor
  · rintro ⟨i, hi, h⟩
    split at h
    · rename_i hj
      obtain ⟨g, hg, rfl⟩ := Option.map_eq_some_iff.1 h
      exact ⟨i, g, List.mem_range.1 hi, hj, hg, rfl⟩
    · cases h
  · rintro ⟨i, g, hi, hj, hg, rfl⟩
    exact ⟨i, List.mem_range.2 hi, by rw [if_pos hj, hg]; rfl⟩
theorem namesC_sorted (a : Co) (L : Nat → Option Nat) (n : Nat) (J : List Nat) : (namesC a L n J).Pairwise (fun x y => x.ix < y.ix) := by
  unfold namesC
  rw [List.pairwise_filterMap]
  refine List.Pairwise.imp ?_ List.pairwise_lt_range
  intro i j hij x hx y hy
  split at hx
  · split at hy
    · obtain ⟨g, hg, rfl⟩ := Option.map_eq_some_iff.1 hx
      obtain ⟨g2, hg2, rfl⟩ := Option.map_eq_some_iff.1 hy
      show (i : Int) < (j : Int)
      omega
    · cases hy
  · cases hx
theorem query_is {l : List Cp} {a : Co} {L : Nat → Option Nat} {n : Nat} {J : List Nat} {R : List IdZ} (h : CoOk l a L) (hL : ∀ k g, L k = some g → k < n) (hJ : J.Nodup) (hp : R.Perm (idsAt a J)) (hs : R.Pairwise (fun x y => x.ix ≤ y.ix)) : R = namesC a L n J := by
  have hne : (idsAt a J).Pairwise (fun x y => x.ix ≠ y.ix) := by
    unfold idsAt
    rw [List.pairwise_flatMap]
    refine ⟨fun j _ => ?_, hJ.imp fun {j j'} hjj x hx y hy e => ?_⟩
    · rw [List.pairwise_iff_getElem]
      intro p q hp hq hpq e
      obtain ⟨i1, g1, e1, _, hn1, hr1⟩ := h.bk j p _ (List.getElem?_eq_getElem hp)
      obtain ⟨i2, g2, e2, _, hn2, hr2⟩ := h.bk j q _ (List.getElem?_eq_getElem hq)
      rw [e1, e2] at e
      have e : (i1 : Int) = (i2 : Int) := e
      obtain rfl : i1 = i2 := by omega
      omega
    · obtain ⟨p, hp⟩ := List.getElem?_of_mem hx
      obtain ⟨q, hq⟩ := List.getElem?_of_mem hy
      obtain ⟨i1, g1, e1, _, hn1, hr1⟩ := h.bk j p _ hp
      obtain ⟨i2, g2, e2, _, hn2, hr2⟩ := h.bk j' q _ hq
      rw [e1, e2] at e
      have e : (i1 : Int) = (i2 : Int) := e
      obtain rfl : i1 = i2 := by omega
      exact hjj (hn1.symm.trans hn2)
  have hne2 : R.Pairwise (fun x y => x.ix ≠ y.ix) := (hp.pairwise_iff (fun {x y} h e => h e.symm)).2 hne
  refine sorted_eq (fun x : IdZ => x.ix) _ _ ((hs.and hne2).imp fun {x y} h => by have h1 := h.1; have h2 := h.2; show x.ix < y.ix; omega) (namesC_sorted _ _ _ _) (fun x => ?_)
  rw [hp.mem_iff, namesC_mem]
  unfold idsAt
  rw [List.mem_flatMap]
  constructor
  · rintro ⟨j, hj, hx⟩
    obtain ⟨p, hp⟩ := List.getElem?_of_mem hx
    obtain ⟨i, g, rfl, hLi, hn, _⟩ := h.bk j p _ hp
    exact ⟨i, g, hL i g hLi, by rw [hn]; exact hj, hLi, rfl⟩
  · rintro ⟨i, g, hi, hj, hLi, rfl⟩
    exact ⟨_, hj, List.mem_of_getElem? (h.st i g hLi).2.2⟩
theorem sgTo_all (S : List Nat) : ∀ k, sgTo S 0 0 k = List.range k
  | 0 => rfl
  | k + 1 => by
    unfold sgTo
    rw [sgTo_all S k, List.range_succ]
    congr 1
/-- All of them. -/
theorem names_all {l : List Cp} {a : Co} {L : Nat → Option Nat} {n m : Nat} (h : CoOk l a L) (hm : a.tabs.length ≤ m) : namesC a L n (List.range m) = (entsC a L n).map (·.id) := by
  refine sorted_eq (fun x : IdZ => x.ix) _ _ (namesC_sorted _ _ _ _) (by rw [List.pairwise_map]; exact entsC_sorted a L n) (fun x => ?_)
  rw [namesC_mem, List.mem_map]
  constructor
  · rintro ⟨i, g, hi, _, hL, rfl⟩
    exact ⟨⟨⟨(i : Int), (g : Int)⟩, entP a i⟩, entsC_mem.2 ⟨i, g, hi, hL, rfl⟩, rfl⟩
  · rintro ⟨e, he, rfl⟩
    obtain ⟨i, g, hi, hL, rfl⟩ := entsC_mem.1 he
    exact ⟨i, g, hi, List.mem_range.2 (by have := (h.st i g hL).2.1; omega), hL, rfl⟩
end Go.Proofs.YtdeifjnhbdkkgaaGreatDoor
namespace Go.Proofs.YtdeifjnhbdkkgaaGreatDoor
open Go.RowKit
set_option maxRecDepth 100000
set_option linter.unusedVariables false
set_option linter.unusedSimpArgs false

/-- A core as it may be. -/
structure InvC (c : Cf) (a : Co) : Prop where
  ok : CoOk c.l a (stN a.na)
  na : NaOk a.na
  ents : (a.na.ents : Int) = c.ents
  lim : (a.na.lim : Int) = c.gens
  few : a.tabs.length ≤ a.sigs.length
  sg0 : 0 < a.sigs.length ∧ sgAt a 0 = 0
  sgs : ∀ s ∈ a.sigs, s < 18446744073709551616 ∧ s &&& allOf c.l = s
theorem InvC.st_lt {c : Cf} {a : Co} (h : InvC c a) {i g : Nat} (hi : stN a.na i = some g) : i < 1024 := by
  have h1 := stN_lt hi
  have h2 := h.na.few
  have h3 := h.na.ents
  omega
theorem few_ids {l : List Cp} {a : Co} {L : Nat → Option Nat} {i : Nat} (h : CoOk l a L) (hL : ∀ k g, L k = some g → k < 1024) (hi : L i = none) (hi4 : i < 1024) (j : Nat) : (tbAt a j).ids.length ≠ 1024 := by
  have hnd : (i :: (tbAt a j).ids.map fun x => x.ix.toNat).Nodup := by
    rw [List.nodup_cons]
    refine ⟨fun hm => ?_, ?_⟩
    · obtain ⟨x, hx, e⟩ := List.mem_map.1 hm
      obtain ⟨r, hr⟩ := List.getElem?_of_mem hx
      obtain ⟨k, g, rfl, hk, _⟩ := h.bk j r x hr
      rw [Int.toNat_natCast] at e
      rw [e, hi] at hk; cases hk
    · unfold List.Nodup
      rw [List.pairwise_map, List.pairwise_iff_getElem]
      intro p q hp hq hpq e
      obtain ⟨i1, g1, e1, _, hn1, hr1⟩ := h.bk j p _ (List.getElem?_eq_getElem hp)
      obtain ⟨i2, g2, e2, _, hn2, hr2⟩ := h.bk j q _ (List.getElem?_eq_getElem hq)
      rw [e1, e2] at e
      simp only [Int.toNat_natCast] at e
      subst e
      omega
  have hle := nodup_few 1024 _ hnd (fun x hx => by
    rcases List.mem_cons.1 hx with rfl | hx
    · exact hi4
    · obtain ⟨y, hy, rfl⟩ := List.mem_map.1 hx
      obtain ⟨r, hr⟩ := List.getElem?_of_mem hy
      obtain ⟨k, g, rfl, hk, _⟩ := h.bk j r y hr
      rw [Int.toNat_natCast]; exact hL k g hk)
  rw [List.length_cons, List.length_map] at hle
  omega
theorem addC_ok {l : List Cp} {a : Co} {L : Nat → Option Nat} {i j : Nat} {P : List PtZ} (h : CoOk l a L) (hL : ∀ k g, L k = some g → k < 1024) (hi : L i = none) (hi4 : i < 1024) (hP : addOk (sgAt a j) (szOf l) P = true) : addC (tbAt a j).ids.length (sgAt a j) (szOf l) P = 0 := by
  unfold addC
  rw [if_neg (few_ids h hL hi hi4 j), if_pos hP]
theorem intsN_at {l : List Nat} {i : Nat} (h : i < l.length) : (ints l).getD i 0 = ((l.getD i 0 : Nat) : Int) := by
  unfold ints
  rw [List.getD_eq_getElem?_getD, List.getElem?_map, List.getD_eq_getElem?_getD, List.getElem?_eq_getElem h]
  rfl
theorem list_set_same {α : Type} {l : List α} {j : Nat} {x : α} (h : l[j]? = some x) : l.set j x = l := by
  refine List.ext_getElem? fun i => ?_
  rw [List.getElem?_set]
  by_cases hij : j = i
  · subst hij
    rw [if_pos rfl, if_pos (List.getElem?_eq_some_iff.1 h).1, h]
  · rw [if_neg hij]
/-- Spawn. -/
theorem spawn_add {c : Cf} {a : Co} (h : InvC c a) (h0 : (takeI a.na).2.2 = 0) : addC (tbAt a 0).ids.length (sgAt a 0) (szOf c.l) [] = 0 := by
  obtain ⟨i, g, hid, hi4⟩ := takeI_name h.na h0
  obtain ⟨h1, -⟩ := takeI_st h.na h0 hid
  exact addC_ok h.ok (fun k g hk => h.st_lt hk) h1 hi4 (by unfold addOk; rw [h.sg0.2, bl_zero]; rfl)
theorem spawn_law {c : Cf} {a : Co} (h : InvC c a) : InvC c (spawnC (szOf c.l) a).1 ∧ (absC (spawnC (szOf c.l) a).1, (spawnC (szOf c.l) a).2) = spawnR c.ents (absC a) ∧ (spawnC (szOf c.l) a).1.sigs = a.sigs := by
  by_cases h0 : (takeI a.na).2.2 = 0
  · obtain ⟨i, g, hid, hi4⟩ := takeI_name h.na h0
    obtain ⟨h1, h2, h3, h4⟩ := takeI_st h.na h0 hid
    have ES : spawnC (szOf c.l) a = (enterC (szOf c.l) (naC a (takeI a.na).1) i g 0 [], ⟨(i : Int), (g : Int)⟩, 0) := by
      unfold spawnC
      rw [if_pos h0, hid]
      rfl
    have hok : CoOk c.l (naC a (takeI a.na).1) (stN a.na) := h.ok.na _
    have hadd : addOk (sgAt (naC a (takeI a.na).1) 0) (szOf c.l) [] = true := by
      show addOk (sgAt a 0) (szOf c.l) [] = true
      unfold addOk; rw [h.sg0.2, bl_zero]; rfl
    obtain ⟨e1, -, -, -⟩ := hok.enter (g := g) h1 0 hadd
    have hents : (takeI a.na).1.ents = a.na.ents ∧ (takeI a.na).1.lim = a.na.lim := by
      unfold takeI
      split
      · exact ⟨rfl, rfl⟩
      · split <;> exact ⟨rfl, rfl⟩
    rw [ES]
    refine ⟨⟨e1.ext h2, takeI_ok h.na, by show ((takeI a.na).1.ents : Int) = _; rw [hents.1]; exact h.ents, by show ((takeI a.na).1.lim : Int) = _; rw [hents.2]; exact h.lim, ?_, h.sg0, h.sgs⟩, ?_, rfl⟩
    · show (List.set (growC (naC a (takeI a.na).1) 1).tabs 0 _).length ≤ a.sigs.length
      rw [List.length_set]
      have hf := h.few
      have hs := h.sg0.1
      unfold growC naC
      simp; omega
    · have he : entsC (enterC (szOf c.l) (naC a (takeI a.na).1) i g 0 []) (stN (takeI a.na).1) (takeI a.na).1.sl.length = insI ⟨(i : Int), (g : Int)⟩ (entsC a (stN a.na) a.na.sl.length) := by
        have e := ents_spawn (n := a.na.sl.length) (g := g) hok h1 h3 h4 (fun k gk hk => stN_lt hk) (show sgAt (naC a (takeI a.na).1) 0 = 0 from h.sg0.2)
        rw [show stN (takeI a.na).1 = (fun k => if k = i then some g else stN a.na k) from funext h2]
        exact e
      have hab : absC (enterC (szOf c.l) (naC a (takeI a.na).1) i g 0 []) = ⟨ints (gensI (takeI a.na).1), ints (takeI a.na).1.free, insI ⟨(i : Int), (g : Int)⟩ (entsC a (stN a.na) a.na.sl.length)⟩ := by
        show SZ.mk _ _ _ = _
        exact congrArg (SZ.mk _ _) he
      dsimp only
      rw [hab]
      unfold spawnR
      rcases list_last a.na.free with hf | ⟨f, j, hf⟩
      · have e := takeI_none hf
        by_cases hl : a.na.sl.length = a.na.ents
        · rw [e, if_pos hl] at h0; simp at h0
        · rw [if_neg hl] at e
          have hi0 : (⟨(a.na.sl.length : Int), 0⟩ : IdZ) = ⟨(i : Int), (g : Int)⟩ := by rw [← hid, e]
          rw [show (absC a).free = [] by show ints a.na.free = []; rw [hf]; rfl]
          dsimp only [List.getLast?]
          have hgl : ((absC a).gens.length : Int) = (a.na.sl.length : Int) := by simp [absC, ints, gensI]
          rw [if_neg (by rw [hgl, ← h.ents]; omega), hgl, hi0, e]
          simp [absC, ints, gensI, hf]
      · have e := takeI_last hf
        obtain ⟨j1, j2, j3⟩ := h.na.fr j (by rw [hf]; simp)
        have hi0 : (⟨(j : Int), ((a.na.sl.getD j (0, false)).1 : Int)⟩ : IdZ) = ⟨(i : Int), (g : Int)⟩ := by rw [← hid, e]
        have hfr : (absC a).free = ints f ++ [(j : Int)] := by show ints a.na.free = _; rw [hf]; simp [ints]
        have hgj : (absC a).gens.getD j 0 = ((a.na.sl.getD j (0, false)).1 : Int) := by
          show (ints (gensI a.na)).getD j 0 = _
          rw [intsN_at (by unfold gensI; simpa using j1)]
          unfold gensI
          rw [List.getD_eq_getElem?_getD, List.getElem?_map, List.getD_eq_getElem?_getD, List.getElem?_eq_getElem j1]
          rfl
        rw [hfr]
        rw [List.getLast?_concat]
        dsimp only
        rw [Int.toNat_natCast, hgj, hi0, e]
        have hgs : gensI ⟨a.na.sl.set j ((a.na.sl.getD j (0, false)).1, true), f, a.na.ents, a.na.lim⟩ = gensI a.na := by
          unfold gensI
          dsimp only
          rw [List.map_set]
          have : (a.na.sl.map (·.1))[j]? = some (a.na.sl.getD j (0, false)).1 := by
            rw [List.getElem?_map, List.getD_eq_getElem?_getD, List.getElem?_eq_getElem j1]; rfl
          exact list_set_same this
        rw [hgs]
        simp [absC]
  · have e := takeI_err h0
    have ES : spawnC (szOf c.l) a = (a, zeroId, 9) := by
      unfold spawnC
      rw [if_neg h0, e]
    rw [ES]
    refine ⟨h, ?_, rfl⟩
    unfold spawnR
    rcases list_last a.na.free with hf | ⟨f, j, hf⟩
    · have e2 := takeI_none hf
      by_cases hl : a.na.sl.length = a.na.ents
      · rw [show (absC a).free = [] by show ints a.na.free = []; rw [hf]; rfl]
        dsimp only [List.getLast?]
        rw [if_pos (by have : ((absC a).gens.length : Int) = (a.na.sl.length : Int) := by simp [absC, ints, gensI]
                       rw [this, ← h.ents, hl])]
        rfl
      · rw [if_neg hl] at e2
        rw [e2] at h0; simp at h0
    · rw [takeI_last hf] at h0; simp at h0
/-- Despawn. -/
theorem giveI_same (n : Na) (x : IdZ) : (giveI n x).1.ents = n.ents ∧ (giveI n x).1.lim = n.lim := by
  unfold giveI
  split <;> exact ⟨rfl, rfl⟩
theorem despawn_law {c : Cf} {a : Co} (h : InvC c a) (x : IdZ) : InvC c (despawnC a x).1 ∧ (absC (despawnC a x).1, (despawnC a x).2) = despawnR c.gens (absC a) x ∧ (despawnC a x).1.sigs = a.sigs := by
  by_cases ha : aliveI a.na x = true
  · obtain ⟨i, g, rfl, hL⟩ := aliveI_st.1 ha
    obtain ⟨-, h2, h3, h4, h5⟩ := giveI_st hL
    obtain ⟨e1, -⟩ := h.ok.leave hL
    obtain ⟨g1, g2⟩ := giveI_same a.na ⟨(i : Int), (g : Int)⟩
    have ES : despawnC a ⟨(i : Int), (g : Int)⟩ = (naC (leaveC a i) (giveI a.na ⟨(i : Int), (g : Int)⟩).1, 0) := by
      unfold despawnC
      rw [if_pos ha]
      dsimp only
      rw [Int.toNat_natCast]
    rw [ES]
    obtain ⟨p, hp1, hp2⟩ := place_st hL
    refine ⟨⟨(e1.na _).ext h2, giveI_ok h.na _, by show ((giveI a.na ⟨(i : Int), (g : Int)⟩).1.ents : Int) = _; rw [g1]; exact h.ents, by show ((giveI a.na ⟨(i : Int), (g : Int)⟩).1.lim : Int) = _; rw [g2]; exact h.lim, ?_, h.sg0, h.sgs⟩, ?_, rfl⟩
    · show (leaveC a i).tabs.length ≤ a.sigs.length
      rw [(leaveC_len a i).2]; exact h.few
    · have he : entsC (leaveC a i) (stN (giveI a.na ⟨(i : Int), (g : Int)⟩).1) (giveI a.na ⟨(i : Int), (g : Int)⟩).1.sl.length = (entsC a (stN a.na) a.na.sl.length).eraseIdx p := by
        rw [h3, show stN (giveI a.na ⟨(i : Int), (g : Int)⟩).1 = (fun k => if k = i then none else stN a.na k) from funext h2]
        exact ents_leave h.ok hL hp2
      unfold despawnR
      rw [hp1]
      dsimp only
      have hlim := h.lim
      show (SZ.mk (ints (gensI (giveI a.na ⟨(i : Int), (g : Int)⟩).1)) (ints (giveI a.na ⟨(i : Int), (g : Int)⟩).1.free) (entsC (leaveC a i) (stN (giveI a.na ⟨(i : Int), (g : Int)⟩).1) (giveI a.na ⟨(i : Int), (g : Int)⟩).1.sl.length), (0 : Int)) = _
      rw [he, h4, h5, Int.toNat_natCast]
      have q1 : ints ((gensI a.na).set i (g + 1)) = (absC a).gens.set i ((g : Int) + 1) := by
        show _ = (ints (gensI a.na)).set i ((g : Int) + 1)
        unfold ints
        rw [List.map_set]
        rfl
      have q2 : ints (if g + 1 < a.na.lim then a.na.free ++ [i] else a.na.free) = if (g : Int) + 1 < c.gens then (absC a).free ++ [(i : Int)] else (absC a).free := by
        by_cases hg : g + 1 < a.na.lim
        · rw [if_pos hg, if_pos (by omega)]; simp [ints, absC]
        · rw [if_neg hg, if_neg (by omega)]; rfl
      rw [q1, q2]
      rfl
  · have ES : despawnC a x = (a, 5) := by unfold despawnC; rw [if_neg ha]
    rw [ES]
    refine ⟨h, ?_, rfl⟩
    unfold despawnR
    rw [place_no ha]
/-- A component's size. -/
def sizeR (l : List Cp) (k : Int) : Option Int := if 0 ≤ k ∧ k < l.length then some (szAt l k.toNat) else none
/-- Set, of a component that is there. -/
def turnC (l : List Cp) (a : Co) (i : Nat) (k : Int) (d : List UInt8) : Co := ⟨a.na, a.sigs, a.tabs.set (spAt a i).node ⟨(tbAt a (spAt a i).node).ids, setK (tbAt a (spAt a i).node).ids.length (sgAt a (spAt a i).node) (szOf l) (tbAt a (spAt a i).node).col ((spAt a i).row : Int) k d⟩, a.spots⟩
def setR (l : List Cp) (s : SZ) (x : IdZ) (k : Int) (d : List UInt8) : SZ × Int :=
  match placeR s x with
  | none => (s, 5)
  | some p => match sizeR l k with
    | none => (s, 6)
    | some n => if (d.length : Int) ≠ n then (s, 7) else (⟨s.gens, s.free, s.ents.set p ⟨x, setP k d (s.ents.getD p default).parts⟩⟩, 0)
theorem CoOk.turn {l : List Cp} {a : Co} {L : Nat → Option Nat} {i g k : Nat} {d : List UInt8} (h : CoOk l a L) (hi : L i = some g) (hk : k ∈ bl (sgAt a (spAt a i).node) 64) (hd : d.length = szOf l k) :
    CoOk l (turnC l a i (k : Int) d) L ∧ (∀ m gm, m ≠ i → L m = some gm → entP (turnC l a i (k : Int) d) m = entP a m) ∧ entP (turnC l a i (k : Int) d) i = setP (k : Int) d (entP a i) ∧ setC (tbAt a (spAt a i).node).ids.length (sgAt a (spAt a i).node) (szOf l) ((spAt a i).row : Int) (k : Int) d = 0 := by
  obtain ⟨h1, h2, h3⟩ := h.st i g hi
  have hr := (List.getElem?_eq_some_iff.1 h3).1
  have hcc : colC (tbAt a (spAt a i).node).ids.length (sgAt a (spAt a i).node) ((spAt a i).row : Int) (k : Int) = 0 := by
    unfold colC
    rw [rowC_in hr, if_neg (by decide)]
    unfold hasK
    rw [Int.toNat_natCast, decide_eq_true ⟨Int.natCast_nonneg _, hk⟩, if_pos rfl]
  have hsc : setC (tbAt a (spAt a i).node).ids.length (sgAt a (spAt a i).node) (szOf l) ((spAt a i).row : Int) (k : Int) d = 0 := by
    unfold setC
    rw [hcc, if_neg (by decide), Int.toNat_natCast, if_neg (by rw [hd]; simp)]
  have hsk : ∀ e, setK (tbAt a (spAt a i).node).ids.length (sgAt a (spAt a i).node) (szOf l) (tbAt a (spAt a i).node).col ((spAt a i).row : Int) (k : Int) d e = if e = k then ((tbAt a (spAt a i).node).col e).set (spAt a i).row d else (tbAt a (spAt a i).node).col e := fun e => by
    unfold setK
    rw [Int.toNat_natCast, Int.toNat_natCast]
    by_cases he : e = k
    · rw [if_pos ⟨hsc, he⟩, if_pos he]
    · rw [if_neg (fun h => he h.2), if_neg he]
  have etb : ∀ j, tbAt (turnC l a i (k : Int) d) j = if j = (spAt a i).node then ⟨(tbAt a (spAt a i).node).ids, setK (tbAt a (spAt a i).node).ids.length (sgAt a (spAt a i).node) (szOf l) (tbAt a (spAt a i).node).col ((spAt a i).row : Int) (k : Int) d⟩ else tbAt a j := fun j => by
    show (List.set a.tabs _ _).getD j tz0 = _
    rw [getD_set_at tz0 j _ h2]
    rfl
  have eid : ∀ j, (tbAt (turnC l a i (k : Int) d) j).ids = (tbAt a j).ids := fun j => by
    rw [etb]
    by_cases hj : j = (spAt a i).node
    · rw [if_pos hj, hj]
    · rw [if_neg hj]
  have esp : ∀ m, spAt (turnC l a i (k : Int) d) m = spAt a m := fun m => rfl
  refine ⟨⟨fun m gm hm => ?_, fun j r x hx => ?_, fun j e he => ?_⟩, fun m gm hmi hm => ?_, ?_, hsc⟩
  · rw [esp, eid]
    obtain ⟨s1, s2, s3⟩ := h.st m gm hm
    exact ⟨s1, by show _ < (List.set a.tabs _ _).length; rw [List.length_set]; exact s2, s3⟩
  · rw [eid] at hx
    exact h.bk j r x hx
  · have he' : e ∈ bl (sgAt a j) 64 := he
    obtain ⟨c1, c2⟩ := h.col j e he'
    rw [etb]
    by_cases hj : j = (spAt a i).node
    · rw [if_pos hj]
      subst hj
      dsimp only
      rw [hsk]
      by_cases hek : e = k
      · rw [if_pos hek, List.length_set]
        refine ⟨c1, fun y hy => ?_⟩
        rcases List.mem_or_eq_of_mem_set hy with hy | rfl
        · exact c2 y hy
        · rw [hek]; exact hd
      · rw [if_neg hek]; exact ⟨c1, c2⟩
    · rw [if_neg hj]; exact ⟨c1, c2⟩
  · unfold entP
    show rowT (sgAt a (spAt a m).node) _ (spAt a m).row = _
    unfold rowT
    refine List.map_congr_left fun e he => ?_
    refine congrArg (PtZ.mk (e : Int)) ?_
    rw [esp, etb]
    by_cases hj : (spAt a m).node = (spAt a i).node
    · rw [if_pos hj]
      dsimp only
      rw [hsk, hj]
      by_cases hek : e = k
      · rw [if_pos hek]
        have hrow : (spAt a m).row ≠ (spAt a i).row := fun e2 => by
          have s3 := (h.st m gm hm).2.2
          rw [hj, e2, h3] at s3
          injection s3 with s3
          injection s3 with s3 _
          omega
        exact getD_set_ne [] _ _ (fun e => hrow e.symm)
      · rw [if_neg hek]
    · rw [if_neg hj]
  · unfold entP
    show rowT (sgAt a (spAt a i).node) _ (spAt a i).row = _
    rw [esp, etb, if_pos rfl]
    unfold rowT
    refine parts_set (s := sgAt a (spAt a i).node) (s' := sgAt a (spAt a i).node) (k := k) (fun c => ⟨fun h => .inl h, fun h => h.elim id (fun e => by rw [e]; exact hk)⟩) ?_ (fun c hc hck => ?_)
    · dsimp only
      rw [hsk, if_pos rfl]
      exact getD_set_self [] _ _ (by rw [(h.col _ k hk).1]; exact hr)
    · dsimp only
      rw [hsk, if_neg hck]
end Go.Proofs.YtdeifjnhbdkkgaaGreatDoor
namespace Go.Proofs.YtdeifjnhbdkkgaaGreatDoor
open Go.RowKit
set_option maxRecDepth 100000
set_option linter.unusedVariables false
set_option linter.unusedSimpArgs false

theorem dataT_of {P : List PtZ} {c : Int} {D : List UInt8} {n : Nat} (h1 : ∃ e ∈ P, e.comp = c) (h2 : ∀ e ∈ P, e.comp = c → e.data = D) : dataT P c n = D := by
  obtain ⟨e, he, hc⟩ := h1
  have hlt : fstP P c < P.length := by
    unfold fstP
    exact List.findIdx_lt_length_of_exists ⟨e, he, decide_eq_true hc⟩
  have hp : decide ((P[fstP P c]'hlt).comp = c) = true := List.findIdx_getElem (w := hlt)
  have hx : P[fstP P c]? = some (P[fstP P c]'hlt) := List.getElem?_eq_getElem hlt
  unfold dataT
  rw [hx]
  exact h2 _ (List.getElem_mem hlt) (of_decide_eq_true hp)
theorem all_testBit (l : List Cp) (c : Nat) : (allOf l).testBit c = (decide (c < 64) && decide (c < l.length)) := by
  unfold allOf
  rw [orL_testBit]
  have : decide ((c : Int) ∈ idxL l.length) = decide (c < l.length) := by
    congr 1
    apply propext
    simp [idxL]
    exact ⟨fun ⟨x, h1, h2⟩ => by omega, fun h => ⟨c, h, rfl⟩⟩
  rw [this]; simp
theorem and_all {l : List Cp} {s : Nat} (h : ∀ c, s.testBit c = true → c < 64 ∧ c < l.length) : s &&& allOf l = s := by
  refine Nat.eq_of_testBit_eq fun c => ?_
  rw [Nat.testBit_and, all_testBit]
  cases hs : s.testBit c with
  | false => rfl
  | true => obtain ⟨h1, h2⟩ := h c hs; simp [h1, h2]
theorem all_and {l : List Cp} {s : Nat} (h : s &&& allOf l = s) {c : Nat} (hs : s.testBit c = true) : c < 64 ∧ c < l.length := by
  rw [← h, Nat.testBit_and, all_testBit] at hs
  simp at hs
  exact hs.2
/-- The nodes behind a new set. -/
theorem InvC.node {c : Cf} {a : Co} (h : InvC c a) {sg : Nat} (h1 : sg < 18446744073709551616) (h2 : sg &&& allOf c.l = sg) :
    (∀ s ∈ nodeS a.sigs sg, s < 18446744073709551616 ∧ s &&& allOf c.l = s) ∧ nodeI a.sigs sg < (nodeS a.sigs sg).length ∧ (nodeS a.sigs sg).getD (nodeI a.sigs sg) 0 = sg ∧ (∀ j, j < a.tabs.length → (nodeS a.sigs sg).getD j 0 = a.sigs.getD j 0) ∧ a.sigs.length ≤ (nodeS a.sigs sg).length := by
  refine ⟨fun s hs => ?_, nodeI_lt _ _, ?_, fun j hj => ?_, (nodeS_len _ _).1⟩
  · unfold nodeS at hs
    split at hs
    · exact h.sgs s hs
    · rcases List.mem_append.1 hs with hs | hs
      · exact h.sgs s hs
      · obtain rfl : s = sg := by simpa using hs
        exact ⟨h1, h2⟩
  · have := (pos_some.1 (nodeS_pos a.sigs sg)).1
    rw [List.getD_eq_getElem?_getD, this]; rfl
  · have hj2 : j < a.sigs.length := Nat.lt_of_lt_of_le hj h.few
    have := nodeS_at (S := a.sigs) (x := sg) (List.getElem?_eq_getElem hj2)
    rw [List.getD_eq_getElem?_getD, this, List.getD_eq_getElem?_getD, List.getElem?_eq_getElem hj2]
/-- An entity moves to another set. -/
theorem InvC.move {c : Cf} {a : Co} (h : InvC c a) {i g sg : Nat} {P : List PtZ} (hL : stN a.na i = some g) (h1 : sg < 18446744073709551616) (h2 : sg &&& allOf c.l = sg) (hP : addOk sg (szOf c.l) P = true) :
    addC (tbAt (leaveC (sgC a sg) i) (nodeI a.sigs sg)).ids.length (sgAt (leaveC (sgC a sg) i) (nodeI a.sigs sg)) (szOf c.l) P = 0 ∧ InvC c (enterC (szOf c.l) (leaveC (sgC a sg) i) i g (nodeI a.sigs sg) P) ∧ entP (sgC a sg) i = entP a i ∧
    (∀ p, (absC a).ents[p]? = some ⟨⟨(i : Int), (g : Int)⟩, entP a i⟩ → absC (enterC (szOf c.l) (leaveC (sgC a sg) i) i g (nodeI a.sigs sg) P) = ⟨(absC a).gens, (absC a).free, (absC a).ents.set p ⟨⟨(i : Int), (g : Int)⟩, (bl sg 64).map fun (c' : Nat) => ⟨(c' : Int), dataT P (c' : Int) (szOf c.l c')⟩⟩⟩) := by
  obtain ⟨n1, n2, n3, n4, n5⟩ := h.node h1 h2
  have hst := h.ok.st i g hL
  have e0 : CoOk c.l (sgC a sg) (stN a.na) := h.ok.sgs n4
  have ep : ∀ k gk, stN a.na k = some gk → entP (sgC a sg) k = entP a k := fun k gk hk => entP_sgs (h.ok.st k gk hk).2.1 n4
  obtain ⟨e1, o1⟩ := e0.leave hL
  have hsg : sgAt (leaveC (sgC a sg) i) (nodeI a.sigs sg) = sg := n3
  have hn : (fun k => if k = i then none else stN a.na k) i = none := if_pos rfl
  have hlt : ∀ k gk, (fun k => if k = i then none else stN a.na k) k = some gk → k < 1024 := fun k gk hk => by
    dsimp only at hk
    split at hk
    · cases hk
    · exact h.st_lt hk
  have hadd := addC_ok (P := P) (j := nodeI a.sigs sg) e1 hlt hn (h.st_lt hL) (by rw [hsg]; exact hP)
  obtain ⟨e2, o2, -, p2⟩ := e1.enter (g := g) hn (nodeI a.sigs sg) (by rw [hsg]; exact hP)
  rw [hsg] at p2
  have e3 : CoOk c.l (enterC (szOf c.l) (leaveC (sgC a sg) i) i g (nodeI a.sigs sg) P) (stN a.na) := e2.ext fun k => by
    by_cases hk : k = i
    · rw [if_pos hk, hk, hL]
    · rw [if_neg hk, if_neg hk]
  refine ⟨hadd, ⟨e3, h.na, h.ents, h.lim, ?_, ⟨Nat.lt_of_lt_of_le h.sg0.1 n5, ?_⟩, n1⟩, ep i g hL, fun p hp => ?_⟩
  · show (List.set (growC (leaveC (sgC a sg) i) (nodeI a.sigs sg + 1)).tabs _ _).length ≤ (nodeS a.sigs sg).length
    rw [List.length_set]
    have hf := h.few
    have hl2 : (leaveC (sgC a sg) i).tabs.length = a.tabs.length := (leaveC_len (sgC a sg) i).2
    unfold growC
    dsimp only
    rw [List.length_append, List.length_replicate, hl2]
    omega
  · show (nodeS a.sigs sg).getD 0 0 = 0
    have hz : a.sigs[0]? = some 0 := by
      have := h.sg0.2
      unfold sgAt at this
      rw [List.getD_eq_getElem?_getD, List.getElem?_eq_getElem h.sg0.1] at this
      rw [List.getElem?_eq_getElem h.sg0.1]
      exact congrArg some this
    rw [List.getD_eq_getElem?_getD, nodeS_at hz]; rfl
  · have he := ents_turn (a := a) (a' := enterC (szOf c.l) (leaveC (sgC a sg) i) i g (nodeI a.sigs sg) P) (n := a.na.sl.length) hL (stN_lt hL) hp (fun k gk hk hLk => by
      rw [(o2 k gk hk (by rw [if_neg hk]; exact hLk)).2, (o1 k gk hk hLk).2, ep k gk hLk]) p2
    show SZ.mk _ _ _ = _
    exact congrArg (SZ.mk _ _) he
theorem mem_entP {a : Co} {i : Nat} {e : PtZ} : e ∈ entP a i ↔ ∃ c : Nat, c ∈ bl (sgAt a (spAt a i).node) 64 ∧ e = ⟨(c : Int), ((tbAt a (spAt a i).node).col c).getD (spAt a i).row []⟩ := by
  unfold entP rowT
  exact parts_mem (f := fun c => ((tbAt a (spAt a i).node).col c).getD (spAt a i).row [])
theorem col_len {l : List Cp} {a : Co} {L : Nat → Option Nat} (h : CoOk l a L) {i g k : Nat} (hi : L i = some g) (hk : k ∈ bl (sgAt a (spAt a i).node) 64) : (((tbAt a (spAt a i).node).col k).getD (spAt a i).row []).length = szOf l k := by
  have hr := (List.getElem?_eq_some_iff.1 (h.st i g hi).2.2).1
  obtain ⟨c1, c2⟩ := h.col _ k hk
  rw [← c1] at hr
  rw [List.getD_eq_getElem?_getD, List.getElem?_eq_getElem hr]
  exact c2 _ (List.getElem_mem hr)
/-- A component comes. -/
theorem InvC.comes {c : Cf} {a : Co} (h : InvC c a) {i g k : Nat} {d : List UInt8} (hL : stN a.na i = some g) (hk : k < c.l.length) (hk64 : k < 64) (hn : k ∉ bl (sgAt a (spAt a i).node) 64) (hd : d.length = szOf c.l k) :
    stepSig (sgAt a (spAt a i).node) (k : Int) true < 18446744073709551616 ∧ stepSig (sgAt a (spAt a i).node) (k : Int) true &&& allOf c.l = stepSig (sgAt a (spAt a i).node) (k : Int) true ∧ addOk (stepSig (sgAt a (spAt a i).node) (k : Int) true) (szOf c.l) (entP a i ++ [⟨(k : Int), d⟩]) = true ∧
    ((bl (stepSig (sgAt a (spAt a i).node) (k : Int) true) 64).map fun (c' : Nat) => (⟨(c' : Int), dataT (entP a i ++ [⟨(k : Int), d⟩]) (c' : Int) (szOf c.l c')⟩ : PtZ)) = setP (k : Int) d (entP a i) := by
  have hst := h.ok.st i g hL
  have hmem : sgAt a (spAt a i).node ∈ a.sigs := by
    unfold sgAt
    have : (spAt a i).node < a.sigs.length := Nat.lt_of_lt_of_le hst.2.1 h.few
    rw [List.getD_eq_getElem?_getD, List.getElem?_eq_getElem this]
    exact List.getElem_mem this
  obtain ⟨s1, s2⟩ := h.sgs _ hmem
  obtain ⟨s, es⟩ : ∃ s, sgAt a (spAt a i).node = s := ⟨_, rfl⟩
  have hcl := fun k hk => col_len h.ok hL (k := k) hk
  have hme := fun e => mem_entP (a := a) (i := i) (e := e)
  have hset : setP (k : Int) d (entP a i) = setP (k : Int) d ((bl s 64).map fun (c : Nat) => (⟨(c : Int), ((tbAt a (spAt a i).node).col c).getD (spAt a i).row []⟩ : PtZ)) := by rw [← es]; rfl
  rw [hset]
  rw [es] at s1 s2 hn hcl hme ⊢
  have e : stepSig s (k : Int) true = s ||| bitN (k : Int) := rfl
  rw [e]
  have hbit : ∀ j, (s ||| bitN (k : Int)).testBit j = (s.testBit j || (decide (j < 64) && decide ((j : Int) = (k : Int)))) := fun j => by rw [Nat.testBit_or, bitN_testBit]
  have hbl : ∀ j, j ∈ bl (s ||| bitN (k : Int)) 64 ↔ j ∈ bl s 64 ∨ j = k := fun j => by
    rw [bl_mem, bl_mem, hbit]
    constructor
    · rintro ⟨h1, h2⟩
      rw [Bool.or_eq_true] at h2
      rcases h2 with h2 | h2
      · exact .inl ⟨h1, h2⟩
      · simp at h2; exact .inr (by omega)
    · rintro (⟨h1, h2⟩ | rfl)
      · exact ⟨h1, by rw [h2]; rfl⟩
      · exact ⟨hk64, by simp [hk64]⟩
  have hdt : ∀ j, j ∈ bl (s ||| bitN (k : Int)) 64 → ∀ n, dataT (entP a i ++ [⟨(k : Int), d⟩]) (j : Int) n = if j = k then d else ((tbAt a (spAt a i).node).col j).getD (spAt a i).row [] := fun j hj n => by
    by_cases hjk : j = k
    · rw [if_pos hjk]
      subst hjk
      refine dataT_of ⟨⟨(j : Int), d⟩, by simp, rfl⟩ (fun e he hc => ?_)
      rcases List.mem_append.1 he with he | he
      · obtain ⟨c', hc', rfl⟩ := (hme e).1 he
        have hc : (c' : Int) = (j : Int) := hc
        obtain rfl : c' = j := by omega
        exact absurd hc' hn
      · obtain rfl : e = ⟨(j : Int), d⟩ := by simpa using he
        rfl
    · rw [if_neg hjk]
      have hjs : j ∈ bl s 64 := ((hbl j).1 hj).elim id (fun h => absurd h hjk)
      refine dataT_of ⟨_, List.mem_append.2 (.inl ((hme _).2 ⟨j, hjs, rfl⟩)), rfl⟩ (fun e he hc => ?_)
      rcases List.mem_append.1 he with he | he
      · obtain ⟨c', hc', rfl⟩ := (hme e).1 he
        have hc : (c' : Int) = (j : Int) := hc
        obtain rfl : c' = j := by omega
        rfl
      · obtain rfl : e = ⟨(k : Int), d⟩ := by simpa using he
        have hc : (k : Int) = (j : Int) := hc
        omega
  refine ⟨?_, ?_, ?_, ?_⟩
  · exact with_lt s (k : Int) s1
  · refine and_all fun j hj => ?_
    rw [hbit, Bool.or_eq_true] at hj
    rcases hj with hj | hj
    · exact all_and s2 hj
    · simp at hj
      obtain rfl : j = k := by omega
      exact ⟨hk64, hk⟩
  · unfold addOk
    rw [List.all_eq_true]
    intro j hj
    apply decide_eq_true
    rw [hdt j hj]
    by_cases hjk : j = k
    · rw [if_pos hjk, hjk]; exact hd
    · rw [if_neg hjk]
      exact hcl j (((hbl j).1 hj).elim id (fun h => absurd h hjk))
  · refine parts_set hbl ?_ (fun j hj hjk => ?_)
    · rw [hdt k ((hbl k).2 (.inr rfl)), if_pos rfl]
    · rw [hdt j ((hbl j).2 (.inl hj)), if_neg hjk]
/-- A component goes. -/
theorem InvC.goes {c : Cf} {a : Co} (h : InvC c a) {i g k : Nat} (hL : stN a.na i = some g) (hn : k ∈ bl (sgAt a (spAt a i).node) 64) :
    stepSig (sgAt a (spAt a i).node) (k : Int) false < 18446744073709551616 ∧ stepSig (sgAt a (spAt a i).node) (k : Int) false &&& allOf c.l = stepSig (sgAt a (spAt a i).node) (k : Int) false ∧ addOk (stepSig (sgAt a (spAt a i).node) (k : Int) false) (szOf c.l) (entP a i) = true ∧
    ∃ p, partR (entP a i) (k : Int) = some p ∧ ((bl (stepSig (sgAt a (spAt a i).node) (k : Int) false) 64).map fun (c' : Nat) => (⟨(c' : Int), dataT (entP a i) (c' : Int) (szOf c.l c')⟩ : PtZ)) = (entP a i).eraseIdx p := by
  have hst := h.ok.st i g hL
  have hmem : sgAt a (spAt a i).node ∈ a.sigs := by
    unfold sgAt
    have : (spAt a i).node < a.sigs.length := Nat.lt_of_lt_of_le hst.2.1 h.few
    rw [List.getD_eq_getElem?_getD, List.getElem?_eq_getElem this]
    exact List.getElem_mem this
  obtain ⟨s1, s2⟩ := h.sgs _ hmem
  have hcl := fun k hk => col_len h.ok hL (k := k) hk
  have hme := fun e => mem_entP (a := a) (i := i) (e := e)
  have hE : entP a i = ((bl (sgAt a (spAt a i).node) 64).map fun (c : Nat) => (⟨(c : Int), ((tbAt a (spAt a i).node).col c).getD (spAt a i).row []⟩ : PtZ)) := rfl
  obtain ⟨p, hp1, hp2⟩ := part_at (f := fun c => ((tbAt a (spAt a i).node).col c).getD (spAt a i).row []) hn
  rw [← hE] at hp1
  generalize sgAt a (spAt a i).node = s at *
  have e : stepSig s (k : Int) false = without s (k : Int) := rfl
  rw [e]
  have hbl : ∀ j, j ∈ bl (without s (k : Int)) 64 ↔ j ∈ bl s 64 ∧ j ≠ k := fun j => by
    rw [bl_mem, bl_mem, without_testBit s _ _ s1]
    constructor
    · rintro ⟨h1, h2⟩
      rw [Bool.and_eq_true] at h2
      have h3 := h2.2
      simp at h3
      exact ⟨⟨h1, h2.1⟩, by omega⟩
    · rintro ⟨⟨h1, h2⟩, h3⟩
      refine ⟨h1, ?_⟩
      rw [h2]
      simp
      omega
  have hdt : ∀ j, j ∈ bl s 64 → ∀ n, dataT (entP a i) (j : Int) n = ((tbAt a (spAt a i).node).col j).getD (spAt a i).row [] := fun j hj n => by
    refine dataT_of ⟨_, (hme _).2 ⟨j, hj, rfl⟩, rfl⟩ (fun e he hc => ?_)
    obtain ⟨c', hc', rfl⟩ := (hme e).1 he
    have hc : (c' : Int) = (j : Int) := hc
    obtain rfl : c' = j := by omega
    rfl
  refine ⟨without_lt s _ s1, ?_, ?_, p, hp1, ?_⟩
  · refine and_all fun j hj => ?_
    rw [without_testBit s _ _ s1, Bool.and_eq_true] at hj
    exact all_and s2 hj.1
  · unfold addOk
    rw [List.all_eq_true]
    intro j hj
    apply decide_eq_true
    have hjs := ((hbl j).1 hj).1
    rw [hdt j hjs]
    exact hcl j hjs
  · rw [hE]
    rw [hE] at hdt
    exact parts_drop hbl (fun j hj hjk => hdt j hj _) hp2
end Go.Proofs.YtdeifjnhbdkkgaaGreatDoor
namespace Go.Proofs.YtdeifjnhbdkkgaaGreatDoor
open Go.RowKit
set_option maxRecDepth 100000
set_option linter.unusedVariables false
set_option linter.unusedSimpArgs false

/-- What Set makes of a core. -/
def setCC (l : List Cp) (a : Co) (i g k : Nat) (d : List UInt8) : Co :=
  if k ∈ bl (sgAt a (spAt a i).node) 64 then turnC l a i (k : Int) d
  else enterC (szOf l) (leaveC (sgC a (stepSig (sgAt a (spAt a i).node) (k : Int) true)) i) i g (nodeI a.sigs (stepSig (sgAt a (spAt a i).node) (k : Int) true)) (entP (sgC a (stepSig (sgAt a (spAt a i).node) (k : Int) true)) i ++ [⟨(k : Int), d⟩])
theorem set_law {c : Cf} {a : Co} (h : InvC c a) {i g k : Nat} {d : List UInt8} (hL : stN a.na i = some g) (hk : k < c.l.length) (hk64 : k < 64) (hd : (d.length : Int) = szAt c.l k) (hs : d.length = szOf c.l k) :
    InvC c (setCC c.l a i g k d) ∧ (absC (setCC c.l a i g k d), (0 : Int)) = setR c.l (absC a) ⟨(i : Int), (g : Int)⟩ (k : Int) d := by
  obtain ⟨p, hp1, hp2⟩ := place_st hL
  have hsr : setR c.l (absC a) ⟨(i : Int), (g : Int)⟩ (k : Int) d = (⟨(absC a).gens, (absC a).free, (absC a).ents.set p ⟨⟨(i : Int), (g : Int)⟩, setP (k : Int) d (entP a i)⟩⟩, 0) := by
    unfold setR
    rw [hp1]
    dsimp only
    have e1 : sizeR c.l (k : Int) = some (szAt c.l k) := by
      unfold sizeR
      rw [if_pos ⟨Int.natCast_nonneg _, by omega⟩, Int.toNat_natCast]
    rw [e1]
    dsimp only
    rw [if_neg (by simpa using hd)]
    have e2 : (absC a).ents.getD p default = ⟨⟨(i : Int), (g : Int)⟩, entP a i⟩ := by
      rw [List.getD_eq_getElem?_getD, hp2]; rfl
    rw [e2]
  rw [hsr]
  unfold setCC
  by_cases hin : k ∈ bl (sgAt a (spAt a i).node) 64
  · rw [if_pos hin]
    obtain ⟨e1, o1, p1, -⟩ := h.ok.turn hL hin hs
    refine ⟨⟨e1, h.na, h.ents, h.lim, ?_, h.sg0, h.sgs⟩, ?_⟩
    · show (List.set a.tabs _ _).length ≤ a.sigs.length
      rw [List.length_set]; exact h.few
    · have he := ents_turn (a := a) (a' := turnC c.l a i (k : Int) d) (n := a.na.sl.length) hL (stN_lt hL) hp2 o1 p1
      refine congrArg (fun z => (z, (0 : Int))) ?_
      show SZ.mk _ _ _ = _
      exact congrArg (SZ.mk _ _) he
  · rw [if_neg hin]
    obtain ⟨s1, s2, s3, s4⟩ := h.comes hL hk hk64 hin hs
    obtain ⟨-, m2, m3, m4⟩ := h.move hL s1 s2 s3
    rw [m3]
    refine ⟨m2, congrArg (fun z => (z, (0 : Int))) ?_⟩
    rw [m4 p hp2, s4]
/-- What Remove makes of a core. -/
def removeCC (l : List Cp) (a : Co) (i g k : Nat) : Co :=
  enterC (szOf l) (leaveC (sgC a (stepSig (sgAt a (spAt a i).node) (k : Int) false)) i) i g (nodeI a.sigs (stepSig (sgAt a (spAt a i).node) (k : Int) false)) (entP (sgC a (stepSig (sgAt a (spAt a i).node) (k : Int) false)) i)
/-- The document's. -/
def removeR (l : List Cp) (s : SZ) (x : IdZ) (k : Int) : SZ × Int :=
  match placeR s x with
  | none => (s, 5)
  | some p => match sizeR l k with
    | none => (s, 6)
    | some _ => match partR (s.ents.getD p default).parts k with
      | none => (s, 8)
      | some q => (⟨s.gens, s.free, s.ents.set p ⟨x, (s.ents.getD p default).parts.eraseIdx q⟩⟩, 0)
theorem remove_law {c : Cf} {a : Co} (h : InvC c a) {i g k : Nat} (hL : stN a.na i = some g) (hk : k < c.l.length) (hin : k ∈ bl (sgAt a (spAt a i).node) 64) :
    InvC c (removeCC c.l a i g k) ∧ (absC (removeCC c.l a i g k), (0 : Int)) = removeR c.l (absC a) ⟨(i : Int), (g : Int)⟩ (k : Int) := by
  obtain ⟨p, hp1, hp2⟩ := place_st hL
  obtain ⟨s1, s2, s3, q, s4, s5⟩ := h.goes hL hin
  obtain ⟨-, m2, m3, m4⟩ := h.move hL s1 s2 s3
  have e2 : (absC a).ents.getD p default = ⟨⟨(i : Int), (g : Int)⟩, entP a i⟩ := by
    rw [List.getD_eq_getElem?_getD, hp2]; rfl
  have hsr : removeR c.l (absC a) ⟨(i : Int), (g : Int)⟩ (k : Int) = (⟨(absC a).gens, (absC a).free, (absC a).ents.set p ⟨⟨(i : Int), (g : Int)⟩, (entP a i).eraseIdx q⟩⟩, 0) := by
    unfold removeR
    rw [hp1]
    dsimp only
    have e1 : sizeR c.l (k : Int) = some (szAt c.l k) := by
      unfold sizeR
      rw [if_pos ⟨Int.natCast_nonneg _, by omega⟩, Int.toNat_natCast]
    rw [e1, e2]
    dsimp only
    rw [s4]
  rw [hsr]
  unfold removeCC
  rw [m3]
  refine ⟨m2, congrArg (fun z => (z, (0 : Int))) ?_⟩
  rw [m4 p hp2, s5]
/-- The document's Get. -/
def getR (l : List Cp) (s : SZ) (x : IdZ) (k : Int) : List UInt8 × Int :=
  match placeR s x with
  | none => ([], 5)
  | some p => match sizeR l k with
    | none => ([], 6)
    | some _ => match partR (s.ents.getD p default).parts k with
      | none => ([], 8)
      | some q => (((s.ents.getD p default).parts.getD q default).data, 0)
theorem get_law {c : Cf} {a : Co} (h : InvC c a) {i g k : Nat} (hL : stN a.na i = some g) (hk : k < c.l.length) (hin : k ∈ bl (sgAt a (spAt a i).node) 64) :
    (getT (tbAt a (spAt a i).node).ids.length (sgAt a (spAt a i).node) (tbAt a (spAt a i).node).col ((spAt a i).row : Int) (k : Int), colC (tbAt a (spAt a i).node).ids.length (sgAt a (spAt a i).node) ((spAt a i).row : Int) (k : Int)) = getR c.l (absC a) ⟨(i : Int), (g : Int)⟩ (k : Int) := by
  obtain ⟨p, hp1, hp2⟩ := place_st hL
  obtain ⟨h1, h2, h3⟩ := h.ok.st i g hL
  have hr := (List.getElem?_eq_some_iff.1 h3).1
  have hcc : colC (tbAt a (spAt a i).node).ids.length (sgAt a (spAt a i).node) ((spAt a i).row : Int) (k : Int) = 0 := by
    unfold colC
    rw [rowC_in hr, if_neg (by decide)]
    unfold hasK
    rw [Int.toNat_natCast, decide_eq_true ⟨Int.natCast_nonneg _, hin⟩, if_pos rfl]
  have e2 : (absC a).ents.getD p default = ⟨⟨(i : Int), (g : Int)⟩, entP a i⟩ := by
    rw [List.getD_eq_getElem?_getD, hp2]; rfl
  obtain ⟨q, q1, q2⟩ := part_at (f := fun c => ((tbAt a (spAt a i).node).col c).getD (spAt a i).row []) hin
  unfold getR
  rw [hp1]
  dsimp only
  have e1 : sizeR c.l (k : Int) = some (szAt c.l k) := by
    unfold sizeR
    rw [if_pos ⟨Int.natCast_nonneg _, by omega⟩, Int.toNat_natCast]
  rw [e1, e2]
  dsimp only
  have q1' : partR (entP a i) (k : Int) = some q := q1
  have q2' : (entP a i)[q]? = some ⟨(k : Int), ((tbAt a (spAt a i).node).col k).getD (spAt a i).row []⟩ := q2
  rw [q1']
  dsimp only
  rw [hcc, List.getD_eq_getElem?_getD (l := entP a i), q2']
  unfold getT
  rw [if_pos hcc, Int.toNat_natCast, Int.toNat_natCast]
  rfl
end Go.Proofs.YtdeifjnhbdkkgaaGreatDoor
namespace Go.Proofs.YtdeifjnhbdkkgaaGreatDoor
open Go.RowKit
set_option maxRecDepth 100000
set_option linter.unusedVariables false
set_option linter.unusedSimpArgs false

theorem new_inv {c : Cf} (h1 : 1 ≤ c.ents ∧ c.ents ≤ 1024) (h2 : 1 ≤ c.gens ∧ c.gens ≤ 1073741824) : InvC c (coNew c) ∧ absC (coNew c) = ⟨[], [], []⟩ := by
  have htb : ∀ j, tbAt (coNew c) j = ⟨[], fun _ => []⟩ := fun j => by
    unfold tbAt coNew
    match j with
    | 0 => rfl
    | j + 1 => simp [tz0]
  have hst : ∀ i, stN (coNew c).na i = none := fun i => by
    unfold stN coNew naNew
    simp
  refine ⟨⟨⟨fun i g hi => absurd hi (by rw [hst]; simp), fun j r x hx => ?_, fun j d hd => ?_⟩, naNew_ok _ _, ?_, ?_, Nat.le_refl _, ⟨by show 0 < [0].length; decide, rfl⟩, fun s hs => ?_⟩, ?_⟩
  · rw [htb] at hx; simp at hx
  · rw [htb]; exact ⟨rfl, fun e he => by cases he⟩
  · show (clI c.ents 1024 : Int) = c.ents
    rcases clI_of (hi := 1024) (by decide) c.ents with h | h | h
    · omega
    · exact h.2.2
    · omega
  · show (clI c.gens 1073741824 : Int) = c.gens
    rcases clI_of (hi := 1073741824) (by decide) c.gens with h | h | h
    · omega
    · exact h.2.2
    · omega
  · have : s ∈ [0] := hs
    obtain rfl : s = 0 := by simpa using this
    exact ⟨by decide, Nat.zero_and _⟩
  · unfold absC
    show SZ.mk (ints (gensI (naNew c.ents c.gens))) (ints []) (entsC (coNew c) (stN (coNew c).na) 0) = _
    rfl
theorem count_range : ∀ (n : Nat) (sl : List (Nat × Bool)) (f : Nat → Option EnZ), sl.length = n → (∀ i, i < sl.length → ((f i).isSome = (sl.getD i (0, false)).2)) → ((List.range sl.length).filterMap f).length = (sl.filter (·.2)).length := by
  intro n
  induction n with
  | zero => intro sl f hn _; obtain rfl := List.length_eq_zero_iff.1 hn; rfl
  | succ n ih =>
    intro sl f hn hf
    rcases list_last sl with h | ⟨l, x, h⟩
    · rw [h] at hn; simp at hn
    subst h
    rw [List.length_append, List.length_singleton, List.range_succ, List.filterMap_append, List.length_append, List.filter_append, List.length_append]
    have h1 := ih l f (by simpa using hn) (fun i hi => by
      have := hf i (by simp; omega)
      rw [this, List.getD_eq_getElem?_getD, List.getElem?_append_left hi, ← List.getD_eq_getElem?_getD])
    have h2 := hf l.length (by simp)
    rw [List.getD_eq_getElem?_getD, List.getElem?_append_right (Nat.le_refl _), Nat.sub_self] at h2
    rw [h1]
    congr 1
    have h2 : (f l.length).isSome = x.2 := h2
    cases hfl : f l.length with
    | none => rw [hfl] at h2; simp [hfl, ← h2]
    | some y => rw [hfl] at h2; simp [hfl, ← h2]
theorem count_law (a : Co) : (absC a).ents.length = countI a.na := by
  unfold countI
  refine count_range _ a.na.sl _ rfl (fun i hi => ?_)
  unfold stN
  cases (a.na.sl.getD i (0, false)).2 <;> rfl
/-- What fails tells the same, and changes nothing. -/
theorem set_fails {c : Cf} {a : Co} {x : IdZ} {k : Int} {d : List UInt8} {er : Int} (her : (if (namedC c.l a x k).2.2 ≠ 0 then (namedC c.l a x k).2.2 else if (d.length : Int) ≠ (namedC c.l a x k).1 then 7 else 0) = er) (h0 : er ≠ 0) : setR c.l (absC a) x k d = (absC a, er) := by
  unfold namedC at her
  unfold setR
  by_cases ha : aliveI a.na x = true
  · obtain ⟨i, g, rfl, hL⟩ := aliveI_st.1 ha
    obtain ⟨p, hp1, -⟩ := place_st hL
    rw [hp1]
    rw [if_pos ha] at her
    dsimp only
    unfold sizeR
    by_cases hk : 0 ≤ k ∧ k < c.l.length
    · rw [if_pos hk] at her ⊢
      dsimp only at her ⊢
      rw [if_neg (by decide)] at her
      by_cases hn : (d.length : Int) ≠ szAt c.l k.toNat
      · rw [if_pos hn] at her ⊢
        rw [← her]
      · rw [if_neg hn] at her
        exact absurd her.symm h0
    · rw [if_neg hk] at her ⊢
      dsimp only at her ⊢
      rw [if_pos (by decide)] at her
      rw [← her]
  · rw [place_no ha]
    rw [if_neg ha] at her
    dsimp only at her ⊢
    rw [if_pos (by decide)] at her
    rw [← her]
theorem hasE_no {s : Nat} {k : Int} (h : ¬ hasB s k = true) : ∀ c : Nat, c ∈ bl s 64 → (c : Int) ≠ k := fun c hc e => by
  obtain ⟨h1, h2⟩ := (bl_mem s 64 c).1 hc
  apply h
  unfold hasB
  rw [← e, Int.toNat_natCast, h2]
  simp
  omega
theorem hasE_yes {s : Nat} {k : Int} (h : hasB s k = true) : ∃ c : Nat, k = (c : Int) ∧ c ∈ bl s 64 := by
  unfold hasB at h
  rw [Bool.and_eq_true, Bool.and_eq_true] at h
  have h1 := of_decide_eq_true h.1.1
  have h2 := of_decide_eq_true h.1.2
  exact ⟨k.toNat, by omega, (bl_mem s 64 _).2 ⟨by omega, h.2⟩⟩
theorem remove_fails {c : Cf} {a : Co} {x : IdZ} {k : Int} {er : Int} (her : (if (namedC c.l a x k).2.2 ≠ 0 then (namedC c.l a x k).2.2 else if (namedC c.l a x k).2.1 = true then 0 else 8) = er) (h0 : er ≠ 0) : removeR c.l (absC a) x k = (absC a, er) := by
  unfold namedC at her
  unfold removeR
  by_cases ha : aliveI a.na x = true
  · obtain ⟨i, g, rfl, hL⟩ := aliveI_st.1 ha
    obtain ⟨p, hp1, hp2⟩ := place_st hL
    have e2 : (absC a).ents.getD p default = ⟨⟨(i : Int), (g : Int)⟩, entP a i⟩ := by
      rw [List.getD_eq_getElem?_getD, hp2]; rfl
    rw [hp1]
    rw [if_pos ha] at her
    dsimp only
    rw [e2]
    unfold sizeR
    by_cases hk : 0 ≤ k ∧ k < c.l.length
    · rw [if_pos hk] at her ⊢
      dsimp only at her ⊢
      rw [if_neg (by decide), Int.toNat_natCast] at her
      by_cases hn : hasB (sgAt a (spAt a i).node) k = true
      · rw [if_pos hn] at her
        exact absurd her.symm h0
      · rw [if_neg hn] at her
        have hno : partR (entP a i) k = none := by
          unfold entP rowT
          exact part_no (f := fun c => ((tbAt a (spAt a i).node).col c).getD (spAt a i).row []) (hasE_no hn)
        rw [hno]
        dsimp only
        rw [← her]
    · rw [if_neg hk] at her ⊢
      dsimp only at her ⊢
      rw [if_pos (by decide)] at her
      rw [← her]
  · rw [place_no ha]
    rw [if_neg ha] at her
    dsimp only at her ⊢
    rw [if_pos (by decide)] at her
    rw [← her]
theorem get_fails {c : Cf} {a : Co} {x : IdZ} {k : Int} {er : Int} (her : (if (namedC c.l a x k).2.2 ≠ 0 then (namedC c.l a x k).2.2 else if (namedC c.l a x k).2.1 = true then 0 else 8) = er) (h0 : er ≠ 0) : getR c.l (absC a) x k = ([], er) := by
  unfold namedC at her
  unfold getR
  by_cases ha : aliveI a.na x = true
  · obtain ⟨i, g, rfl, hL⟩ := aliveI_st.1 ha
    obtain ⟨p, hp1, hp2⟩ := place_st hL
    have e2 : (absC a).ents.getD p default = ⟨⟨(i : Int), (g : Int)⟩, entP a i⟩ := by
      rw [List.getD_eq_getElem?_getD, hp2]; rfl
    rw [hp1]
    rw [if_pos ha] at her
    dsimp only
    rw [e2]
    unfold sizeR
    by_cases hk : 0 ≤ k ∧ k < c.l.length
    · rw [if_pos hk] at her ⊢
      dsimp only at her ⊢
      rw [if_neg (by decide), Int.toNat_natCast] at her
      by_cases hn : hasB (sgAt a (spAt a i).node) k = true
      · rw [if_pos hn] at her
        exact absurd her.symm h0
      · rw [if_neg hn] at her
        have hno : partR (entP a i) k = none := by
          unfold entP rowT
          exact part_no (f := fun c => ((tbAt a (spAt a i).node).col c).getD (spAt a i).row []) (hasE_no hn)
        rw [hno]
        dsimp only
        rw [← her]
    · rw [if_neg hk] at her ⊢
      dsimp only at her ⊢
      rw [if_pos (by decide)] at her
      rw [← her]
  · rw [place_no ha]
    rw [if_neg ha] at her
    dsimp only at her ⊢
    rw [if_pos (by decide)] at her
    rw [← her]
end Go.Proofs.YtdeifjnhbdkkgaaGreatDoor
namespace Go.Proofs.YtdeifjnhbdkkgaaGreatDoor
open Go.RowKit
set_option maxRecDepth 100000
set_option linter.unusedVariables false
set_option linter.unusedSimpArgs false

section
variable {w : World} {c : Cf} {xp q : Nat} {B : CoB} {a : Co}
theorem InvC.stands {c : Cf} {a : Co} (h : InvC c a) {x : IdZ} (ha : aliveI a.na x = true) : Stands a x.ix.toNat := by
  obtain ⟨i, g, rfl, hL⟩ := aliveI_st.1 ha
  rw [Int.toNat_natCast]
  exact h.ok.stands hL
/-- Sizes as they may be. -/
def SzOk (l : List Cp) : Prop := l.length ≤ 64 ∧ ∀ k, k < l.length → 0 ≤ szAt l k ∧ (szOf l k : Int) = szAt l k
end
end Go.Proofs.YtdeifjnhbdkkgaaGreatDoor
namespace Go.Proofs.YtdeifjnhbdkkgaaGreatDoor
open Go.RowKit
set_option maxRecDepth 100000
set_option linter.unusedVariables false
set_option linter.unusedSimpArgs false

/-- An entity's set. -/
def sigE (e : EnZ) : Nat := ofTo (e.parts.map (·.comp)) 64
/-- The document's query. -/
def queryR (s : SZ) (x y : Nat) : List IdZ := (s.ents.filter fun e => fitsB (sigE e) x y).map (·.id)
theorem sigE_ent {a : Co} {i : Nat} {id : IdZ} (hs : sgAt a (spAt a i).node < 18446744073709551616) : sigE ⟨id, entP a i⟩ = sgAt a (spAt a i).node := by
  unfold sigE
  dsimp only
  refine Nat.eq_of_testBit_eq fun j => ?_
  rw [ofTo_testBit]
  have hm : ((j : Int) ∈ (entP a i).map (·.comp)) ↔ j ∈ bl (sgAt a (spAt a i).node) 64 := by
    rw [List.mem_map]
    constructor
    · rintro ⟨e, he, hj⟩
      obtain ⟨c, hc, rfl⟩ := mem_entP.1 he
      have hj : (c : Int) = (j : Int) := hj
      obtain rfl : c = j := by omega
      exact hc
    · intro h
      exact ⟨_, mem_entP.2 ⟨j, h, rfl⟩, rfl⟩
  rw [show decide ((j : Int) ∈ (entP a i).map (·.comp)) = decide (j ∈ bl (sgAt a (spAt a i).node) 64) from by
    congr 1
    exact propext hm]
  rcases Nat.lt_or_ge j 64 with hj | hj
  · cases hb : (sgAt a (spAt a i).node).testBit j with
    | true => rw [decide_eq_true hj, decide_eq_true ((bl_mem _ 64 j).2 ⟨hj, hb⟩)]; rfl
    | false => rw [decide_eq_true hj, decide_eq_false (fun h : j ∈ bl (sgAt a (spAt a i).node) 64 => by have := ((bl_mem _ 64 j).1 h).2; rw [hb] at this; cases this)]; rfl
  · rw [decide_eq_false (by omega)]
    rw [Nat.testBit_lt_two_pow (Nat.lt_of_lt_of_le hs (by
      have : 18446744073709551616 = 2 ^ 64 := by decide
      rw [this]; exact Nat.pow_le_pow_right (by decide) hj))]
    rfl
theorem sgTo_iff {S : List Nat} {x y : Nat} : ∀ {k j : Nat}, j ∈ sgTo S x y k ↔ j < k ∧ fitsB (S.getD j 0) x y = true
  | 0, j => by simp [sgTo]
  | k + 1, j => by
    unfold sgTo
    rw [List.mem_append, sgTo_iff (k := k)]
    constructor
    · rintro (⟨h1, h2⟩ | h)
      · exact ⟨by omega, h2⟩
      · split at h
        · rename_i hf
          obtain rfl : j = k := by simpa using h
          exact ⟨by omega, hf⟩
        · simp at h
    · rintro ⟨h1, h2⟩
      rcases Nat.lt_or_ge j k with h | h
      · exact .inl ⟨h, h2⟩
      · obtain rfl : j = k := by omega
        right
        rw [if_pos h2]; simp
theorem sgTo_nodup (S : List Nat) (x y : Nat) : ∀ k, (sgTo S x y k).Nodup
  | 0 => List.nodup_nil
  | k + 1 => by
    unfold sgTo
    rw [List.nodup_append]
    refine ⟨sgTo_nodup S x y k, by split <;> simp, fun j hj m hm e => ?_⟩
    have h1 := (sgTo_iff.1 hj).1
    split at hm
    · obtain rfl : m = k := by simpa using hm
      omega
    · simp at hm
theorem query_law {c : Cf} {a : Co} (h : InvC c a) (x y : Nat) : namesC a (stN a.na) a.na.sl.length (sgTo a.sigs x y a.sigs.length) = queryR (absC a) x y := by
  unfold queryR
  have hsl : ∀ i g, stN a.na i = some g → (spAt a i).node < a.sigs.length ∧ sgAt a (spAt a i).node < 18446744073709551616 := fun i g hi => by
    have h1 := Nat.lt_of_lt_of_le (h.ok.st i g hi).2.1 h.few
    refine ⟨h1, (h.sgs _ ?_).1⟩
    unfold sgAt
    rw [List.getD_eq_getElem?_getD, List.getElem?_eq_getElem h1]
    exact List.getElem_mem h1
  refine sorted_eq (fun x : IdZ => x.ix) _ _ (namesC_sorted _ _ _ _) ?_ (fun z => ?_)
  · rw [List.pairwise_map]
    exact (entsC_sorted a _ _).sublist List.filter_sublist
  · rw [namesC_mem, List.mem_map]
    constructor
    · rintro ⟨i, g, hi, hj, hL, rfl⟩
      refine ⟨⟨⟨(i : Int), (g : Int)⟩, entP a i⟩, List.mem_filter.2 ⟨entsC_mem.2 ⟨i, g, hi, hL, rfl⟩, ?_⟩, rfl⟩
      rw [sigE_ent (hsl i g hL).2]
      exact (sgTo_iff.1 hj).2
    · rintro ⟨e, he, rfl⟩
      obtain ⟨he, hf⟩ := List.mem_filter.1 he
      obtain ⟨i, g, hi, hL, rfl⟩ := entsC_mem.1 he
      rw [sigE_ent (hsl i g hL).2] at hf
      exact ⟨i, g, hi, sgTo_iff.2 ⟨(hsl i g hL).1, hf⟩, hL, rfl⟩
section
variable {w : World} {c : Cf} {xp q : Nat} {B : CoB} {a : Co}
theorem c_query (h : CoM w c xp B q a) (hi : InvC c a) (hl : c.l.length ≤ 1000) (hT : Tab w) (hG : ¬ CoF xp B a 0) (x y : Nat) (hx : x < 18446744073709551616) (hy : y < 18446744073709551616) :
    Calls Tryz.prog 40 #[.pointer (some ⟨xp, 0, none⟩), .int .u64 (x : Int), .int .u64 (y : Int)] w fun e w' => ∃ A cc m B', e = .returned (.slice A (queryR (absC a) x y).length cc) ∧ Own w' w.heap.size 85 2 (.slice A (queryR (absC a) x y).length cc) (queryR (absC a) x y).length ((queryR (absC a) x y).flatMap idC) ∧ m ≤ a.sigs.length ∧ CoAt w c xp (CoF xp B a) q (growC a m) w' B' := by
  refine (e_query sort_ids h hl hT hG hi.sgs x y hx hy _ rfl).mono fun e w' ⟨A, cc, R, m, B', e1, ho, _, hp, hs, hm, hat⟩ => ?_
  have hR := (query_is hi.ok (fun k g hk => stN_lt hk) (sgTo_nodup _ _ _ _) hp hs).trans (query_law hi x y)
  rw [hR] at e1 ho
  exact ⟨A, cc, m, B', e1, ho, hm, hat⟩
end
end Go.Proofs.YtdeifjnhbdkkgaaGreatDoor

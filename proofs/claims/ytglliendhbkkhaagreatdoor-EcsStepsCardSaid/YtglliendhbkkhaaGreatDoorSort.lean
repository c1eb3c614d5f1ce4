/- slices.SortFunc of structs that lie in a slice of the call's own: what the kit's contract says, in my words. No function of the program in sight. -/
import Derived.Shelf.SlSortCmp.WholeK
import Derived.Test.YtglliendhbkkhaaGreatDoorArgs
import Derived.Test.YtglliendhbkkhaaGreatDoorEcs7
import Derived.Shelf.SlSortCmp.NoneTotal
namespace Go.Proofs.YtglliendhbkkhaaGreatDoor
open Go.RowKit Go.Sort Go.Shelf
set_option maxRecDepth 100000

section
variable {α : Type} [Inhabited α] {enc : α → List Value} {k : Nat}
theorem flatK_list (hk : ∀ x, (enc x).length = k) (hk0 : 0 < k) (d : Array α) : (flatK enc k d).toList = d.toList.flatMap enc := by
  apply List.ext_getElem?
  intro t
  by_cases ht : t < d.size * k
  · have hj : t / k < d.size := Nat.div_lt_of_lt_mul (by rwa [Nat.mul_comm] at ht)
    have hm : t % k < k := Nat.mod_lt _ hk0
    have e1 : (flatK enc k d).toList[t]? = some ((enc d[t / k]!)[t % k]!) := by
      have hs : t < (flatK enc k d).size := by simpa using ht
      rw [Array.getElem?_toList, Array.getElem?_eq_getElem hs, ← get_flatK enc k d t ht, getElem!_pos _ t hs]
    have hx : d.toList[t / k]? = some d[t / k]! := by rw [Array.getElem?_toList, Array.getElem?_eq_getElem hj, getElem!_pos d _ hj]
    have hu : (enc d[t / k]!)[t % k]? = some ((enc d[t / k]!)[t % k]!) := by
      have : t % k < (enc d[t / k]!).length := by rw [hk]; exact hm
      rw [List.getElem?_eq_getElem this, getElem!_pos (enc d[t / k]!) (t % k) this]
    rw [e1]
    have := flat_at (f := enc) (m := k) (i := t / k) (j := t % k) hk hx hu
    rw [Nat.div_add_mod' t k] at this
    exact this.symm
  · rw [List.getElem?_eq_none (by rw [Array.length_toList, size_flatK]; omega), List.getElem?_eq_none (by rw [flat_len hk, Array.length_toList]; omega)]
theorem own_holds {w : World} {B n g c : Nat} {e : TypeId} {l : List α} (hk : ∀ x, (enc x).length = k) (hk0 : 0 < k) (h : Own w B e k (.slice (some ⟨g, 0, none⟩) n c) n (l.flatMap enc)) (hn : 0 < n) : HoldsK enc k w g 0 l.toArray := by
  obtain ⟨hl, A, c', hv, hnc, hcm, hg⟩ := h
  injection hv with e1 e2 e3
  subst e1 e3
  obtain ⟨g', cur, eg, hb, hgg, hcs, htk⟩ := hg (by omega)
  injection eg with eg
  injection eg with eg
  subst eg
  intro j hj
  have hf := flatK_list hk hk0 l.toArray
  simp only at hf
  have hj2 : j < n * k := by
    rw [flat_len hk] at hl
    have : (flatK enc k l.toArray).size = l.length * k := by simp
    rw [this, hl] at hj
    exact hj
  refine ⟨?_, frozen_of_row w g _ _ _ hgg⟩
  rw [cell_of_row w g _ _ _ _ hgg, Nat.zero_add]
  have h1 : (flatK enc k l.toArray).toList[j]? = some ((flatK enc k l.toArray)[j]!) := by
    rw [Array.getElem?_toList, Array.getElem?_eq_getElem hj, getElem!_pos _ j hj]
  rw [hf, ← htk, List.getElem?_take, if_pos hj2, Array.getElem?_toList] at h1
  exact h1
theorem own_sorted {w : World} {B n g c : Nat} {e : TypeId} {xs : List Value} (hk : ∀ x, (enc x).length = k) (hk0 : 0 < k) (h : Own w B e k (.slice (some ⟨g, 0, none⟩) n c) n xs) (hn : 0 < n) (d' : Array α) (hd : d'.size = n) (m : Nat) (os : Array Obj) :
    Own (sortWorldK enc k w g 0 m d' os) B e k (.slice (some ⟨g, 0, none⟩) n c) n (d'.toList.flatMap enc) ∧ Keep (fun b => b = g) w (sortWorldK enc k w g 0 m d' os) := by
  obtain ⟨hl, A, c', hv, hnc, hcm, hg⟩ := h
  injection hv with e1 e2 e3
  subst e1 e3
  obtain ⟨g', cur, eg, hb, hgg, hcs, htk⟩ := hg (by omega)
  injection eg with eg
  injection eg with eg
  subst eg
  have hlt := (Array.getElem?_eq_some_iff.1 hgg).1
  have hsz : (flatK enc k d').size = n * k := by rw [size_flatK, hd]
  have hnk : n * k ≤ c * k := Nat.mul_le_mul_right _ hnc
  have hrow : (sortWorldK enc k w g 0 m d' os).heap[g]? = some (.cells (putCells id 0 (flatK enc k d') cur) e (0, 0)) := by
    show ((w.heap.modify g (onCells (putCells id 0 (flatK enc k d')))) ++ os)[g]? = _
    rw [Array.getElem?_append_left (by simpa using hlt), Array.getElem?_modify, if_pos rfl, hgg]
    rfl
  refine ⟨⟨by rw [flat_len hk, Array.length_toList, hd], _, c, rfl, hnc, hcm, fun _ => ⟨g, _, rfl, hb, hrow, by simp [putCells, hcs], ?_⟩⟩, rfl, rfl, rfl, ?_, fun x hx hne => ?_⟩
  · rw [← flatK_list hk hk0 d']
    apply List.ext_getElem?
    intro t
    rw [List.getElem?_take]
    by_cases ht : t < n * k
    · have hs : t < (flatK enc k d').size := by omega
      rw [if_pos ht, Array.getElem?_toList, Array.getElem?_toList, Array.getElem?_eq_getElem hs]
      unfold putCells
      rw [Array.getElem?_mapIdx, Array.getElem?_eq_getElem (show t < cur.size by omega), Option.map_some, if_pos ⟨Nat.zero_le _, by omega⟩, Nat.sub_zero, getElem!_pos _ t hs]
      rfl
    · rw [if_neg ht, List.getElem?_eq_none (by rw [Array.length_toList]; omega)]
  · show w.heap.size ≤ ((w.heap.modify g (onCells (putCells id 0 (flatK enc k d')))) ++ os).size
    simp
  · show ((w.heap.modify g (onCells (putCells id 0 (flatK enc k d')))) ++ os)[x]? = _
    have : ¬ g = x := fun e => hne e.symm
    rw [Array.getElem?_append_left (by simpa using hx), Array.getElem?_modify, if_neg this]
end
end Go.Proofs.YtglliendhbkkhaaGreatDoor
namespace Go.Proofs.YtglliendhbkkhaaGreatDoor
open Go.RowKit Go.Sort Go.Shelf
set_option maxRecDepth 100000
set_option linter.unusedVariables false
set_option linter.unusedSimpArgs false

def laysSortIds_ren : Go.Shelf.Ren := ⟨fun | 6 => 71 | 15 => 124 | 14 => 123 | 28 => 158 | 29 => 159 | 20 => 150 | 21 => 151 | 22 => 152 | 23 => 153 | 24 => 154 | 25 => 155 | 26 => 156 | 27 => 157 | 46 => 178 | 47 => 179 | 48 => 180 | 49 => 181 | 50 => 182 | 57 => 189 | n => n, fun | 22 => 67 | 24 => 40 | 25 => 146 | 3 => 3 | 39 => 221 | 0 => 0 | 53 => 257 | 55 => 51 | 4 => 4 | 46 => 251 | 45 => 250 | 50 => 97 | 5 => 5 | 9 => 9 | 66 => 271 | 70 => 274 | 76 => 280 | 77 => 281 | n => n, fun | n => n⟩
theorem laysSortIds : Go.Proofs.SlLaysF0.n6 Tryz.prog laysSortIds_ren := {
  mixed := by kernel_rfl
  f6 := ⟨Tryz.f71.name, by decide, Tryz.func71.trans (congrArg some (by kernel_rfl))⟩
  f14 := ⟨Tryz.f123.name, by decide, Tryz.func123.trans (congrArg some (by kernel_rfl))⟩
  f15 := Tryz.func124.trans (congrArg some (by kernel_rfl))
  f20 := ⟨Tryz.f150.name, by decide, Tryz.func150.trans (congrArg some (by kernel_rfl))⟩
  f21 := ⟨Tryz.f151.name, by decide, Tryz.func151.trans (congrArg some (by kernel_rfl))⟩
  f22 := ⟨Tryz.f152.name, by decide, Tryz.func152.trans (congrArg some (by kernel_rfl))⟩
  f23 := ⟨Tryz.f153.name, by decide, Tryz.func153.trans (congrArg some (by kernel_rfl))⟩
  f24 := ⟨Tryz.f154.name, by decide, Tryz.func154.trans (congrArg some (by kernel_rfl))⟩
  f25 := ⟨Tryz.f155.name, by decide, Tryz.func155.trans (congrArg some (by kernel_rfl))⟩
  f26 := ⟨Tryz.f156.name, by decide, Tryz.func156.trans (congrArg some (by kernel_rfl))⟩
  f27 := ⟨Tryz.f157.name, by decide, Tryz.func157.trans (congrArg some (by kernel_rfl))⟩
  f28 := Tryz.func158.trans (congrArg some (by kernel_rfl))
  f29 := Tryz.func159.trans (congrArg some (by kernel_rfl))
  f46 := ⟨Tryz.f178.name, by decide, Tryz.func178.trans (congrArg some (by kernel_rfl))⟩
  f47 := Tryz.func179.trans (congrArg some (by kernel_rfl))
  f48 := Tryz.func180.trans (congrArg some (by kernel_rfl))
  f49 := ⟨Tryz.f181.name, by decide, Tryz.func181.trans (congrArg some (by kernel_rfl))⟩
  f50 := ⟨Tryz.f182.name, by decide, Tryz.func182.trans (congrArg some (by kernel_rfl))⟩
  f57 := ⟨Tryz.f189.name, by decide, Tryz.func189.trans (congrArg some (by kernel_rfl))⟩
  t0 := Tryz.underlying0
  a0 := Tryz.isAgg0
  z0 := Tryz.sizeOf0
  v0 := Tryz.zeroValue0
  t3 := Tryz.underlying3
  a3 := Tryz.isAgg3
  z3 := Tryz.sizeOf3
  v3 := Tryz.zeroValue3
  t4 := Tryz.underlying4
  a4 := Tryz.isAgg4
  z4 := Tryz.sizeOf4
  v4 := Tryz.zeroValue4
  t5 := Tryz.underlying5
  a5 := Tryz.isAgg5
  z5 := Tryz.sizeOf5
  v5 := Tryz.zeroValue5
  t9 := Tryz.underlying9
  a9 := Tryz.isAgg9
  z9 := Tryz.sizeOf9
  v9 := Tryz.zeroValue9
  t22 := Tryz.underlying67
  a22 := Tryz.isAgg67
  z22 := Tryz.sizeOf67
  v22 := Tryz.zeroValue67
  t25 := Tryz.underlying146
  a25 := Tryz.isAgg146
  z25 := Tryz.sizeOf146
  v25 := Tryz.zeroValue146
  t39 := Tryz.underlying221
  a39 := Tryz.isAgg221
  z39 := Tryz.sizeOf221
  v39 := Tryz.zeroValue221
  t45 := Tryz.underlying250
  a45 := Tryz.isAgg250
  z45 := Tryz.sizeOf250
  v45 := Tryz.zeroValue250
  t46 := Tryz.underlying251
  a46 := Tryz.isAgg251
  z46 := Tryz.sizeOf251
  v46 := Tryz.zeroValue251
  t50 := Tryz.underlying97
  a50 := Tryz.isAgg97
  z50 := Tryz.sizeOf97
  v50 := Tryz.zeroValue97
  t53 := Tryz.underlying257
  a53 := Tryz.isAgg257
  z53 := Tryz.sizeOf257
  v53 := Tryz.zeroValue257
  t55 := Tryz.underlying51
  a55 := Tryz.isAgg51
  z55 := Tryz.sizeOf51
  v55 := Tryz.zeroValue51
  t66 := Tryz.underlying271
  a66 := Tryz.isAgg271
  z66 := Tryz.sizeOf271
  v66 := Tryz.zeroValue271
  t70 := Tryz.underlying274
  a70 := Tryz.isAgg274
  z70 := Tryz.sizeOf274
  v70 := Tryz.zeroValue274
  t76 := Tryz.underlying280
  a76 := Tryz.isAgg280
  z76 := Tryz.sizeOf280
  v76 := Tryz.zeroValue280
  t77 := Tryz.underlying281
  a77 := Tryz.isAgg281
  z77 := Tryz.sizeOf281
  v77 := Tryz.zeroValue281 }

/-- The contract of slices.SortFunc by index. -/
def SortIdsP : Prop := ∀ (w : World) (A : Option Addr) (n cc B : Nat) (l : List IdZ), l.length = n → Own w B 40 2 (.slice A n cc) n (l.flatMap idC) → n ≤ 1099511627776 →
    Calls Tryz.prog 71 #[.slice A n cc, .func (.func 72) #[] #[]] w fun e w' => e = .returned (.tuple #[]) ∧ ∃ R : List IdZ, R.Perm l ∧ R.Pairwise (fun x y => x.ix ≤ y.ix) ∧ Own w' B 40 2 (.slice A n cc) n (R.flatMap idC) ∧ Keep (fun k => ownB (.slice A n cc) = some k) w w'
theorem cmp_int (x y : Int) (w : World) : Calls Tryz.prog 125 #[.int .i64 x, .int .i64 y] w fun e w' => e = .returned (.int .i64 (Lib.compareInt x y)) ∧ w = w' := by
  by_cases h1 : x < y
  · have e : Lib.compareInt x y = -1 := by unfold Lib.compareInt; rw [if_pos h1]
    rw [e]
    clear e
    go_enter Tryz.func125, Tryz.ntmps125
    go_wp2
    go_ret
    exact ⟨rfl, rfl⟩
  · by_cases h2 : y < x
    · have e : Lib.compareInt x y = 1 := by unfold Lib.compareInt; rw [if_neg h1, if_pos h2]
      rw [e]
      clear e
      go_enter Tryz.func125, Tryz.ntmps125
      go_wp2
      go_ret
      exact ⟨rfl, rfl⟩
    · have e : Lib.compareInt x y = 0 := by unfold Lib.compareInt; rw [if_neg h1, if_neg h2]
      rw [e]
      clear e
      go_enter Tryz.func125, Tryz.ntmps125
      go_wp2
      go_ret
      exact ⟨rfl, rfl⟩
theorem by_index (x y : IdZ) (W : World) : Calls Tryz.prog 72 #[.agg #[.int .i64 x.ix, .int .i64 x.gen], .agg #[.int .i64 y.ix, .int .i64 y.gen]] W fun e w' => e = .returned (.int .i64 (Lib.compareInt x.ix y.ix)) ∧ ∃ q os', w' = grow (W.drewN q) os' := by
  have hcon := Lib.hid (fun X => cmp_int x.ix y.ix X)
  obtain ⟨x1, x2⟩ := x
  obtain ⟨y1, y2⟩ := y
  dsimp only at *
  generalize Lib.compareInt x1 y1 = r at *
  go_enter Tryz.func72, Tryz.ntmps72
  go_wp2_with (go_at_call 125; refine (hcon.out _).mono ?_; rintro e w' ⟨rfl, rfl⟩)
  go_ret
  exact ⟨rfl, 0, _, by rw [alloc_eq_grow, alloc_eq_grow, grow_grow]; rfl⟩
theorem lt_ix (x y : IdZ) : ltOf (fun x y : IdZ => Lib.compareInt x.ix y.ix) x y = decide (x.ix < y.ix) := by
  unfold ltOf Lib.compareInt
  by_cases h1 : x.ix < y.ix
  · simp [h1]
  · by_cases h2 : y.ix < x.ix <;> simp [h1, h2]
theorem swo_ix : SWO (ltOf fun x y : IdZ => Lib.compareInt x.ix y.ix) where
  irrefl x := by rw [lt_ix]; simp
  trans x y z h1 h2 := by rw [lt_ix] at *; simp at *; omega
  ntrans x y z h1 h2 := by rw [lt_ix] at *; simp at *; omega
theorem sort_idsP (w : World) (A : Option Addr) (n cc B : Nat) (l : List IdZ) (hn : l.length = n) (hv : Own w B 40 2 (.slice A n cc) n (l.flatMap idC)) (h40 : n ≤ 1099511627776) (h0 : 0 < n) :
    Calls Tryz.prog 71 #[.slice A n cc, .func (.func 72) #[] #[]] w fun e w' => e = .returned (.tuple #[]) ∧ ∃ R : List IdZ, R.Perm l ∧ R.Pairwise (fun x y => x.ix ≤ y.ix) ∧ Own w' B 40 2 (.slice A n cc) n (R.flatMap idC) ∧ Keep (fun k => ownB (.slice A n cc) = some k) w w' := by
  obtain ⟨g, c', he, h1, h2, hb, hB, hg, -⟩ := own_blkQ hv h0
  injection he with e1 e2 e3
  subst e1 e3
  have eg : ∀ args w, (callFunc 72 args).run Tryz.prog w = .ok (.enter 72 args) w := enters_of Tryz.func72 (by kernel_rfl) rfl
  have hcon := AnyQ.slices_SortFunc laysSortIds 2 Tryz.isAgg40 Tryz.sizeOf40 idC idC_len (fun x v hv => by simp [idC] at hv; rcases hv with rfl | rfl <;> rfl) (fun x y : IdZ => Lib.compareInt x.ix y.ix) swo_ix 72 #[] g 0 cc l.toArray w eg (fun _ _ _ _ x y => by_index x y _) (own_holds idC_len (by decide) hv h0) hg (by simp; omega)
  change Calls Tryz.prog 71 #[.slice (some ⟨g, 0, none⟩) l.length cc, .func (.func 72) #[] #[]] w _ at hcon
  rw [hn] at hcon
  refine hcon.mono ?_
  rintro e w' ⟨rfl, d', m, os, ⟨hp1, -, hp3⟩, hs, rfl⟩
  have hd : d'.size = n := by rw [hp1]; simpa using hn
  obtain ⟨ho, hk⟩ := own_sorted (d' := d') idC_len (by decide) hv h0 hd m os
  have hsz : l.toArray.size = l.length := by simp
  refine ⟨rfl, d'.toList, ?_, ?_, ho, hk.mono (fun b _ e => by rw [e]; exact hb)⟩
  · rw [hsz, hn] at hp3
    rw [show d'.extract 0 n = d' from by rw [← hd]; exact Array.extract_size, show l.toArray.extract 0 n = l.toArray from by rw [← hn, ← hsz]; exact Array.extract_size] at hp3
    simpa using hp3
  · rw [List.pairwise_iff_getElem]
    intro i j hi hj hij
    have h := hs i j (Nat.zero_le _) hij (by rw [hsz, hn]; simpa [hd] using hj)
    rw [lt_ix, getElem!_pos d' i (by simpa using hi), getElem!_pos d' j (by simpa using hj)] at h
    simp only [Array.getElem_toList]
    have := of_decide_eq_false h
    omega
theorem sort_ids : SortIdsP := fun w A n cc B l hn hv h40 => by
  rcases Nat.eq_zero_or_pos n with h0 | h0
  · subst h0
    have hcon := AnyF.slices_SortFunc_none laysSortIds A cc (.func (.func 72) #[] #[]) w
    change Calls Tryz.prog 71 #[.slice A 0 cc, .func (.func 72) #[] #[]] w _ at hcon
    refine hcon.mono ?_
    rintro e w' ⟨rfl, rfl⟩
    obtain rfl := List.length_eq_zero_iff.1 hn
    exact ⟨rfl, [], List.Perm.nil, List.Pairwise.nil, hv, Keep.refl _ _⟩
  · exact sort_idsP w A n cc B l hn hv h40 h0
end Go.Proofs.YtglliendhbkkhaaGreatDoor

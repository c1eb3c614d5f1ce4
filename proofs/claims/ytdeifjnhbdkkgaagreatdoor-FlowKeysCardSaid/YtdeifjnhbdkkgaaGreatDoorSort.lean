/- slices.SortFunc of structs that lie in a slice of the call's own: what the kit's contract says, in my words. No function of the program in sight. -/
import Derived.Shelf.SlSortCmp.WholeK
import Derived.Test.YtdeifjnhbdkkgaaGreatDoorArgs
import Derived.Test.YtdeifjnhbdkkgaaGreatDoorEcs7
import Derived.Shelf.SlSortCmp.NoneTotal
namespace Go.Proofs.YtdeifjnhbdkkgaaGreatDoor
open Go.RowKit Go.Sort Go.Shelf
set_option maxRecDepth 100000

section
variable {α : Type} [Inhabited α] {enc : α → List Value} {k : Nat}
theorem flatK_list (hk : ∀ x, (enc x).length = k) (hk0 : 0 < k) (d : Array α) : (flatK enc k d).toList = d.toList.flatMap enc := by
  apply List.ext_getElem?
  intro t
  by_cases ht : t < d.size * k
  · have hj : t / k < d.size := Nat.div_lt_of_lt_mul (by rwa [Nat.mul_comm] at ht)
    have hm : t % k < k := Nat.mod_lt _ hk0
    have e1 : (flatK enc k d).toList[t]? = some ((enc d[t / k]!)[t % k]!) := by
      have hs : t < (flatK enc k d).size := by simpa using ht
      rw [Array.getElem?_toList, Array.getElem?_eq_getElem hs, ← get_flatK enc k d t ht, getElem!_pos _ t hs]
    have hx : d.toList[t / k]? = some d[t / k]! := by rw [Array.getElem?_toList, Array.getElem?_eq_getElem hj, getElem!_pos d _ hj]
    have hu : (enc d[t / k]!)[t % k]? = some ((enc d[t / k]!)[t % k]!) := by
      have : t % k < (enc d[t / k]!).length := by rw [hk]; exact hm
      rw [List.getElem?_eq_getElem this, getElem!_pos (enc d[t / k]!) (t % k) this]
    rw [e1]
    have := flat_at (f := enc) (m := k) (i := t / k) (j := t % k) hk hx hu
    rw [Nat.div_add_mod' t k] at this
    exact this.symm
  · rw [List.getElem?_eq_none (by rw [Array.length_toList, size_flatK]; omega), List.getElem?_eq_none (by rw [flat_len hk, Array.length_toList]; omega)]
theorem own_holds {w : World} {B n g c : Nat} {e : TypeId} {l : List α} (hk : ∀ x, (enc x).length = k) (hk0 : 0 < k) (h : Own w B e k (.slice (some ⟨g, 0, none⟩) n c) n (l.flatMap enc)) (hn : 0 < n) : HoldsK enc k w g 0 l.toArray := by
  obtain ⟨hl, A, c', hv, hnc, hcm, hg⟩ := h
  injection hv with e1 e2 e3
  subst e1 e3
  obtain ⟨g', cur, eg, hb, hgg, hcs, htk⟩ := hg (by omega)
  injection eg with eg
  injection eg with eg
  subst eg
  intro j hj
  have hf := flatK_list hk hk0 l.toArray
  simp only at hf
  have hj2 : j < n * k := by
    rw [flat_len hk] at hl
    have : (flatK enc k l.toArray).size = l.length * k := by simp
    rw [this, hl] at hj
    exact hj
  refine ⟨?_, frozen_of_row w g _ _ _ hgg⟩
  rw [cell_of_row w g _ _ _ _ hgg, Nat.zero_add]
  have h1 : (flatK enc k l.toArray).toList[j]? = some ((flatK enc k l.toArray)[j]!) := by
    rw [Array.getElem?_toList, Array.getElem?_eq_getElem hj, getElem!_pos _ j hj]
  rw [hf, ← htk, List.getElem?_take, if_pos hj2, Array.getElem?_toList] at h1
  exact h1
theorem own_sorted {w : World} {B n g c : Nat} {e : TypeId} {xs : List Value} (hk : ∀ x, (enc x).length = k) (hk0 : 0 < k) (h : Own w B e k (.slice (some ⟨g, 0, none⟩) n c) n xs) (hn : 0 < n) (d' : Array α) (hd : d'.size = n) (m : Nat) (os : Array Obj) :
    Own (sortWorldK enc k w g 0 m d' os) B e k (.slice (some ⟨g, 0, none⟩) n c) n (d'.toList.flatMap enc) ∧ Keep (fun b => b = g) w (sortWorldK enc k w g 0 m d' os) := by
  obtain ⟨hl, A, c', hv, hnc, hcm, hg⟩ := h
  injection hv with e1 e2 e3
  subst e1 e3
  obtain ⟨g', cur, eg, hb, hgg, hcs, htk⟩ := hg (by omega)
  injection eg with eg
  injection eg with eg
  subst eg
  have hlt := (Array.getElem?_eq_some_iff.1 hgg).1
  have hsz : (flatK enc k d').size = n * k := by rw [size_flatK, hd]
  have hnk : n * k ≤ c * k := Nat.mul_le_mul_right _ hnc
  have hrow : (sortWorldK enc k w g 0 m d' os).heap[g]? = some (.cells (putCells id 0 (flatK enc k d') cur) e (0, 0)) := by
    show ((w.heap.modify g (onCells (putCells id 0 (flatK enc k d')))) ++ os)[g]? = _
    rw [Array.getElem?_append_left (by simpa using hlt), Array.getElem?_modify, if_pos rfl, hgg]
    rfl
  refine ⟨⟨by rw [flat_len hk, Array.length_toList, hd], _, c, rfl, hnc, hcm, fun _ => ⟨g, _, rfl, hb, hrow, by simp [putCells, hcs], ?_⟩⟩, rfl, rfl, rfl, ?_, fun x hx hne => ?_⟩
  · rw [← flatK_list hk hk0 d']
    apply List.ext_getElem?
    intro t
    rw [List.getElem?_take]
    by_cases ht : t < n * k
    · have hs : t < (flatK enc k d').size := by omega
      rw [if_pos ht, Array.getElem?_toList, Array.getElem?_toList, Array.getElem?_eq_getElem hs]
      unfold putCells
      rw [Array.getElem?_mapIdx, Array.getElem?_eq_getElem (show t < cur.size by omega), Option.map_some, if_pos ⟨Nat.zero_le _, by omega⟩, Nat.sub_zero, getElem!_pos _ t hs]
      rfl
    · rw [if_neg ht, List.getElem?_eq_none (by rw [Array.length_toList]; omega)]
  · show w.heap.size ≤ ((w.heap.modify g (onCells (putCells id 0 (flatK enc k d')))) ++ os).size
    simp
  · show ((w.heap.modify g (onCells (putCells id 0 (flatK enc k d')))) ++ os)[x]? = _
    have : ¬ g = x := fun e => hne e.symm
    rw [Array.getElem?_append_left (by simpa using hx), Array.getElem?_modify, if_neg this]
end
end Go.Proofs.YtdeifjnhbdkkgaaGreatDoor
namespace Go.Proofs.YtdeifjnhbdkkgaaGreatDoor
open Go.RowKit Go.Sort Go.Shelf
set_option maxRecDepth 100000
set_option linter.unusedVariables false
set_option linter.unusedSimpArgs false

def laysSortIds_ren : Go.Shelf.Ren := ⟨fun | 6 => 60 | 15 => 69 | 14 => 76 | 28 => 87 | 29 => 88 | 20 => 89 | 21 => 90 | 22 => 91 | 23 => 92 | 24 => 93 | 25 => 94 | 26 => 95 | 27 => 96 | 46 => 102 | 47 => 98 | 48 => 99 | 49 => 103 | 50 => 104 | 57 => 106 | n => n, fun | 22 => 60 | 24 => 85 | 25 => 131 | 3 => 3 | 39 => 142 | 0 => 0 | 53 => 161 | 55 => 22 | 4 => 4 | 46 => 155 | 45 => 154 | 50 => 121 | 5 => 5 | 9 => 9 | 66 => 167 | 70 => 170 | 76 => 174 | 77 => 175 | n => n, fun | n => n⟩
theorem laysSortIds : Go.Proofs.SlLaysF0.n6 Tryz.prog laysSortIds_ren := {
  mixed := by kernel_rfl
  f6 := ⟨Tryz.f60.name, by decide, Tryz.func60.trans (congrArg some (by kernel_rfl))⟩
  f14 := ⟨Tryz.f76.name, by decide, Tryz.func76.trans (congrArg some (by kernel_rfl))⟩
  f15 := Tryz.func69.trans (congrArg some (by kernel_rfl))
  f20 := ⟨Tryz.f89.name, by decide, Tryz.func89.trans (congrArg some (by kernel_rfl))⟩
  f21 := ⟨Tryz.f90.name, by decide, Tryz.func90.trans (congrArg some (by kernel_rfl))⟩
  f22 := ⟨Tryz.f91.name, by decide, Tryz.func91.trans (congrArg some (by kernel_rfl))⟩
  f23 := ⟨Tryz.f92.name, by decide, Tryz.func92.trans (congrArg some (by kernel_rfl))⟩
  f24 := ⟨Tryz.f93.name, by decide, Tryz.func93.trans (congrArg some (by kernel_rfl))⟩
  f25 := ⟨Tryz.f94.name, by decide, Tryz.func94.trans (congrArg some (by kernel_rfl))⟩
  f26 := ⟨Tryz.f95.name, by decide, Tryz.func95.trans (congrArg some (by kernel_rfl))⟩
  f27 := ⟨Tryz.f96.name, by decide, Tryz.func96.trans (congrArg some (by kernel_rfl))⟩
  f28 := Tryz.func87.trans (congrArg some (by kernel_rfl))
  f29 := Tryz.func88.trans (congrArg some (by kernel_rfl))
  f46 := ⟨Tryz.f102.name, by decide, Tryz.func102.trans (congrArg some (by kernel_rfl))⟩
  f47 := Tryz.func98.trans (congrArg some (by kernel_rfl))
  f48 := Tryz.func99.trans (congrArg some (by kernel_rfl))
  f49 := ⟨Tryz.f103.name, by decide, Tryz.func103.trans (congrArg some (by kernel_rfl))⟩
  f50 := ⟨Tryz.f104.name, by decide, Tryz.func104.trans (congrArg some (by kernel_rfl))⟩
  f57 := ⟨Tryz.f106.name, by decide, Tryz.func106.trans (congrArg some (by kernel_rfl))⟩
  t0 := Tryz.underlying0
  a0 := Tryz.isAgg0
  z0 := Tryz.sizeOf0
  v0 := Tryz.zeroValue0
  t3 := Tryz.underlying3
  a3 := Tryz.isAgg3
  z3 := Tryz.sizeOf3
  v3 := Tryz.zeroValue3
  t4 := Tryz.underlying4
  a4 := Tryz.isAgg4
  z4 := Tryz.sizeOf4
  v4 := Tryz.zeroValue4
  t5 := Tryz.underlying5
  a5 := Tryz.isAgg5
  z5 := Tryz.sizeOf5
  v5 := Tryz.zeroValue5
  t9 := Tryz.underlying9
  a9 := Tryz.isAgg9
  z9 := Tryz.sizeOf9
  v9 := Tryz.zeroValue9
  t22 := Tryz.underlying60
  a22 := Tryz.isAgg60
  z22 := Tryz.sizeOf60
  v22 := Tryz.zeroValue60
  t25 := Tryz.underlying131
  a25 := Tryz.isAgg131
  z25 := Tryz.sizeOf131
  v25 := Tryz.zeroValue131
  t39 := Tryz.underlying142
  a39 := Tryz.isAgg142
  z39 := Tryz.sizeOf142
  v39 := Tryz.zeroValue142
  t45 := Tryz.underlying154
  a45 := Tryz.isAgg154
  z45 := Tryz.sizeOf154
  v45 := Tryz.zeroValue154
  t46 := Tryz.underlying155
  a46 := Tryz.isAgg155
  z46 := Tryz.sizeOf155
  v46 := Tryz.zeroValue155
  t50 := Tryz.underlying121
  a50 := Tryz.isAgg121
  z50 := Tryz.sizeOf121
  v50 := Tryz.zeroValue121
  t53 := Tryz.underlying161
  a53 := Tryz.isAgg161
  z53 := Tryz.sizeOf161
  v53 := Tryz.zeroValue161
  t55 := Tryz.underlying22
  a55 := Tryz.isAgg22
  z55 := Tryz.sizeOf22
  v55 := Tryz.zeroValue22
  t66 := Tryz.underlying167
  a66 := Tryz.isAgg167
  z66 := Tryz.sizeOf167
  v66 := Tryz.zeroValue167
  t70 := Tryz.underlying170
  a70 := Tryz.isAgg170
  z70 := Tryz.sizeOf170
  v70 := Tryz.zeroValue170
  t76 := Tryz.underlying174
  a76 := Tryz.isAgg174
  z76 := Tryz.sizeOf174
  v76 := Tryz.zeroValue174
  t77 := Tryz.underlying175
  a77 := Tryz.isAgg175
  z77 := Tryz.sizeOf175
  v77 := Tryz.zeroValue175 }

/-- The contract of slices.SortFunc by index. -/
def SortIdsP : Prop := ∀ (w : World) (A : Option Addr) (n cc B : Nat) (l : List IdZ), l.length = n → Own w B 85 2 (.slice A n cc) n (l.flatMap idC) → n ≤ 1099511627776 →
    Calls Tryz.prog 60 #[.slice A n cc, .func (.func 61) #[] #[]] w fun e w' => e = .returned (.tuple #[]) ∧ ∃ R : List IdZ, R.Perm l ∧ R.Pairwise (fun x y => x.ix ≤ y.ix) ∧ Own w' B 85 2 (.slice A n cc) n (R.flatMap idC) ∧ Keep (fun k => ownB (.slice A n cc) = some k) w w'
theorem cmp_int (x y : Int) (w : World) : Calls Tryz.prog 20 #[.int .i64 x, .int .i64 y] w fun e w' => e = .returned (.int .i64 (Lib.compareInt x y)) ∧ w = w' := by
  by_cases h1 : x < y
  · have e : Lib.compareInt x y = -1 := by unfold Lib.compareInt; rw [if_pos h1]
    rw [e]
    clear e
    go_enter Tryz.func20, Tryz.ntmps20
    go_wp2
    go_ret
    exact ⟨rfl, rfl⟩
  · by_cases h2 : y < x
    · have e : Lib.compareInt x y = 1 := by unfold Lib.compareInt; rw [if_neg h1, if_pos h2]
      rw [e]
      clear e
      go_enter Tryz.func20, Tryz.ntmps20
      go_wp2
      go_ret
      exact ⟨rfl, rfl⟩
    · have e : Lib.compareInt x y = 0 := by unfold Lib.compareInt; rw [if_neg h1, if_neg h2]
      rw [e]
      clear e
      go_enter Tryz.func20, Tryz.ntmps20
      go_wp2
      go_ret
      exact ⟨rfl, rfl⟩
theorem by_index (x y : IdZ) (W : World) : Calls Tryz.prog 61 #[.agg #[.int .i64 x.ix, .int .i64 x.gen], .agg #[.int .i64 y.ix, .int .i64 y.gen]] W fun e w' => e = .returned (.int .i64 (Lib.compareInt x.ix y.ix)) ∧ ∃ q os', w' = grow (W.drewN q) os' := by
  have hcon := Lib.hid (fun X => cmp_int x.ix y.ix X)
  obtain ⟨x1, x2⟩ := x
  obtain ⟨y1, y2⟩ := y
  dsimp only at *
  generalize Lib.compareInt x1 y1 = r at *
  go_enter Tryz.func61, Tryz.ntmps61
  go_wp2_with (go_at_call 20; refine (hcon.out _).mono ?_; rintro e w' ⟨rfl, rfl⟩)
  go_ret
  exact ⟨rfl, 0, _, by rw [alloc_eq_grow, alloc_eq_grow, grow_grow]; rfl⟩
theorem lt_ix (x y : IdZ) : ltOf (fun x y : IdZ => Lib.compareInt x.ix y.ix) x y = decide (x.ix < y.ix) := by
  unfold ltOf Lib.compareInt
  by_cases h1 : x.ix < y.ix
  · simp [h1]
  · by_cases h2 : y.ix < x.ix <;> simp [h1, h2]
theorem swo_ix : SWO (ltOf fun x y : IdZ => Lib.compareInt x.ix y.ix) where
  irrefl x := by rw [lt_ix]; simp
  trans x y z h1 h2 := by rw [lt_ix] at *; simp at *; omega
  ntrans x y z h1 h2 := by rw [lt_ix] at *; simp at *; omega
theorem sort_idsP (w : World) (A : Option Addr) (n cc B : Nat) (l : List IdZ) (hn : l.length = n) (hv : Own w B 85 2 (.slice A n cc) n (l.flatMap idC)) (h40 : n ≤ 1099511627776) (h0 : 0 < n) :
    Calls Tryz.prog 60 #[.slice A n cc, .func (.func 61) #[] #[]] w fun e w' => e = .returned (.tuple #[]) ∧ ∃ R : List IdZ, R.Perm l ∧ R.Pairwise (fun x y => x.ix ≤ y.ix) ∧ Own w' B 85 2 (.slice A n cc) n (R.flatMap idC) ∧ Keep (fun k => ownB (.slice A n cc) = some k) w w' := by
  obtain ⟨g, c', he, h1, h2, hb, hB, hg, -⟩ := own_blkQ hv h0
  injection he with e1 e2 e3
  subst e1 e3
  have eg : ∀ args w, (callFunc 61 args).run Tryz.prog w = .ok (.enter 61 args) w := enters_of Tryz.func61 (by kernel_rfl) rfl
  have hcon := AnyQ.slices_SortFunc laysSortIds 2 Tryz.isAgg85 Tryz.sizeOf85 idC idC_len (fun x v hv => by simp [idC] at hv; rcases hv with rfl | rfl <;> rfl) (fun x y : IdZ => Lib.compareInt x.ix y.ix) swo_ix 61 #[] g 0 cc l.toArray w eg (fun _ _ _ _ x y => by_index x y _) (own_holds idC_len (by decide) hv h0) hg (by simp; omega)
  change Calls Tryz.prog 60 #[.slice (some ⟨g, 0, none⟩) l.length cc, .func (.func 61) #[] #[]] w _ at hcon
  rw [hn] at hcon
  refine hcon.mono ?_
  rintro e w' ⟨rfl, d', m, os, ⟨hp1, -, hp3⟩, hs, rfl⟩
  have hd : d'.size = n := by rw [hp1]; simpa using hn
  obtain ⟨ho, hk⟩ := own_sorted (d' := d') idC_len (by decide) hv h0 hd m os
  have hsz : l.toArray.size = l.length := by simp
  refine ⟨rfl, d'.toList, ?_, ?_, ho, hk.mono (fun b _ e => by rw [e]; exact hb)⟩
  · rw [hsz, hn] at hp3
    rw [show d'.extract 0 n = d' from by rw [← hd]; exact Array.extract_size, show l.toArray.extract 0 n = l.toArray from by rw [← hn, ← hsz]; exact Array.extract_size] at hp3
    simpa using hp3
  · rw [List.pairwise_iff_getElem]
    intro i j hi hj hij
    have h := hs i j (Nat.zero_le _) hij (by rw [hsz, hn]; simpa [hd] using hj)
    rw [lt_ix, getElem!_pos d' i (by simpa using hi), getElem!_pos d' j (by simpa using hj)] at h
    simp only [Array.getElem_toList]
    have := of_decide_eq_false h
    omega
theorem sort_ids : SortIdsP := fun w A n cc B l hn hv h40 => by
  rcases Nat.eq_zero_or_pos n with h0 | h0
  · subst h0
    have hcon := AnyF.slices_SortFunc_none laysSortIds A cc (.func (.func 61) #[] #[]) w
    change Calls Tryz.prog 60 #[.slice A 0 cc, .func (.func 61) #[] #[]] w _ at hcon
    refine hcon.mono ?_
    rintro e w' ⟨rfl, rfl⟩
    obtain rfl := List.length_eq_zero_iff.1 hn
    exact ⟨rfl, [], List.Perm.nil, List.Pairwise.nil, hv, Keep.refl _ _⟩
  · exact sort_idsP w A n cc B l hn hv h40 h0
end Go.Proofs.YtdeifjnhbdkkgaaGreatDoor

/- Contracts of geom.Need, vivariumref16.Need; a list of byte slices that is built; part.Split. -/
import Derived.Test.YtpedkcmcbejdiaaLePl
import Derived.Test.YtpedkcmcbejdiaaLe1
import Derived.Test.YtpedkcmcbejdiaaRdr
import Derived.Test.YtpedkcmcbejdiaaArgs
namespace Go.Proofs.Ytpedkcmcbejdiaa
open Go.RowKit
set_option maxRecDepth 100000
set_option linter.unusedVariables false

theorem need_le (n : Nat) : need n ≤ n + 1 := by unfold need; split <;> omega
end Go.Proofs.Ytpedkcmcbejdiaa
namespace Go.Proofs.Ytpedkcmcbejdiaa
open Go.RowKit
set_option maxRecDepth 100000
set_option linter.unusedVariables false

theorem wordN {n : Nat} (h : n < 18446744073709551616) : word (n : Int) = n := by unfold word; omega
theorem pieces_next {s n k : Nat} {b : List UInt8} (h : k < n) : (pieces s b n).take (k + 1) = (pieces s b n).take k ++ [hdrB k n s ++ chunk b k] := by
  rw [List.take_add_one, pieces_at h]; rfl
/-- A round of part.Split: three numbers, a piece. -/
theorem split_hdr (k n : Nat) (Z : Int) (s : Nat) (hk : k ≤ 1024) (hn : n ≤ 1024) (hZ : leB (word Z) 8 = leB s 8) :
    (((([] : List UInt8) ++ leB (word (k : Int)) (wideN 2)) ++ leB (word (n : Int)) (wideN 2)) ++ leB (word Z) (wideN 8)) = hdrB k n s := by
  rw [show wideN 2 = 2 from rfl, show wideN 8 = 8 from rfl, hZ, wordN (by omega), wordN (by omega)]
  simp [hdrB, List.append_assoc]

theorem src_empty (A : Option Addr) (c : Nat) (W : World) : Src Try.prog 1 22 (.slice A 0 c) 0 (bv []) W := by
  rcases A with _ | a
  · exact Src.ofNil W Try.underlying22 c
  · exact Src.ofSlice W Try.underlying22 a 0 c [] (by simp) (fun j u hu => by simp at hu) (fun u hu => by simp at hu)
theorem chunk_src {W : World} {F : Nat → Prop} {A A' : Option Addr} {len c : Nat} {b : List UInt8} (hv : By W F (.slice A len c) b) (k e : Nat) (he : e = min ((k + 1) * 460) len) (hk : k * 460 ≤ len) (hA : 0 < e - k * 460 → ∀ a, A = some a → A' = some (a.add (k * 460))) (hn : A' = none → e - k * 460 = 0) :
    Src Try.prog 1 22 (.slice A' (e - k * 460) (e - k * 460)) (e - k * 460) (bv (chunk b k)) W := by
  have hl : b.length = len := by obtain ⟨_, _, e, _⟩ := hv; injection e with _ e2 _; exact e2.symm
  have hq : (b.drop (k * 460)).take (e - k * 460) = chunk b k := by
    unfold chunk
    rw [Nat.mul_comm 460 k]
    rcases Nat.lt_or_ge len ((k + 1) * 460) with h | h
    · rw [show e = len by omega, List.take_of_length_le (by rw [List.length_drop]; omega), List.take_of_length_le (by rw [List.length_drop]; omega)]
    · rw [show e - k * 460 = 460 by omega]
  have h := hv.piece (A' := A') (lo := k * 460) (m := e - k * 460) (c' := e - k * 460) (by omega) hA (Nat.le_refl _) (by unfold maxLen; omega) hn
  rw [hq] at h
  have hs := By.src (P := Try.prog) h Try.underlying22
  rw [show (chunk b k).length = e - k * 460 by rw [chunk_len]; omega] at hs
  exact hs
/-- le.Put: what it leaves is its own. -/
def OwnPost (w : World) (l : List UInt8) (e : Ending) (w' : World) : Prop := ∃ A n c, e = .returned (.slice A n c) ∧ Own w' w.heap.size 5 1 (.slice A n c) n (bv l) ∧ Below w.heap.size w w'
theorem putO (l : List UInt8) (v : Value) (F : Nat → Prop) (width n : Int) (w : World) (hv : By w F v l) (hn : l.length ≤ 35184372088832) :
    Calls Try.prog 33 #[v, .int .i64 width, .int .i64 n] w (OwnPost w (l ++ leB (word n) (wideN width))) :=
  (put_any l v F width n w hv hn).mono fun e w' ⟨u, he, ho, hb⟩ => by
    obtain ⟨A, c, rfl, _⟩ := ho.form
    exact ⟨A, _, c, he, ho, hb⟩
end Go.Proofs.Ytpedkcmcbejdiaa
namespace Go.Proofs.Ytpedkcmcbejdiaa
open Go.RowKit
set_option maxRecDepth 100000
set_option linter.unusedVariables false

/-- A slice of its own that is not empty: its block, read and written. -/
theorem Own.cells_ {w : World} {base n c : Nat} {e : TypeId} {A : Option Addr} {xs : List Value} (h : Own w base e 1 (.slice A n c) n xs) (hn : 0 < n) :
    ∃ g, A = some ⟨g, 0, none⟩ ∧ base ≤ g ∧ g < w.heap.size ∧ (∀ i u, xs[i]? = some u → w.cell? ⟨g, i, none⟩ = some u) ∧ (∀ i, w.frozen? ⟨g, i, none⟩ = false) ∧ ∀ i u, Own (w.setCell ⟨g, i, none⟩ u) base e 1 (.slice A n c) n (xs.set i u) := by
  obtain ⟨hl, A', c', hv, hnc, hc, hg⟩ := h
  injection hv with h1 h2 h3
  subst h1 h3
  obtain ⟨g, cur, rfl, hb, hgg, hs, ht⟩ := hg (by omega)
  refine ⟨g, rfl, hb, (Array.getElem?_eq_some_iff.1 hgg).1, fun i u hu => ?_, fun i => frozen_of_row w g i _ _ hgg, fun i u => ⟨by rw [List.length_set]; exact hl, _, c, rfl, hnc, hc, fun _ => ⟨g, _, rfl, hb, heap_setCell_same _ g i _ _ u hgg, by rw [Array.size_setIfInBounds]; exact hs, ?_⟩⟩⟩
  · rw [cell_of_row w g i _ _ _ hgg]
    rw [← ht, List.getElem?_take] at hu
    split at hu
    · simpa using hu
    · cases hu
  · rw [← ht, Array.toList_setIfInBounds, List.take_set]

/-- The cells zs bear the byte slices Z. -/
def Bear (w : World) (F : Nat → Prop) (zs : List Value) (Z : List (List UInt8)) : Prop :=
  zs.length = Z.length ∧ ∀ (i : Nat) (r : List UInt8), Z[i]? = some r → ∃ u, zs[i]? = some u ∧ By w F u r
section
variable {w w' : World} {F S : Nat → Prop} {zs ys : List Value} {Z Y : List (List UInt8)} {v : Value}
theorem Bear.keep (h : Bear w F zs Z) (hk : Keep S w w') (hs : ∀ b, b < w.heap.size → F b → ¬ S b) : Bear w' F zs Z :=
  ⟨h.1, fun i r hr => by obtain ⟨u, h1, h2⟩ := h.2 i r hr; exact ⟨u, h1, h2.keep hk hs⟩⟩
theorem Bear.take (h : Bear w F zs Z) (k : Nat) : Bear w F (zs.take k) (Z.take k) :=
  ⟨by rw [List.length_take, List.length_take, h.1], fun i r hr => by
    rw [List.getElem?_take] at hr ⊢
    split at hr
    · rename_i hi; rw [if_pos hi]; exact h.2 i r hr
    · cases hr⟩
theorem Bear.drop (h : Bear w F zs Z) (k : Nat) : Bear w F (zs.drop k) (Z.drop k) :=
  ⟨by rw [List.length_drop, List.length_drop, h.1], fun i r hr => by
    rw [List.getElem?_drop] at hr ⊢
    exact h.2 _ r hr⟩
theorem Bear.append (h : Bear w F zs Z) (k : Bear w F ys Y) : Bear w F (zs ++ ys) (Z ++ Y) :=
  ⟨by rw [List.length_append, List.length_append, h.1, k.1], fun i r hr => by
    have hl := h.1
    rcases Nat.lt_or_ge i Z.length with hi | hi
    · rw [List.getElem?_append_left hi] at hr
      rw [List.getElem?_append_left (by omega)]
      exact h.2 i r hr
    · rw [List.getElem?_append_right hi] at hr
      rw [List.getElem?_append_right (by omega), hl]
      exact k.2 _ r hr⟩
theorem Bear.set (h : Bear w F zs Z) {u : Value} {r : List UInt8} (hu : By w F u r) (k : Nat) : Bear w F (zs.set k u) (Z.set k r) :=
  ⟨by rw [List.length_set, List.length_set, h.1], fun i q hq => by
    have hl := h.1
    by_cases hi : k = i
    · subst hi
      rcases Nat.lt_or_ge k Z.length with hk | hk
      · rw [List.getElem?_set_self hk] at hq
        injection hq with hq
        subst hq
        exact ⟨u, by rw [List.getElem?_set_self (by omega)], hu⟩
      · rw [List.getElem?_eq_none (by rw [List.length_set]; exact hk)] at hq
        cases hq
    · rw [List.getElem?_set_ne hi] at hq ⊢
      exact h.2 i q hq⟩
theorem Bear.bys (h : Bear w F zs Z) {G : Nat → Prop} (hs : Sl w G 1 v Z.length zs) (hg : ∀ b, b < w.heap.size → G b → F b) : Bys w F v Z := ⟨zs, hs.mono hg, h.2⟩
end
theorem ListSt.open_ {B : Nat} {w : World} {u : Value} {R : List (List UInt8)} (h : ListSt B w u R) : ∃ cs, Own w B 22 1 u R.length cs ∧ Bear w (fun b => B ≤ b) cs R := by
  obtain ⟨cs, h1, h2⟩ := h
  refine ⟨cs, h1, by have := h1.1; omega, fun i r hr => ?_⟩
  obtain ⟨x, hx, hb⟩ := h2 i r hr
  exact ⟨x, hx, hb.mono (fun _ _ h => h.1)⟩
theorem Bear.one {w : World} {F : Nat → Prop} {zs : List Value} {Z : List (List UInt8)} (h : Bear w F zs Z) : ∀ u ∈ zs, u.oneCell' = true := bys_one h.1 h.2

theorem src_take {W : World} {B n c i g : Nat} {w : World} {cs : List Value} {R : List (List UInt8)} {F : Nat → Prop} (h : Own w B 22 1 (.slice (some ⟨g, 0, none⟩) n c) n cs) (hz : Bear w F cs R) (hi : i ≤ n) (hk : Keep (fun _ => False) w W) :
    Src Try.prog 1 51 (.slice (some ⟨g, 0, none⟩) i c) i (cs.take i) W := by
  obtain ⟨A', c', e, hr⟩ := (h.take hi).form
  injection e with e1 e2 e3
  subst e1 e3
  rw [show cs.take (i * 1) = cs.take i by rw [Nat.mul_one]] at hr
  exact (hr.keep hk (fun _ _ _ h => h)).src (n := i) (size := 1) Try.underlying51 (fun u hu => hz.one u (List.mem_of_mem_take hu)) (by omega)
theorem src_all {W : World} {B n c g : Nat} {w : World} {cs : List Value} {R : List (List UInt8)} {F : Nat → Prop} (h : Own w B 22 1 (.slice (some ⟨g, 0, none⟩) n c) n cs) (hz : Bear w F cs R) (hk : Keep (fun _ => False) w W) :
    Src Try.prog 1 51 (.slice (some ⟨g, 0, none⟩) n c) n cs W := by
  have := src_take h hz (Nat.le_refl n) hk
  rwa [List.take_of_length_le (by have := h.1; omega)] at this
theorem src_drop {W : World} {B n c c' i g : Nat} {w : World} {cs : List Value} {R : List (List UInt8)} {F : Nat → Prop} (h : Own w B 22 1 (.slice (some ⟨g, 0, none⟩) n c) n cs) (hz : Bear w F cs R) (hi : i ≤ n) (hk : Keep (fun _ => False) w W) :
    Src Try.prog 1 51 (.slice (some ⟨g, i, none⟩) (n - i) c') (n - i) (cs.drop i) W := by
  obtain ⟨A1, c1, e, hr⟩ := h.form
  injection e with e1 e2 e3
  subst e1 e3
  have hp := hr.piece (size := 1) (lo := i) (hi := n) (A' := some ⟨g, i, none⟩) hi (by omega) (fun b off e _ => by injection e with e; injection e with e1 e2; subst e1 e2; simp)
  rw [List.take_of_length_le (by rw [List.length_drop]; have := h.1; omega), show cs.drop (i * 1) = cs.drop i by rw [Nat.mul_one]] at hp
  exact (hp.keep hk (fun _ _ _ h => h)).src (n := n - i) (size := 1) Try.underlying51 (fun u hu => hz.one u (List.mem_of_mem_drop hu)) (by omega)
theorem src_none {W : World} {A : Option Addr} {c : Nat} : Src Try.prog 1 51 (.slice A 0 c) 0 [] W :=
  Rd.src (F := fun _ => True) (n := 0) (size := 1) (Rd.nil W _ A) Try.underlying51 (fun u hu => by simp at hu) (by omega)

/-- One piece short. -/
theorem less_not {s n i : Nat} {b : List UInt8} (hs : s ≤ 281474976710656) (hi : i < n) (hn : n ≤ 1024) : joinOk ((pieces s b n).take i ++ (pieces s b n).drop (i + 1)) = false := by
  have hl := pieces_len s b n
  rcases Nat.lt_or_ge 1 n with h1 | h1
  · rcases Nat.eq_zero_or_pos i with h0 | h0
    · subst h0
      refine not_joined (i := 0) (k := 1) (n := n) (seq := s) (c := chunk b 1) ?_ (by omega) (by omega) hs (.inl (by omega))
      rw [List.take_zero, List.nil_append, List.getElem?_drop]
      exact pieces_at h1
    · refine not_joined (i := 0) (k := 0) (n := n) (seq := s) (c := chunk b 0) ?_ (by omega) (by omega) hs (.inr ?_)
      · rw [List.getElem?_append_left (by rw [List.length_take, hl]; omega), List.getElem?_take, if_pos h0]
        exact pieces_at (by omega)
      · rw [List.length_append, List.length_take, List.length_drop, hl]; omega
  · obtain rfl : i = 0 := by omega
    obtain rfl : n = 1 := by omega
    rw [List.take_zero, List.nil_append, List.drop_eq_nil_of_le (by rw [hl]; omega)]
    rfl
/-- One piece of another record. -/
theorem mixed_not {s t n m i : Nat} {a b : List UInt8} (hs : s ≤ 281474976710656) (ht : t ≤ 281474976710656) (hi : i < n) (him : i < m) (hn : n ≤ 1024) (hm : m ≤ 1024) (h1 : 1 < n) (h : s ≠ t ∨ n ≠ m) :
    joinOk ((pieces s a n).set i (hdrB i m t ++ chunk b i)) = false := by
  have hl := pieces_len s a n
  have hat : ((pieces s a n).set i (hdrB i m t ++ chunk b i))[i]? = some (hdrB i m t ++ chunk b i) := List.getElem?_set_self (by omega)
  by_cases hnm : n = m
  · have hst : s ≠ t := h.resolve_right (fun h => h hnm)
    obtain ⟨j, hj, hji⟩ : ∃ j, j < n ∧ i ≠ j := by
      rcases Nat.eq_zero_or_pos i with h0 | h0
      · exact ⟨1, h1, by omega⟩
      · exact ⟨0, by omega, by omega⟩
    exact not_joined2 (i := j) (j := i) (k := j) (n := n) (seq := s) (c := chunk a j) (by rw [List.getElem?_set_ne hji]; exact pieces_at hj) hat (by omega) (by omega) (by omega) (by omega) hs ht hst
  · exact not_joined hat (by omega) (by omega) ht (.inr (by rw [List.length_set, hl]; omega))
/-- Two pieces turned. -/
theorem turned_not {s n i j : Nat} {a : List UInt8} (hs : s ≤ 281474976710656) (hi : i < n) (hj : j < n) (hij : i ≠ j) (hn : n ≤ 1024) :
    joinOk (((pieces s a n).set i (hdrB j n s ++ chunk a j)).set j (hdrB i n s ++ chunk a i)) = false := by
  have hl := pieces_len s a n
  refine not_joined (i := j) (k := i) (n := n) (seq := s) (c := chunk a i) (List.getElem?_set_self (by rw [List.length_set]; omega)) (by omega) (by omega) hs (.inl hij)
end Go.Proofs.Ytpedkcmcbejdiaa
namespace Go.Proofs.Ytpedkcmcbejdiaa
open Go.RowKit
set_option maxRecDepth 100000
set_option linter.unusedVariables false

theorem res4 {fn : Func} {t u v x : Tmp} (h : fn.results = #[.tmp t, .tmp u, .tmp v, .tmp x]) (tmps : Array Value) (P : Program) (w : World) :
    (results fn tmps).run P w = .ok (.tuple #[tmps.getD t undef, tmps.getD u undef, tmps.getD v undef, tmps.getD x undef]) w := by simp [results, h]
/-- What a head tells. -/
def HeadIs (l : List UInt8) (a b c : Int) (ok : Bool) : Prop := ok = headOk l ∧ a = (if headOk l = true then (hPlace l : Int) else 0) ∧ b = (if headOk l = true then (hCount l : Int) else 0) ∧ c = (if headOk l = true then hSeq l else 0)
def headT (l : List UInt8) : Value := .tuple #[.int .i64 (if headOk l = true then (hPlace l : Int) else 0), .int .i64 (if headOk l = true then (hCount l : Int) else 0), .int .i64 (if headOk l = true then hSeq l else 0), .bool (headOk l)]
theorem headT_no {l : List UInt8} (h : headOk l = false) : headT l = .tuple #[.int .i64 0, .int .i64 0, .int .i64 0, .bool false] := by simp [headT, h]
theorem headT_yes {l : List UInt8} (h : headOk l = true) : headT l = .tuple #[.int .i64 (hPlace l : Int), .int .i64 (hCount l : Int), .int .i64 (hSeq l), .bool true] := by simp [headT, h]
theorem getN_two (l : List UInt8) : getN (l.take 2) < 65536 :=
  Nat.lt_of_lt_of_le (getN_lt _) (Nat.le_trans (Nat.pow_le_pow_right (by decide) (List.length_take_le _ _)) (by decide))
theorem getZ_small {l : List UInt8} {k : Nat} (h : k + 2 ≤ l.length) : getZ l k 2 = (getN ((l.drop k).take 2) : Int) ∧ getOk l k 2 = true := by
  have hok : getOk l k 2 = true := getOk_yes (width := 2) (by have : wideN 2 = 2 := rfl; omega)
  refine ⟨?_, hok⟩
  unfold getZ
  rw [if_pos hok, Int.toNat_natCast, show wideN 2 = 2 from rfl]
  show wrap64 (getN ((l.drop k).take 2)) = _
  exact wrap64_small (Nat.lt_trans (getN_two _) (by decide))
theorem num2 {l : List UInt8} {k : Nat} (h : k + 2 ≤ l.length) : numR l k false 2 = ((getN ((l.drop k).take 2) : Int), k + 2, false) := by
  obtain ⟨h1, h2⟩ := getZ_small h
  unfold numR
  rw [if_neg (by simp), if_pos h2, h1]
  rfl
theorem num8 {l : List UInt8} {k : Nat} (h : k + 8 ≤ l.length) : numR l k false 8 = (wrap64 (getN ((l.drop k).take 8)), k + 8, false) := by
  have hok : getOk l k 8 = true := getOk_yes (width := 8) (by have : wideN 8 = 8 := rfl; omega)
  unfold numR getZ
  rw [if_neg (by simp), if_pos hok, if_pos hok, Int.toNat_natCast]
  rfl
theorem headOk_iff {p : List UInt8} : headOk p = true ↔ 12 ≤ p.length ∧ p.length ≤ 472 ∧ 1 ≤ hCount p ∧ hCount p ≤ 1024 ∧ hPlace p < hCount p ∧ 0 ≤ hSeq p ∧ hSeq p ≤ 281474976710656 := by
  unfold headOk; exact decide_eq_true_iff

end Go.Proofs.Ytpedkcmcbejdiaa
namespace Go.Proofs.Ytpedkcmcbejdiaa
open Go.RowKit
set_option maxRecDepth 100000
set_option linter.unusedVariables false

theorem pbequal_any (xs ys : List UInt8) (u v : Value) (F G : Nat → Prop) (w : World) (ha : By w F u xs) (hb : By w G v ys) :
    Calls Try.prog 36 #[u, v] w fun e w' => e = .returned (.bool (decide (xs = ys))) ∧ w = w' := by
  have r1 := run_str (P := Try.prog) ha Try.underlying22 Try.underlying5 Try.underlying9
  have r2 := run_str (P := Try.prog) hb Try.underlying22 Try.underlying5 Try.underlying9
  clear ha hb
  go_enter Try.func36, Try.ntmps36
  go_wp2
  go_ret
  refine ⟨ret_bool ?_, rfl⟩
  show (xs == ys) = _
  rw [Bool.eq_iff_iff, beq_iff_eq, decide_eq_true_iff]

end Go.Proofs.Ytpedkcmcbejdiaa
namespace Go.Proofs.Ytpedkcmcbejdiaa
open Go.RowKit
set_option maxRecDepth 100000
set_option linter.unusedVariables false

theorem getZ_8 {l : List UInt8} (h : 12 ≤ l.length) : getZ l 4 8 = hSeq l ∧ getOk l 4 8 = true := by
  have hok : getOk l ((4 : Nat) : Int) 8 = true := getOk_yes (width := 8) (by have : wideN 8 = 8 := rfl; omega)
  refine ⟨?_, hok⟩
  show getZ l ((4 : Nat) : Int) 8 = _
  unfold getZ
  rw [if_pos hok, Int.toNat_natCast]
  rfl
end Go.Proofs.Ytpedkcmcbejdiaa

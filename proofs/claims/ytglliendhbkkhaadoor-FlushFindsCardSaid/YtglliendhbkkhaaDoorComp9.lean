/- Layouts of bytes: plain law of the parse; components that a call gathers. -/
import Derived.Test.YtglliendhbkkhaaDoorComp1
import Derived.Test.YtglliendhbkkhaaDoorRdr
import Derived.Laws.ResultCell
namespace Go.Proofs.YtglliendhbkkhaaDoor
open Go.RowKit
set_option maxRecDepth 100000
set_option linter.unusedVariables false

def bytC (l : List UInt8) (i : Nat) : Int := ((l.getD i 0).toNat : Nat)
theorem bytC_bd (l : List UInt8) (i : Nat) : 0 ≤ bytC l i ∧ bytC l i ≤ 255 := by
  unfold bytC
  have h2 : (l.getD i 0).toNat < 256 := (l.getD i 0).toNat_lt
  omega
theorem wT4 : wideN 4 = 4 := rfl
theorem wT1 : wideN 1 = 1 := rfl
theorem getZ_b1 {l : List UInt8} {k : Nat} (h : k < l.length) : getZ l k 1 = bytC l k := by
  unfold getZ
  rw [if_pos (getOk_yes (by rw [wT1]; omega)), wT1, Int.toNat_natCast]
  have hp : pieceOf l k 1 = [l.getD k 0] := by
    unfold pieceOf
    rw [List.drop_eq_getElem_cons h, List.take_succ_cons, List.take_zero, List.getD_eq_getElem?_getD, List.getElem?_eq_getElem h]
    rfl
  rw [hp]
  have := (l.getD k 0).toNat_lt
  unfold bytC
  generalize l.getD k 0 = u at *
  simp only [getN]
  have h2 : u.toNat < 256 := this
  unfold wrap64
  omega
theorem getZ_2in {l : List UInt8} {k : Nat} (h : k + 2 ≤ l.length) : 0 ≤ getZ l k 2 ∧ getZ l k 2 ≤ 65535 := by
  unfold getZ
  rw [if_pos (getOk_yes (by rw [wT2]; omega)), Int.toNat_natCast, wT2]
  have h1 := getN_lt (pieceOf l k 2)
  rw [piece_len l k 2 h] at h1
  have h2 : (256 : Nat) ^ 2 = 65536 := by decide
  rw [h2] at h1
  unfold wrap64
  omega
/-- How long is the text at a place? -/
def lenAt (b : List UInt8) (at_ : Nat) : Nat := (getZ b at_ 2).toNat
theorem lenAt_eq {b : List UInt8} {at_ : Nat} (h : at_ + 2 ≤ b.length) : getZ b at_ 2 = (lenAt b at_ : Nat) := by
  have := getZ_2in h
  unfold lenAt
  omega
theorem lenAt_le {b : List UInt8} {at_ : Nat} (h : at_ + 2 ≤ b.length) : lenAt b at_ ≤ 65535 := by
  have := getZ_2in h
  unfold lenAt
  omega
def cpAt (b : List UInt8) (at_ : Nat) : Cp := ⟨⟨(pieceOf b (at_ + 2) (lenAt b at_)).toArray⟩, bytC b (at_ + 2 + lenAt b at_)⟩
/-- Is there a component? -/
def okC (b : List UInt8) (at_ : Nat) : Prop := at_ + 2 ≤ b.length ∧ at_ + 3 + lenAt b at_ ≤ b.length
instance (b : List UInt8) (at_ : Nat) : Decidable (okC b at_) := inferInstanceAs (Decidable (_ ∧ _))
def nextC (b : List UInt8) (r : Option (Nat × List Cp)) : Option (Nat × List Cp) :=
  match r with
  | none => none
  | some (at_, l) => if okC b at_ then some (at_ + 3 + lenAt b at_, l ++ [cpAt b at_]) else none
def compAt (b : List UInt8) : Nat → Option (Nat × List Cp)
  | 0 => some (17, [])
  | k + 1 => nextC b (compAt b k)
theorem compAt_ok {b : List UInt8} (h : 17 ≤ b.length) : ∀ {k at_ : Nat} {l : List Cp}, compAt b k = some (at_, l) → l.length = k ∧ at_ ≤ b.length
  | 0, at_, l, e => by
    cases e
    exact ⟨rfl, h⟩
  | k + 1, at_, l, e => by
    cases hr : compAt b k with
    | none => simp only [compAt, hr, nextC] at e; cases e
    | some r =>
      obtain ⟨a0, l0⟩ := r
      simp only [compAt, hr, nextC] at e
      split at e
      · rename_i ho
        injection e with e
        injection e with e1 e2
        subst e1 e2
        have h2 := compAt_ok h hr
        exact ⟨by rw [List.length_append, h2.1]; rfl, by unfold okC at ho; omega⟩
      · cases e
def zeroF : Cf := ⟨0, 0, 0, 0, []⟩
def hdrF (b : List UInt8) (l : List Cp) : Cf := ⟨getZ b (0 : Nat) 4, getZ b (4 : Nat) 4, getZ b (8 : Nat) 4, getZ b (12 : Nat) 4, l⟩
/-- The layout and the error. -/
def getF (b : List UInt8) : Cf × Int :=
  if b.length < 17 then (zeroF, 12)
  else match compAt b (bytC b 16).toNat with
    | none => (zeroF, 12)
    | some (at_, l) => if at_ ≠ b.length then (zeroF, 11) else if rightB (hdrF b l) = false then (zeroF, 1) else (hdrF b l, 0)
theorem num_ok {l : List UInt8} {k : Nat} {width : Int} (h : k + wideN width ≤ l.length) : numR l k false width = (getZ l k width, k + wideN width, false) := by
  unfold numR
  rw [if_neg (by decide), if_pos (getOk_yes (by omega))]
theorem num_no {l : List UInt8} {k : Nat} {width : Int} (h : l.length < k + wideN width) : numR l k false width = (0, k, true) := by
  unfold numR
  rw [if_neg (by decide), if_neg (by rw [getOk_no (.inr (by omega))]; decide)]
theorem num_bad {l : List UInt8} {k : Nat} {width : Int} : numR l k true width = (0, k, true) := rfl
theorem text_bad {l : List UInt8} {k : Nat} : textR l k true = ([], k, true) := rfl
theorem text_ok {b : List UInt8} {k : Nat} (h : k + 2 ≤ b.length) (h2 : k + 2 + lenAt b k ≤ b.length) : textR b k false = (pieceOf b (k + 2) (lenAt b k), k + 2 + lenAt b k, false) := by
  have e1 : numR b k false 2 = (getZ b k 2, k + 2, false) := num_ok (width := 2) (by rw [wT2]; exact h)
  unfold textR
  rw [if_neg (by decide), e1]
  have e2 : bytesR b (k + 2) false (getZ b k 2) = (pieceOf b (k + 2) (lenAt b k), k + 2 + lenAt b k, false) := by
    unfold bytesR
    rw [lenAt_eq h, if_neg (by rintro (h3 | h3); · cases h3
                               · omega), if_neg (by omega), Int.toNat_natCast]
    rfl
  simp only [e2]
  rfl
theorem text_no {b : List UInt8} {k : Nat} (h : ¬ (k + 2 ≤ b.length ∧ k + 2 + lenAt b k ≤ b.length)) : textR b k false = ([], k, true) := by
  unfold textR
  rw [if_neg (by decide)]
  by_cases h1 : k + 2 ≤ b.length
  · have e1 : numR b k false 2 = (getZ b k 2, k + 2, false) := num_ok (width := 2) (by rw [wT2]; exact h1)
    have e2 : bytesR b (k + 2) false (getZ b k 2) = ([], k + 2, true) := by
      unfold bytesR
      rw [lenAt_eq h1, if_neg (by rintro (h3 | h3); · cases h3
                                  · omega), if_pos (by omega)]
    rw [e1]
    simp only [e2]
    rfl
  · have e1 : numR b k false 2 = (0, k, true) := num_no (width := 2) (by rw [wT2]; omega)
    rw [e1]
    rfl
/-- v holds the components l, in memory of the call's own from block B on. -/
def Oc (W : World) (B : Nat) (v : Value) (l : List Cp) : Prop := Own W B 62 2 v l.length (l.flatMap ccells)
section
variable {W W' : World} {B B' : Nat} {v : Value} {l : List Cp} {S : Nat → Prop}
theorem Oc.form (h : Oc W B v l) : ∃ A c, v = .slice A l.length c := by
  obtain ⟨A, c, e, _⟩ := Own.form h
  exact ⟨A, c, e⟩
theorem Oc.keep (h : Oc W B v l) (hk : Keep S W W') (hs : ∀ k, ownB v = some k → B ≤ k → k < W.heap.size → ¬ S k) : Oc W' B v l :=
  Own.keep h hk (fun k e => hs k e (Own.ownB h k e).1 (Own.ownB h k e).2)
theorem Oc.nil (W : World) (B : Nat) : Oc W B (.slice none 0 0) [] := Own.none_ _ _ _ _ _
theorem Oc.cl (h : Oc W B v l) : CL W (fun k => B ≤ k) v l := by
  obtain ⟨hl, A, c, e, hnc, hcm, hg⟩ := h
  refine ⟨A, c, e, hnc, hcm, ⟨hl, fun h0 => ?_⟩, fun h0 => ?_⟩
  · obtain ⟨g, cur, e1, e2, e3, e4, e5⟩ := hg (by omega)
    refine ⟨g, 0, e1, e2, fun i u hu => ?_⟩
    have hi : (cur.toList.take (l.length * 2))[i]? = some u := by rw [e5]; exact hu
    have hi2 : i < l.length * 2 := by
      have := (List.getElem?_eq_some_iff.1 hu).1
      rw [flat_len ccells_len] at this
      exact this
    rw [List.getElem?_take_of_lt hi2] at hi
    rw [Nat.zero_add, cell_of_row W g i _ _ _ e3]
    simpa using hi
  · by_cases hc : 0 < c
    · obtain ⟨g, cur, e1, _⟩ := hg hc
      rw [e1] at h0
      cases h0
    · omega
end
theorem info_comp : (Tryd.prog.info? 62).map (fun i => (i.zero, i.size, i.bytes)) = some (some (.agg #[.string ⟨#[]⟩, .int .i64 0]), 2, 24) := by kernel_rfl
theorem step_appC {ops : Array Oper} {o : Oper} {a : Act} {w : World} {K : Act → World → Prop} {Q : Exit → Act → World → Prop} {E : Prop} (hgd : Region.wanted o (yielded ops a.tmps) = true) (s x : Operand)
    (ho : o.op = .call { callee := .builtin .append, args := #[s, x], argTypes := #[40, 40] }) (B : Nat) (v : Value) (l : List Cp) (hv : a.eval s = v) (hob : Oc w B v l)
    (g c : Nat) (y : Cp) (hy : a.eval x = .slice (some ⟨g, 0, none⟩) 1 c) (h0 : w.cell? ⟨g, 0, none⟩ = some (.string y.nm)) (h1 : w.cell? ⟨g, 1, none⟩ = some (.int .i64 y.sz)) (h40 : l.length ≤ 100000) (hB : B ≤ w.heap.size)
    (h : ∀ A c w', Oc w' B (.slice A (l ++ [y]).length c) (l ++ [y]) → Keep (fun k => ownB v = some k) w w' → K (a.put o.dst (.slice A (l ++ [y]).length c)) w') :
    if Region.wanted o (yielded ops a.tmps) = true then Oper.wp Tryd.prog o a w K Q else E := by
  obtain ⟨ib, hib, hb0, hb1, hb2⟩ := info_parts info_comp
  have hsrc : Src Tryd.prog 2 40 (.slice (some ⟨g, 0, none⟩) 1 c) 1 (ccells y) w := Src.ofSlice _ Tryd.underlying40 _ 1 c (ccells y) rfl (fun j u hu => by
    match j, hu with
    | 0, hu => cases hu; simpa [Addr.add] using h0
    | 1, hu => cases hu; simpa [Addr.add] using h1) (fun u hu => by
    unfold ccells at hu
    simp at hu
    rcases hu with rfl | rfl <;> rfl)
  refine step_append_gen w hgd s x _ _ ho B 62 ib _ 2 24 Tryd.underlying40 hib hb0 hb1 hb2 rfl v _ (l.flatMap ccells) hv hob _ 1 (ccells y) hy hsrc (by unfold maxLen; omega) (by omega) hB ?_
  intro v' w' ho' hk _
  have e : l.flatMap ccells ++ ccells y = (l ++ [y]).flatMap ccells := by rw [List.flatMap_append, List.flatMap_cons, List.flatMap_nil, List.append_nil]
  rw [e] at ho'
  have e2 : (l ++ [y]).length = l.length + 1 := by simp
  obtain ⟨A, c', rfl, _⟩ := ho'.form
  rw [← e2] at ho'
  rw [← e2]
  exact h A c' w' ho' hk
end Go.Proofs.YtglliendhbkkhaaDoor

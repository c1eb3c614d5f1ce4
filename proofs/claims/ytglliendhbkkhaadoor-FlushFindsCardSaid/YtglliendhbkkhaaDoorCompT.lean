/- Plain law: a layout that was got, put again. No program in sight. -/
import Derived.Test.YtglliendhbkkhaaDoorComp7
import Derived.Test.YtglliendhbkkhaaDoorComp9
import Derived.Test.YtglliendhbkkhaaDoorComp1
import Derived.Test.YtglliendhbkkhaaDoorBits2
namespace Go.Proofs.YtglliendhbkkhaaDoor
open Go.RowKit
set_option maxRecDepth 100000
set_option linter.unusedVariables false

theorem getN_injF : ∀ {a b : List UInt8}, a.length = b.length → getN a = getN b → a = b
  | [], [], _, _ => rfl
  | c :: a, d :: b, hl, h => by
    rw [getN, getN] at h
    have h1 := c.toNat_lt
    have h2 := d.toNat_lt
    have hcd : c = d := UInt8.toNat_inj.1 (by omega)
    have : getN a = getN b := by omega
    rw [hcd, getN_injF (by simpa using hl) this]
  | [], _ :: _, hl, _ => by simp at hl
  | _ :: _, [], hl, _ => by simp at hl
theorem leB_getNF (l : List UInt8) : leB (getN l) l.length = l := by
  apply getN_injF (leB_len _ _)
  rw [getN_leB, Nat.mod_eq_of_lt (getN_lt l)]
theorem wireF {l : List UInt8} {k m : Nat} {width : Int} (hw : wideN width = m) (h : k + m ≤ l.length) : leB (word (getZ l k width)) m = pieceOf l k m := by
  unfold getZ
  rw [if_pos (getOk_yes (by rw [hw]; omega)), Int.toNat_natCast, hw]
  have h8 : m ≤ 8 := by have := wideN_in width; omega
  have h1 := getN_lt (pieceOf l k m)
  rw [piece_len l k m h] at h1
  have h2 : 256 ^ m ≤ 256 ^ 8 := Nat.pow_le_pow_right (by omega) h8
  rw [show (256 : Nat) ^ 8 = 18446744073709551616 from by decide] at h2
  have h3 : word (wrap64 (getN (pieceOf l k m))) = getN (pieceOf l k m) := by unfold word wrap64; omega
  rw [h3]
  have := leB_getNF (pieceOf l k m)
  rwa [piece_len l k m h] at this
theorem pjoin (l : List UInt8) (a m n : Nat) : pieceOf l a (m + n) = pieceOf l a m ++ pieceOf l (a + m) n := by
  unfold pieceOf
  rw [List.take_add, List.drop_drop]
theorem byte_wireF {l : List UInt8} {k : Nat} (h : k < l.length) : leB (word (bytC l k)) 1 = pieceOf l k 1 := by
  rw [← getZ_b1 h]
  exact wireF wT1 (by omega)
theorem compB_at {b : List UInt8} {a : Nat} (h : okC b a) : compB (cpAt b a) = pieceOf b a (3 + lenAt b a) := by
  unfold okC at h
  have hl := lenAt_le h.1
  have hp : sb (cpAt b a).nm = pieceOf b (a + 2) (lenAt b a) := rfl
  have hpl : (pieceOf b (a + 2) (lenAt b a)).length = lenAt b a := piece_len _ _ _ (by omega)
  unfold compB
  rw [hp, textB_fit _ (by rw [hpl]; exact hl), hpl]
  have e1 : leB (word ((lenAt b a : Nat) : Int)) 2 = pieceOf b a 2 := by rw [← lenAt_eq h.1]; exact wireF wT2 h.1
  have e2 : leB (word (cpAt b a).sz) 1 = pieceOf b (a + 2 + lenAt b a) 1 := byte_wireF (by omega)
  rw [e1, e2, show 3 + lenAt b a = 2 + (lenAt b a + 1) by omega, pjoin, pjoin, List.append_assoc]
theorem compsB_at {b : List UInt8} : ∀ {k a : Nat} {l : List Cp}, compAt b k = some (a, l) → 17 ≤ a ∧ compsB l l.length = pieceOf b 17 (a - 17)
  | 0, a, l, e => by
    cases e
    exact ⟨Nat.le_refl _, rfl⟩
  | k + 1, a, l, e => by
    cases hr : compAt b k with
    | none => simp only [compAt, hr, nextC] at e; cases e
    | some r =>
      obtain ⟨a0, l0⟩ := r
      simp only [compAt, hr, nextC] at e
      split at e
      · rename_i ho
        injection e with e
        injection e with e1 e2
        subst e1 e2
        obtain ⟨h1, h2⟩ := compsB_at hr
        refine ⟨by omega, ?_⟩
        have e3 : compsB (l0 ++ [cpAt b a0]) (l0 ++ [cpAt b a0]).length = compsB l0 l0.length ++ compB (cpAt b a0) := by
          unfold compsB
          rw [List.take_length, List.take_length, List.flatMap_append, List.flatMap_cons, List.flatMap_nil, List.append_nil]
        have e4 := pjoin b 17 (a0 - 17) (3 + lenAt b a0)
        rw [show 17 + (a0 - 17) = a0 by omega] at e4
        rw [e3, h2, compB_at ho, show a0 + 3 + lenAt b a0 - 17 = (a0 - 17) + (3 + lenAt b a0) by omega, e4]
      · cases e
theorem compAt_small2 {b : List UInt8} : ∀ {k a : Nat} {l : List Cp}, compAt b k = some (a, l) → ∀ x ∈ l, x.nm.size ≤ 65535
  | 0, a, l, e => by
    cases e
    intro x hx
    cases hx
  | k + 1, a, l, e => by
    cases hr : compAt b k with
    | none => simp only [compAt, hr, nextC] at e; cases e
    | some r =>
      obtain ⟨a0, l0⟩ := r
      simp only [compAt, hr, nextC] at e
      split at e
      · rename_i ho
        injection e with e
        injection e with e1 e2
        subst e1 e2
        intro x hx
        rcases List.mem_append.1 hx with hx | hx
        · exact compAt_small2 hr x hx
        · obtain rfl := List.mem_singleton.1 hx
          unfold okC at ho
          have h1 := lenAt_le ho.1
          show (pieceOf b (a0 + 2) (lenAt b a0)).toArray.size ≤ 65535
          rw [List.size_toArray, piece_len _ _ _ (by omega)]
          exact h1
      · cases e
theorem getF_bytes {b : List UInt8} (h : (getF b).2 = 0) : confB (getF b).1 = b ∧ (getF b).1.l.length ≤ 255 ∧ ∀ x ∈ (getF b).1.l, x.nm.size ≤ 65535 := by
  unfold getF at h ⊢
  split at h
  · cases h
  rename_i h17
  rw [if_neg h17]
  have hb := bytC_bd b 16
  cases hc : compAt b (bytC b 16).toNat with
  | none => rw [hc] at h; cases h
  | some r =>
    obtain ⟨a, l⟩ := r
    rw [hc] at h
    simp only at h ⊢
    split at h
    · cases h
    rename_i ha
    rw [if_neg ha]
    split at h
    · cases h
    rename_i hr
    rw [if_neg hr]
    obtain ⟨hl, -⟩ := compAt_ok (by omega) hc
    obtain ⟨h1, h2⟩ := compsB_at hc
    have ha2 : a = b.length := Classical.not_not.1 ha
    refine ⟨?_, by show l.length ≤ 255; omega, ?_⟩
    · show (numsB (hdrF b l) 4 ++ leB (word (l.length : Nat)) 1) ++ compsB l l.length = b
      have en : numsB (hdrF b l) 4 = pieceOf b 0 16 := by
        show leB (word (getZ b (0 : Nat) 4)) 4 ++ (leB (word (getZ b (4 : Nat) 4)) 4 ++ (leB (word (getZ b (8 : Nat) 4)) 4 ++ (leB (word (getZ b (12 : Nat) 4)) 4 ++ []))) = _
        rw [wireF wT4 (by omega), wireF wT4 (by omega), wireF wT4 (by omega), wireF wT4 (by omega), List.append_nil, show (16 : Nat) = 4 + (4 + (4 + 4)) from rfl, pjoin, pjoin, pjoin]
      have e1 : leB (word ((l.length : Nat) : Int)) 1 = pieceOf b 16 1 := by
        rw [hl, show (((bytC b 16).toNat : Nat) : Int) = bytC b 16 by omega]
        exact byte_wireF (by omega)
      rw [en, e1, h2, ← pjoin b 0 16 1, show (16 : Nat) + 1 = 17 from rfl]
      have e3 := pjoin b 0 17 (a - 17)
      rw [Nat.zero_add] at e3
      rw [← e3]
      unfold pieceOf
      rw [List.drop_zero, List.take_of_length_le (by omega)]
    · intro x hx
      have hx2 : x ∈ l := hx
      exact compAt_small2 hc x hx2
end Go.Proofs.YtglliendhbkkhaaDoor
namespace Go.Proofs.YtglliendhbkkhaaDoor
open Go.RowKit
set_option maxRecDepth 100000
set_option linter.unusedVariables false

def idxL (n : Nat) : List Int := (List.range n).map (fun k : Nat => (k : Int))
theorem idxL_at {n k : Nat} (h : k < n) : (idxL n)[k]? = some (k : Int) := by simp [idxL, h]
theorem idxL_len (n : Nat) : (idxL n).length = n := by simp [idxL]
theorem call_any (c : Cf) (u : Value) (F : Nat → Prop) (w : World) (hu : CL w F u c.l) (h40 : c.l.length ≤ 1000) :
    Calls Tryd.prog 22 #[confV c u] w fun e w' => e = .returned (.int .u64 (orL (idxL c.l.length) 0 : Nat)) ∧ Below w.heap.size w w' := by
  have hu0 := hu
  obtain ⟨A, cap, rfl, hnc, hcm, -⟩ := hu
  obtain ⟨n, hn⟩ : ∃ n, n = c.l.length := ⟨_, rfl⟩
  have B0 := Lib.hid (BF.first hu0)
  unfold confV
  rw [← hn] at hnc hu0 B0 h40 ⊢
  clear hn hcm
  obtain ⟨log, pages, ents, gens, l⟩ := c
  simp only at hnc hu0 B0 h40 ⊢
  go_enter Tryd.func22, Tryd.ntmps22
  go_upto_region 1 with fail
  refine wp_world (S := BF w F ⟨log, pages, ents, gens, l⟩ (.slice A n cap)) B0.out ?_
  intro X hX
  have HX := Lib.hid hX
  clear hX hu0 B0
  obtain ⟨x0, x1, x2, x3, x4, xf⟩ := cells5 HX.out.1
  go_wp2
  go_loopw [3, 8] (fun t i wr => ∃ k : Nat, k ≤ n ∧ i = .int .i64 k ∧ t = .int .u64 (orL ((idxL n).take k) 0 : Nat) ∧ wr = X) (fun _ i _ => n - (intOf i).toNat)
  case atStart => exact ⟨0, by omega, rfl, rfl, rfl⟩
  case round =>
    obtain ⟨k, hk, rfl, rfl, rfl⟩ := hrel
    by_cases hlt : k < n
    · have hi : (k : Int) < (n : Int) := by omega
      have OT := Lib.hid (orL_take (idxL n) k (k : Int) (idxL_at hlt))
      have LT := orL_lt ((idxL n).take k) 0 (by decide)
      generalize orL ((idxL n).take k) 0 = s at *
      have WA := Lib.hid (with_any s (k : Int) LT)
      clear LT
      generalize s ||| bitN (k : Int) = s2 at *
      go_wp2_with (go_at_call 27; (with_reducible refine (WA.out _).mono ?_); rintro e w1 ⟨rfl, rfl⟩)
      go_roundw
      case rel => exact ⟨k + 1, by omega, by go_num, by rw [OT.out], by first | rfl | trivial⟩
      case measure => simp [intOf]; omega
    · obtain rfl : k = n := by omega
      have hi : ¬ (k : Int) < (k : Int) := by omega
      have e : (idxL k).take k = idxL k := List.take_of_length_le (by rw [idxL_len]; omega)
      rw [e]
      go_wp2
      go_ret
      exact ⟨rfl, HX.out.2.2⟩
theorem pskip (a b : List UInt8) {off k m : Nat} (h : off = a.length + k) : pieceOf (a ++ b) off m = pieceOf b k m := by
  unfold pieceOf
  rw [h, List.drop_append, List.drop_eq_nil_of_le (by omega), List.nil_append]
  congr 2; omega
theorem phere (a b : List UInt8) {m : Nat} (h : m = a.length) : pieceOf (a ++ b) 0 m = a := by
  unfold pieceOf
  rw [List.drop_zero, h, List.take_left']
  rfl
theorem getZ_is {l : List UInt8} {k m : Nat} {width z : Int} (hw : wideN width = m) (h : k + m ≤ l.length) (hp : pieceOf l k m = leB (word z) m) (hz : 0 ≤ z) (hi : z < 256 ^ m) (h7 : z < 9223372036854775808) : getZ l k width = z := by
  unfold getZ
  rw [if_pos (getOk_yes (by rw [hw]; omega)), Int.toNat_natCast, hw, hp, getN_leB]
  obtain ⟨n, rfl⟩ := Int.eq_ofNat_of_zero_le hz
  have h2 : n < 256 ^ m := by
    have e : ((256 : Int) ^ m) = ((256 ^ m : Nat) : Int) := by rw [Int.natCast_pow]; rfl
    rw [e] at hi
    omega
  have h3 : word (n : Int) = n := by unfold word; omega
  rw [h3, Nat.mod_eq_of_lt h2]
  unfold wrap64
  omega
theorem comps_split (l : List Cp) {k : Nat} (hk : k < l.length) : compsB l l.length = compsB l k ++ (compB l[k] ++ (l.drop (k + 1)).flatMap compB) := by
  unfold compsB
  rw [List.take_length]
  have e : l = l.take k ++ (l[k] :: l.drop (k + 1)) := by rw [← List.drop_eq_getElem_cons hk, List.take_append_drop]
  have h2 : l.flatMap compB = (l.take k ++ (l[k] :: l.drop (k + 1))).flatMap compB := by rw [← e]
  rw [h2, List.flatMap_append, List.flatMap_cons]
theorem byte_is {l : List UInt8} {k : Nat} {z : Int} (h : k < l.length) (hp : pieceOf l k 1 = leB (word z) 1) (hz : 0 ≤ z) (hi : z < 256) : bytC l k = z := by
  rw [← getZ_b1 h]
  exact getZ_is wT1 (by omega) hp hz (by rw [show (256 : Int) ^ 1 = 256 from by decide]; exact hi) (by omega)
theorem compAt_put {H : List UInt8} {l : List Cp} (hH : H.length = 17) (hn : ∀ x ∈ l, x.nm.size ≤ 65535 ∧ 0 ≤ x.sz ∧ x.sz < 256) :
    ∀ k, k ≤ l.length → compAt (H ++ compsB l l.length) k = some (17 + (compsB l k).length, l.take k)
  | 0, _ => by
    show some (17, []) = _
    rfl
  | k + 1, hk => by
    have ih := compAt_put hH hn k (by omega)
    have hk2 : k < l.length := by omega
    obtain ⟨h1, h2, h3⟩ := hn _ (List.getElem_mem hk2)
    have hx := List.getElem?_eq_getElem hk2
    have htk : l.take (k + 1) = l.take k ++ [l[k]] := by rw [List.take_add_one, hx]; rfl
    have hck : compsB l (k + 1) = compsB l k ++ compB l[k] := by
      unfold compsB
      rw [htk, List.flatMap_append, List.flatMap_cons, List.flatMap_nil, List.append_nil]
    generalize hR : (l.drop (k + 1)).flatMap compB = R
    have hb : H ++ compsB l l.length = (H ++ compsB l k) ++ (compB l[k] ++ R) := by rw [comps_split l hk2, hR, List.append_assoc]
    have hfit : compB l[k] = leB (word (l[k].nm.size : Nat)) 2 ++ (sb l[k].nm ++ leB (word l[k].sz) 1) := by
      unfold compB
      rw [textB_fit _ (by rw [sb_len]; exact h1), sb_len, List.append_assoc]
    have hcl : (compB l[k]).length = 3 + l[k].nm.size := by rw [hfit]; simp only [List.length_append, leB_len, sb_len]; omega
    obtain ⟨a, ha⟩ : ∃ a, a = 17 + (compsB l k).length := ⟨_, rfl⟩
    have hal : (H ++ compsB l k).length = a := by rw [List.length_append, hH, ha]
    have hbl : (H ++ compsB l l.length).length = a + (3 + l[k].nm.size + R.length) := by rw [hb, List.length_append, hal, List.length_append, hcl]
    have hp : ∀ o m, pieceOf (H ++ compsB l l.length) (a + o) m = pieceOf (compB l[k] ++ R) o m := fun o m => by rw [hb]; exact pskip _ _ (by rw [hal])
    have p1 : pieceOf (H ++ compsB l l.length) a 2 = leB (word (l[k].nm.size : Nat)) 2 := by
      have := hp 0 2
      rw [Nat.add_zero] at this
      rw [this, hfit, List.append_assoc]
      exact phere _ _ (by rw [leB_len])
    have p2 : pieceOf (H ++ compsB l l.length) (a + 2) l[k].nm.size = sb l[k].nm := by
      rw [hp, hfit, List.append_assoc, pskip (k := 0) _ _ (by rw [leB_len]), List.append_assoc]
      exact phere _ _ (by rw [sb_len])
    have p3 : pieceOf (H ++ compsB l l.length) (a + 2 + l[k].nm.size) 1 = leB (word l[k].sz) 1 := by
      rw [Nat.add_assoc, hp, hfit, List.append_assoc, pskip (k := l[k].nm.size) _ _ (by rw [leB_len]), List.append_assoc, pskip (k := 0) _ _ (by rw [sb_len]; omega)]
      exact phere _ _ (by rw [leB_len])
    generalize hB : H ++ compsB l l.length = b at *
    have hlen : lenAt b a = l[k].nm.size := by
      unfold lenAt
      rw [getZ_is wT2 (by omega) p1 (by omega) (by rw [show (256 : Int) ^ 2 = 65536 from by decide]; omega) (by omega)]
      omega
    have hok : okC b a := by
      unfold okC
      rw [hlen]
      omega
    have hcp : cpAt b a = l[k] := by
      unfold cpAt
      rw [hlen, p2, byte_is (by omega) p3 h2 h3]
      rfl
    show nextC b (compAt b k) = _
    rw [ih, ← ha]
    simp only [nextC]
    rw [if_pos hok, hcp, hlen, htk, hck, List.length_append, hcl]
    congr 2
    omega
theorem getF_confB {c : Cf} (h : rightB c = true) : getF (confB c) = (c, 0) := by
  have hr := of_decide_eq_true h
  obtain ⟨⟨⟨l1, l2⟩, ⟨l3, l4⟩, ⟨l5, l6⟩, ⟨l7, l8⟩, l9⟩, ht⟩ := hr
  have hn : ∀ x ∈ c.l, x.nm.size ≤ 65535 ∧ 0 ≤ x.sz ∧ x.sz < 256 := fun x hx => by
    obtain ⟨i, hi, rfl⟩ := List.getElem_of_mem hx
    obtain ⟨-, h2, h3, h4⟩ := ht i hi
    have hx := List.getElem?_eq_getElem hi
    rw [nmAt_of hx] at h2
    rw [szAt_of hx] at h3 h4
    have h5 := of_decide_eq_true h2
    exact ⟨by omega, h3, by omega⟩
  obtain ⟨H, hH⟩ : ∃ H, H = numsB c 4 ++ leB (word (c.l.length : Nat)) 1 := ⟨_, rfl⟩
  have hN : numsB c 4 = leB (word c.log) 4 ++ (leB (word c.pages) 4 ++ (leB (word c.ents) 4 ++ leB (word c.gens) 4)) := by
    show leB (word c.log) 4 ++ (leB (word c.pages) 4 ++ (leB (word c.ents) 4 ++ (leB (word c.gens) 4 ++ []))) = _
    rw [List.append_nil]
  have hHl : H.length = 17 := by rw [hH, hN]; simp only [List.length_append, leB_len]
  have hb : confB c = H ++ compsB c.l c.l.length := by rw [hH]; rfl
  have hA := compAt_put hHl hn c.l.length (Nat.le_refl _)
  rw [List.take_length] at hA
  have hp : ∀ o m, o + m ≤ 17 → pieceOf (H ++ compsB c.l c.l.length) o m = pieceOf H o m := fun o m ho => by
    unfold pieceOf
    rw [List.drop_append_of_le_length (by omega), List.take_append_of_le_length (by rw [List.length_drop]; omega)]
  have q0 : pieceOf (H ++ compsB c.l c.l.length) 0 4 = leB (word c.log) 4 := by
    rw [hp 0 4 (by omega), hH, hN, List.append_assoc]
    exact phere _ _ (by rw [leB_len])
  have q1 : pieceOf (H ++ compsB c.l c.l.length) 4 4 = leB (word c.pages) 4 := by
    rw [hp 4 4 (by omega), hH, hN, List.append_assoc, pskip (k := 0) _ _ (by rw [leB_len]), List.append_assoc]
    exact phere _ _ (by rw [leB_len])
  have q2 : pieceOf (H ++ compsB c.l c.l.length) 8 4 = leB (word c.ents) 4 := by
    rw [hp 8 4 (by omega), hH, hN, List.append_assoc, pskip (k := 4) _ _ (by rw [leB_len]), List.append_assoc, pskip (k := 0) _ _ (by rw [leB_len]), List.append_assoc]
    exact phere _ _ (by rw [leB_len])
  have q3 : pieceOf (H ++ compsB c.l c.l.length) 12 4 = leB (word c.gens) 4 := by
    rw [hp 12 4 (by omega), hH, hN, List.append_assoc, pskip (k := 8) _ _ (by rw [leB_len]), List.append_assoc, pskip (k := 4) _ _ (by rw [leB_len]), List.append_assoc, pskip (k := 0) _ _ (by rw [leB_len])]
    exact phere _ _ (by rw [leB_len])
  have q4 : pieceOf (H ++ compsB c.l c.l.length) 16 1 = leB (word (c.l.length : Nat)) 1 := by
    rw [hp 16 1 (by omega), hH, pskip (k := 0) _ _ (by rw [hN]; simp only [List.length_append, leB_len])]
    have := phere (leB (word (c.l.length : Nat)) 1) [] (m := 1) (by rw [leB_len])
    rwa [List.append_nil] at this
  have hbl : (H ++ compsB c.l c.l.length).length = 17 + (compsB c.l c.l.length).length := by rw [List.length_append, hHl]
  rw [hb]
  generalize H ++ compsB c.l c.l.length = b at *
  have e4 : (256 : Int) ^ 4 = 4294967296 := by decide
  have z0 := getZ_is (k := 0) wT4 (by omega) q0 (by omega) (by rw [e4]; omega) (by omega)
  have z1 := getZ_is (k := 4) wT4 (by omega) q1 (by omega) (by rw [e4]; omega) (by omega)
  have z2 := getZ_is (k := 8) wT4 (by omega) q2 (by omega) (by rw [e4]; omega) (by omega)
  have z3 := getZ_is (k := 12) wT4 (by omega) q3 (by omega) (by rw [e4]; omega) (by omega)
  have z4 := byte_is (k := 16) (by omega) q4 (by omega) (by omega)
  have hc : hdrF b c.l = c := by
    unfold hdrF
    rw [z0, z1, z2, z3]
  unfold getF
  rw [if_neg (by omega), z4, Int.toNat_natCast, hA]
  simp only
  rw [if_neg (fun hh => hh hbl.symm), hc, if_neg (by rw [h]; decide)]
end Go.Proofs.YtglliendhbkkhaaDoor

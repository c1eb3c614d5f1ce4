/- Plain law: what script.Get reads of bytes that script.Put made. -/
import Derived.Test.YthkgchlndfcmpaaScrE
import Derived.Test.YthkgchlndfcmpaaScrArg
namespace Go.Proofs.Ythkgchlndfcmpaa
open Go.RowKit
set_option maxRecDepth 100000
set_option linter.unusedVariables false

theorem refL_post {x : Cmd} (post : List UInt8) (hk : knownC x.do_ = true) (hl : x.l.length ≤ 64) (hr : rngC x) : refL (bytesC x ++ post) = (plainC x, (((bytesC x).length : Nat) : Int), 0) := by
  obtain ⟨d, loc, idx, gen, comp, q⟩ := x
  obtain ⟨-, r1, r2, r3⟩ := hr
  simp only at hk hl r1 r2 r3
  have hd4 : d = 0 ∨ (d = 1 ∨ d = 2 ∨ d = 3) := by
    have : 0 ≤ d ∧ d ≤ 3 := of_decide_eq_true hk
    omega
  rcases hd4 with rfl | hd
  · have e : bytesC ⟨0, loc, idx, gen, comp, q⟩ = [0] := by
      show leB (word 0) 1 ++ [] = _
      rw [List.append_nil]; rfl
    rw [e]
    show refL (0 :: post) = _
    unfold refL
    rw [if_neg (by simp), show byteZ (0 :: post) 0 = 0 from rfl, if_neg (by decide), if_pos rfl]
    rfl
  rw [plainC_of hd]
  have T : ∃ t : List UInt8, bytesC ⟨d, loc, idx, gen, comp, q⟩ = headC d loc idx gen ++ t ∧ t = (if d = 1 then [] else leB (word comp) 8 ++ (if d = 2 then leB (word (q.length : Nat)) 2 ++ q else [])) := by
    refine ⟨_, ?_, rfl⟩
    rcases hd with rfl | rfl | rfl
    · rw [bytesC_1 _ rfl, if_pos rfl, List.append_nil]
    · rw [bytesC_2 _ rfl]; rfl
    · rw [bytesC_3 _ rfl, if_neg (by decide), if_neg (by decide), List.append_nil]
  obtain ⟨t, eT, ht⟩ := T
  rw [eT, List.append_assoc]
  have hlen0 : (headC d loc idx gen ++ t).length = e0R loc + t.length := head_len
  have hlen : (headC d loc idx gen ++ (t ++ post)).length = e0R loc + (t.length + post.length) := by rw [head_len, List.length_append]
  have hb0 : byteZ (headC d loc idx gen ++ (t ++ post)) 0 = d := head_b0 hd
  have hb1 : byteZ (headC d loc idx gen ++ (t ++ post)) 1 = if loc then 1 else 0 := head_b1 hd
  have hi : getZ (headC d loc idx gen ++ (t ++ post)) 2 8 = idx := head_idx hd r1
  have hg : genR (headC d loc idx gen ++ (t ++ post)) loc = if loc then 0 else gen := head_gen hd r2
  have hs := fun k m => head_skip (d := d) (loc := loc) (idx := idx) (gen := gen) (t := t ++ post) k m
  have h0 : 10 ≤ e0R loc := by cases loc <;> decide
  rw [hlen0]
  generalize headC d loc idx gen ++ (t ++ post) = L at *
  have hloc : decide (byteZ L 1 = 1) = loc := by rw [hb1]; cases loc <;> rfl
  unfold refL
  rw [if_neg (by omega), hb0, if_neg (by omega), if_neg (by omega), if_neg (by omega), if_neg (by rw [hb1]; cases loc <;> decide), hloc]
  clear hb0 hb1 hloc hk hlen0
  have hc : 8 ≤ t.length → pieceOf (t ++ post) 0 8 = leB (word comp) 8 → getZ L (e0R loc) 8 = comp := fun h1 h2 => getZ_of (by omega) (by rw [← h2]; exact hs 0 8) r3.1 r3.2
  rcases hd with rfl | rfl | rfl
  · rw [if_pos rfl] at ht
    subst ht
    have e : refRest L 1 loc = if (L.length : Int) < e0R loc then (zeroC, 0, 12) else (⟨1, loc, getZ L 2 8, genR L loc, 0, []⟩, ((e0R loc : Nat) : Int), 0) := rfl
    rw [e, hlen, if_neg (by simp; omega), hi, hg]
    rfl
  · have ht2 : t = leB (word comp) 8 ++ (leB (word (q.length : Nat)) 2 ++ q) := ht
    have htl : t.length = 10 + q.length := by rw [ht2]; simp [leB_len]; omega
    have hc1 := hc (by omega) (by rw [ht2, List.append_assoc]; exact List.take_left' (leB_len _ _))
    have hn : getZ L (e0R loc + 8 : Nat) 2 = (q.length : Nat) := getZ2_of (by omega) (by
      rw [hs 8 2, ht2, List.append_assoc, List.append_assoc, piece_skip (k := 0) _ _ (by rw [leB_len])]
      exact List.take_left' (leB_len _ _)) (by omega)
    have hq : (L.drop (e0R loc + 10)).take q.length = q := by
      have := hs 10 q.length
      unfold pieceOf at this
      rw [this, ht2, List.append_assoc, List.append_assoc]
      rw [show (10 : Nat) = 8 + 2 from rfl, ← List.drop_drop, List.drop_left' (leB_len _ _), List.drop_left' (leB_len _ _), List.take_left' rfl]
    have e : refRest L 2 loc = if getOk L (e0R loc + 8 : Nat) 2 = true ∧ 64 < getZ L (e0R loc + 8 : Nat) 2 then (zeroC, 0, 13)
      else if (L.length : Int) < (e0R loc + 10 : Nat) + getZ L (e0R loc + 8 : Nat) 2 then (zeroC, 0, 12)
      else (⟨2, loc, getZ L 2 8, genR L loc, getZ L (e0R loc) 8, (L.drop (e0R loc + 10)).take (getZ L (e0R loc + 8 : Nat) 2).toNat⟩, (e0R loc + 10 : Nat) + getZ L (e0R loc + 8 : Nat) 2, 0) := rfl
    rw [e, hn, if_neg (by omega), if_neg (by omega), hi, hg, hc1, Int.toNat_natCast, hq]
    have e2 : ((e0R loc + 10 : Nat) : Int) + (q.length : Nat) = ((e0R loc + t.length : Nat) : Int) := by omega
    rw [e2]
    rfl
  · have ht2 : t = leB (word comp) 8 := by rw [ht, if_neg (by decide), if_neg (by decide), List.append_nil]
    have htl : t.length = 8 := by rw [ht2, leB_len]
    have hc1 := hc (by omega) (by rw [ht2]; exact List.take_left' (leB_len _ _))
    have e : refRest L 3 loc = if (L.length : Int) < (e0R loc + 8 : Nat) then (zeroC, 0, 12) else (⟨3, loc, getZ L 2 8, genR L loc, getZ L (e0R loc) 8, []⟩, ((e0R loc + 8 : Nat) : Int), 0) := rfl
    rw [e, if_neg (by omega), hi, hg, hc1, htl]
    rfl
theorem refP_post {b : List UInt8} {x : Cmd} (post : List UInt8) (hk : knownC x.do_ = true) (hl : x.l.length ≤ 64) (hr : rngC x) : refP (b ++ (bytesC x ++ post)) (b.length : Nat) = (plainC x, (((b ++ bytesC x).length : Nat) : Int), 0) := by
  unfold refP
  rw [if_neg (by rw [List.length_append]; omega), Int.toNat_natCast, List.drop_left' rfl, refL_post post hk hl hr, if_neg (fun h => h rfl)]
  show (plainC x, (b.length : Int) + ((bytesC x).length : Nat), (0 : Int)) = _
  rw [List.length_append]
  have : (b.length : Int) + ((bytesC x).length : Nat) = ((b.length + (bytesC x).length : Nat) : Int) := by omega
  rw [this]
theorem numR_here {l : List UInt8} {k : Nat} {width : Int} (h : k + wideN width ≤ l.length) : numR l k false width = (getZ l k width, k + wideN width, false) := by
  unfold numR
  rw [if_neg (by simp), if_pos (getOk_yes h)]
/-- A number of eight bytes that was laid. -/
theorem num8_of (pre post : List UInt8) {z : Int} (hz : inOk z) : numR (pre ++ (leB (word z) 8 ++ post)) pre.length false 8 = (z, pre.length + 8, false) := by
  have h := wf_i64 hz
  have hl : pre.length + 8 ≤ (pre ++ (leB (word z) 8 ++ post)).length := by rw [List.length_append, List.length_append, leB_len]; omega
  rw [numR_here (by rw [show wideN 8 = 8 from rfl]; exact hl), getZ_of hl (by rw [piece_skip (k := 0) _ _ (by omega)]; exact List.take_left' (leB_len _ _)) h.1 h.2]
  rfl
theorem num2_of (pre post : List UInt8) {n : Nat} (hn : n ≤ 65535) : numR (pre ++ (leB (word (n : Nat)) 2 ++ post)) pre.length false 2 = ((n : Int), pre.length + 2, false) := by
  have hl : pre.length + 2 ≤ (pre ++ (leB (word (n : Nat)) 2 ++ post)).length := by rw [List.length_append, List.length_append, leB_len]; omega
  rw [numR_here (by rw [show wideN 2 = 2 from rfl]; exact hl), getZ2_of hl (by rw [piece_skip (k := 0) _ _ (by omega)]; exact List.take_left' (leB_len _ _)) hn]
  rfl
theorem fa_law : ∀ (fa : List Fa) (pre post : List UInt8), (∀ f ∈ fa, faOk f) → faR (pre ++ (fa.flatMap fateB ++ post)) fa.length pre.length false = (fa, pre.length + fa.length * 16, false)
  | [], pre, post, _ => rfl
  | f :: fa, pre, post, h => by
    have hf := h f (List.mem_cons_self ..)
    have e0 : pre ++ ((f :: fa).flatMap fateB ++ post) = pre ++ (leB (word f.kept) 8 ++ (leB (word f.torn) 8 ++ (fa.flatMap fateB ++ post))) := by
      rw [List.flatMap_cons]; unfold fateB; simp only [List.append_assoc]
    have e1 : pre ++ (leB (word f.kept) 8 ++ (leB (word f.torn) 8 ++ (fa.flatMap fateB ++ post))) = (pre ++ leB (word f.kept) 8) ++ (leB (word f.torn) 8 ++ (fa.flatMap fateB ++ post)) := by simp only [List.append_assoc]
    have e2 : pre ++ (leB (word f.kept) 8 ++ (leB (word f.torn) 8 ++ (fa.flatMap fateB ++ post))) = ((pre ++ leB (word f.kept) 8) ++ leB (word f.torn) 8) ++ (fa.flatMap fateB ++ post) := by simp only [List.append_assoc]
    have n1 := num8_of pre (leB (word f.torn) 8 ++ (fa.flatMap fateB ++ post)) hf.1
    have n2 := num8_of (pre ++ leB (word f.kept) 8) (fa.flatMap fateB ++ post) hf.2
    have n3 := fa_law fa ((pre ++ leB (word f.kept) 8) ++ leB (word f.torn) 8) post (fun g hg => h g (List.mem_cons_of_mem _ hg))
    rw [← e1] at n2
    rw [← e2] at n3
    simp only [List.length_append, leB_len] at n2 n3
    rw [e0, List.length_cons, faR, if_neg (by decide), n1]
    simp only [n2, n3]
    rw [show pre.length + 8 + 8 + fa.length * 16 = pre.length + (fa.length + 1) * 16 by omega]
theorem fu_law : ∀ (fu : List Int) (pre post : List UInt8), (∀ z ∈ fu, inOk z) → fuR (pre ++ (fu.flatMap fuseB ++ post)) fu.length pre.length false = (fu, pre.length + fu.length * 8, false)
  | [], pre, post, _ => rfl
  | z :: fu, pre, post, h => by
    have hz := h z (List.mem_cons_self ..)
    have e0 : pre ++ ((z :: fu).flatMap fuseB ++ post) = pre ++ (leB (word z) 8 ++ (fu.flatMap fuseB ++ post)) := by
      rw [List.flatMap_cons]; unfold fuseB; simp only [List.append_assoc]
    have e1 : pre ++ (leB (word z) 8 ++ (fu.flatMap fuseB ++ post)) = (pre ++ leB (word z) 8) ++ (fu.flatMap fuseB ++ post) := by simp only [List.append_assoc]
    have n1 := num8_of pre (fu.flatMap fuseB ++ post) hz
    have n3 := fu_law fu (pre ++ leB (word z) 8) post (fun g hg => h g (List.mem_cons_of_mem _ hg))
    rw [← e1] at n3
    simp only [List.length_append, leB_len] at n3
    rw [e0, List.length_cons, fuR, if_neg (by decide), n1]
    simp only [n3]
    rw [show pre.length + 8 + fu.length * 8 = pre.length + (fu.length + 1) * 8 by omega]
theorem fatesB_all (fa : List Fa) : fatesB fa fa.length = fa.flatMap fateB := by unfold fatesB; rw [List.take_length]
theorem fusesB_all (fu : List Int) : fusesB fu fu.length = fu.flatMap fuseB := by unfold fusesB; rw [List.take_length]
theorem flat_fa_len (fa : List Fa) : (fa.flatMap fateB).length = fa.length * 16 := by
  induction fa with
  | nil => rfl
  | cons x l ih => rw [List.flatMap_cons, List.length_append, ih, List.length_cons]; unfold fateB; rw [List.length_append, leB_len, leB_len]; omega
theorem flat_fu_len (fu : List Int) : (fu.flatMap fuseB).length = fu.length * 8 := by
  induction fu with
  | nil => rfl
  | cons x l ih => rw [List.flatMap_cons, List.length_append, ih, List.length_cons]; unfold fuseB; rw [leB_len]; omega
theorem crash_law (fa : List Fa) (fu : List Int) (post : List UInt8) (h1 : fa.length ≤ 65535) (h2 : fu.length ≤ 65535) (hfa : ∀ f ∈ fa, faOk f) (hfu : ∀ z ∈ fu, inOk z) :
    crashR ((((leB (word (fa.length : Nat)) 2 ++ fa.flatMap fateB) ++ leB (word (fu.length : Nat)) 2) ++ fu.flatMap fuseB) ++ post) 0 false = (fa, fu, 2 + fa.length * 16 + 2 + fu.length * 8, false) := by
  generalize hl : (((leB (word (fa.length : Nat)) 2 ++ fa.flatMap fateB) ++ leB (word (fu.length : Nat)) 2) ++ fu.flatMap fuseB) ++ post = l
  have n1 := num2_of [] (fa.flatMap fateB ++ (leB (word (fu.length : Nat)) 2 ++ (fu.flatMap fuseB ++ post))) h1
  have n2 := fa_law fa (leB (word (fa.length : Nat)) 2) (leB (word (fu.length : Nat)) 2 ++ (fu.flatMap fuseB ++ post)) hfa
  have n3 := num2_of (leB (word (fa.length : Nat)) 2 ++ fa.flatMap fateB) (fu.flatMap fuseB ++ post) h2
  have n4 := fu_law fu ((leB (word (fa.length : Nat)) 2 ++ fa.flatMap fateB) ++ leB (word (fu.length : Nat)) 2) post hfu
  simp only [List.append_assoc, List.nil_append] at hl n1 n2 n3 n4
  rw [hl] at n1 n2 n3 n4
  simp only [List.length_append, List.length_nil, leB_len, flat_fa_len, Nat.zero_add] at n1 n2 n3 n4
  rw [show 2 + (fa.length * 16 + 2) = 2 + fa.length * 16 + 2 by omega] at n4
  unfold crashR
  simp only [n1, n2, n3, n4, Int.toNat_natCast]
theorem leB1 {d : Int} (h0 : 0 ≤ d) (h6 : d ≤ 6) : leB (word d) 1 = [UInt8.ofNat d.toNat] := by
  obtain ⟨k, rfl⟩ := Int.eq_ofNat_of_zero_le h0
  have : k = 0 ∨ k = 1 ∨ k = 2 ∨ k = 3 ∨ k = 4 ∨ k = 5 ∨ k = 6 := by omega
  rcases this with rfl | rfl | rfl | rfl | rfl | rfl | rfl <;> rfl
theorem byteA_here (pre post : List UInt8) {d : Int} (h0 : 0 ≤ d) (h6 : d ≤ 6) : byteA (pre ++ (leB (word d) 1 ++ post)) pre.length = d := by
  rw [leB1 h0 h6]
  unfold byteA
  rw [List.getD_eq_getElem?_getD, List.getElem?_append_right (Nat.le_refl _), Nat.sub_self]
  obtain ⟨k, rfl⟩ := Int.eq_ofNat_of_zero_le h0
  have : k = 0 ∨ k = 1 ∨ k = 2 ∨ k = 3 ∨ k = 4 ∨ k = 5 ∨ k = 6 := by omega
  rcases this with rfl | rfl | rfl | rfl | rfl | rfl | rfl <;> rfl
theorem right_of {x : Ac} (h : rightA x = true) : (0 ≤ x.do_ ∧ x.do_ ≤ 6) ∧ (x.fa.length ≤ 65535 ∧ x.fu.length ≤ 65535) ∧ (x.do_ = 0 → knownC x.c.do_ = true ∧ x.c.l.length ≤ 64) := by
  unfold rightA at h
  rw [Bool.and_eq_true, Bool.or_eq_true, Bool.and_eq_true] at h
  obtain ⟨h1, h2⟩ := h
  have h1 := of_decide_eq_true h1
  refine ⟨h1.1, h1.2, fun h0 => ?_⟩
  rcases h2 with h2 | h2
  · exact absurd h0 (of_decide_eq_true h2)
  · exact ⟨h2.1, of_decide_eq_true h2.2⟩
theorem restA_5 (t : List UInt8) : restA t 5 = (⟨5, zeroCm, 0, 0, (numR t 0 false 8).1, [], []⟩, (numR t 0 false 8).2) := rfl
theorem restA_6 (t : List UInt8) : restA t 6 = (⟨6, zeroCm, 0, 0, 0, (crashR t 0 false).1, (crashR t 0 false).2.1⟩, (crashR t 0 false).2.2) := rfl
/-- What is read of an act's bytes, wherever they stand. -/
theorem oneP_law (x : Ac) (pre post : List UInt8) (h : rightA x = true) (hr : rngA x) : oneP (pre ++ (oneB x ++ post)) pre.length = (plainA x, ((pre.length + (oneB x).length : Nat) : Int), 0) := by
  obtain ⟨⟨h0, h6⟩, ⟨hf, hu⟩, hc⟩ := right_of h
  obtain ⟨r0, rc, rr, rfr, rn, rfa, rfu⟩ := hr
  have e : pre ++ (oneB x ++ post) = pre ++ (leB (word x.do_) 1 ++ (tailA x ++ post)) := by unfold oneB; rw [List.append_assoc]
  have hb : byteA (pre ++ (oneB x ++ post)) pre.length = x.do_ := by rw [e]; exact byteA_here _ _ h0 h6
  have hd : (pre ++ (oneB x ++ post)).drop (pre.length + 1) = tailA x ++ post := by
    rw [e, ← List.drop_drop, List.drop_left' rfl, List.drop_left' (leB_len _ _)]
  have hl : (pre ++ (oneB x ++ post)).length = pre.length + (1 + (tailA x).length) + post.length := by rw [e]; simp only [List.length_append, leB_len]; omega
  have hol : (oneB x).length = 1 + (tailA x).length := by unfold oneB; rw [List.length_append, leB_len]
  unfold oneP
  rw [hb, if_neg (by omega), hd, hl, hol]
  by_cases c0 : x.do_ = 0
  · have ta : tailA x = bytesC x.c := by rw [tailA_eq, if_pos c0]
    have e2 : pre ++ (oneB x ++ post) = (pre ++ leB (word x.do_) 1) ++ (bytesC x.c ++ post) := by rw [e, ta]; simp only [List.append_assoc]
    have := refP_post (b := pre ++ leB (word x.do_) 1) post (hc c0).1 (hc c0).2 ⟨wf_i64 rc.1, wf_i64 rc.2.1, wf_i64 rc.2.2.1, wf_i64 rc.2.2.2⟩
    rw [← e2] at this
    simp only [List.length_append, leB_len] at this
    rw [if_pos c0, getP_refP]
    simp only [this]
    rw [plainA_0 c0, ta, show pre.length + 1 + (bytesC x.c).length = pre.length + (1 + (bytesC x.c).length) by omega]
  rw [if_neg c0]
  by_cases c4 : x.do_ = 4
  · have ta : tailA x = leB (word x.room) 8 ++ leB (word x.frames) 8 := by rw [tailA_eq, if_neg c0, if_pos c4]
    have n1 := num8_of [] (leB (word x.frames) 8 ++ post) rr
    have n2 := num8_of (leB (word x.room) 8) post rfr
    simp only [List.nil_append, List.length_nil, Nat.zero_add, leB_len] at n1 n2
    rw [ta, List.append_assoc, c4, restA, if_pos rfl]
    simp only [n1, n2]
    rw [if_neg (by decide), plainA_4 c4]
    simp only [List.length_append, leB_len]
    refine Prod.ext rfl (Prod.ext ?_ rfl)
    simp only
    omega
  by_cases c5 : x.do_ = 5
  · have ta : tailA x = leB (word x.n) 8 := by rw [tailA_eq, if_neg c0, if_neg c4, if_pos c5]
    have n1 := num8_of [] post rn
    simp only [List.nil_append, List.length_nil, Nat.zero_add] at n1
    rw [ta, c5, restA_5]
    simp only [n1]
    rw [if_neg (by decide), plainA_5 c5]
    simp only [List.length_append, leB_len]
    refine Prod.ext rfl (Prod.ext ?_ rfl)
    simp only
    omega
  by_cases c6 : x.do_ = 6
  · have ta : tailA x = ((leB (word (x.fa.length : Nat)) 2 ++ x.fa.flatMap fateB) ++ leB (word (x.fu.length : Nat)) 2) ++ x.fu.flatMap fuseB := by rw [tailA_eq, if_neg c0, if_neg c4, if_neg c5, if_pos c6, fatesB_all, fusesB_all]
    have cr := crash_law x.fa x.fu post hf hu rfa rfu
    rw [← ta] at cr
    have tl : (tailA x).length = 2 + x.fa.length * 16 + 2 + x.fu.length * 8 := by rw [ta]; simp only [List.length_append, leB_len, flat_fa_len, flat_fu_len]
    rw [c6, restA_6]
    simp only [cr]
    rw [if_neg (by decide), plainA_6 c6]
    simp only [List.length_append, tl]
    refine Prod.ext rfl (Prod.ext ?_ rfl)
    simp only
    omega
  · have ta : tailA x = [] := by rw [tailA_eq, if_neg c0, if_neg c4, if_neg c5, if_neg c6]
    rw [ta, restA, if_neg c4, if_neg c5, if_neg c6]
    simp only
    rw [if_neg (by decide), plainA_o c0 c4 c5 c6]
    simp only [List.length_append, List.length_nil]
    refine Prod.ext rfl (Prod.ext ?_ rfl)
    simp only
    omega
def gB (x : Ac) : List UInt8 := if rightA x = true then oneB x else []
theorem gets_law : ∀ (l : List Ac) (pre : List UInt8) (acc : List Ac) (f : Nat), (∀ x ∈ l, rngA x) → (l.filter rightA).length < f →
    getsP (pre ++ l.flatMap gB) f (pre.length : Nat) acc = (acc ++ (l.filter rightA).map plainA, 0)
  | [], pre, acc, f, _, hf => by
    obtain ⟨f, rfl⟩ : ∃ g, f = g + 1 := ⟨f - 1, by simp at hf; omega⟩
    rw [getsP, if_pos (by simp)]
    simp
  | x :: l, pre, acc, f, hr, hf => by
    have ih := fun p a g => gets_law l p a g (fun y hy => hr y (List.mem_cons_of_mem _ hy))
    by_cases hx : rightA x = true
    · rw [List.filter_cons_of_pos hx, List.length_cons] at hf
      obtain ⟨f, rfl⟩ : ∃ g, f = g + 1 := ⟨f - 1, by omega⟩
      have e : pre ++ (x :: l).flatMap gB = pre ++ (oneB x ++ l.flatMap gB) := by rw [List.flatMap_cons]; unfold gB; rw [if_pos hx]
      have ol : 0 < (oneB x).length := by unfold oneB; rw [List.length_append, leB_len]; omega
      rw [e, getsP, if_neg (by rw [List.length_append, List.length_append]; omega), Int.toNat_natCast, oneP_law x pre _ hx (hr x (List.mem_cons_self ..)), if_neg (by simp)]
      have := ih (pre ++ oneB x) (acc ++ [plainA x]) f (by omega)
      rw [List.append_assoc, List.length_append] at this
      simp only
      rw [this, List.filter_cons_of_pos hx, List.map_cons, List.append_assoc]
      rfl
    · have e : (x :: l).flatMap gB = l.flatMap gB := by rw [List.flatMap_cons]; unfold gB; rw [if_neg hx]; rfl
      rw [List.filter_cons_of_neg hx] at hf ⊢
      rw [e]
      exact ih pre acc f hf
theorem putsB_all (l : List Ac) : putsB l l.length = l.flatMap gB := by unfold putsB; rw [List.take_length]; rfl
theorem right_len (l : List Ac) : (l.filter rightA).length ≤ (l.flatMap gB).length := by
  induction l with
  | nil => exact Nat.le_refl _
  | cons x l ih =>
    rw [List.flatMap_cons, List.length_append]
    by_cases hx : rightA x = true
    · rw [List.filter_cons_of_pos hx, List.length_cons]
      have : 0 < (gB x).length := by unfold gB oneB; rw [if_pos hx, List.length_append, leB_len]; omega
      omega
    · rw [List.filter_cons_of_neg hx]; omega
/-- A script's bytes, read. -/
theorem gets_puts (l : List Ac) (hr : ∀ x ∈ l, rngA x) : getsP (putsB l l.length) ((putsB l l.length).length + 1) 0 [] = ((l.filter rightA).map plainA, 0) := by
  rw [putsB_all]
  have := gets_law l [] [] ((l.flatMap gB).length + 1) hr (by have := right_len l; omega)
  simpa using this
end Go.Proofs.Ythkgchlndfcmpaa

/- Plain law: frames as bytes, there and back. No program in sight. -/
import Derived.Test.YthkgchlndfcmpaaFrm3
import Derived.Test.YthkgchlndfcmpaaCmdW
import Derived.Test.YthkgchlndfcmpaaRefPost
namespace Go.Proofs.Ythkgchlndfcmpaa
open Go.RowKit
set_option maxRecDepth 100000
set_option linter.unusedVariables false

theorem refL_knownC {l : List UInt8} (h : (refL l).2.2 = 0) : knownC (refL l).1.do_ = true := by
  have b0 := byteZ_bd l 0
  unfold refL at h ⊢
  by_cases h0 : l.length = 0
  · rw [if_pos h0] at h; cases h
  rw [if_neg h0] at h ⊢
  by_cases h3 : 3 < byteZ l 0
  · rw [if_pos h3] at h; cases h
  rw [if_neg h3] at h ⊢
  by_cases hz : byteZ l 0 = 0
  · rw [if_pos hz]; rfl
  rw [if_neg hz] at h ⊢
  by_cases h1 : l.length = 1
  · rw [if_pos h1] at h; cases h
  rw [if_neg h1] at h ⊢
  by_cases h4 : 1 < byteZ l 1
  · rw [if_pos h4] at h; cases h
  rw [if_neg h4] at h ⊢
  generalize decide (byteZ l 1 = 1) = loc at *
  unfold refRest at h ⊢
  (repeat' split at h) <;> first | (cases h; done) | skip
  all_goals (repeat' split) <;> first | rfl | (exfalso; omega) | skip
  all_goals contradiction
theorem refP_known {b : List UInt8} {a : Int} (h : (refP b a).2.2 = 0) : checkC (refP b a).1 = 0 := by
  obtain ⟨_, _, _, _, h4⟩ := bytes_refP h
  have kn : knownC (refP b a).1.do_ = true := by
    unfold refP at h ⊢
    split at h
    · cases h
    rename_i hat
    rw [if_neg hat]
    split at h
    · rename_i h2; exact absurd h h2
    rename_i h2
    rw [if_neg h2]
    exact refL_knownC (Classical.not_not.1 h2)
  unfold checkC
  rw [if_neg (by rw [kn]; decide), if_neg (by omega)]
theorem readN_law (b : List UInt8) : ∀ (n a : Nat) (acc r : List Cmd) (j : Int), a ≤ b.length → readN b n (a : Nat) acc = (r, j, 0) →
    ∃ (l : List Cmd) (k : Nat), r = acc ++ l ∧ l.length = n ∧ j = k ∧ a ≤ k ∧ k ≤ b.length ∧ l.flatMap bytesC = pieceOf b a (k - a) ∧ ∀ x ∈ l, checkC x = 0
  | 0, a, acc, r, j, ha, h => by
    injection h with h1 h2
    injection h2 with h2 _
    exact ⟨[], a, by rw [List.append_nil, h1], rfl, h2.symm, Nat.le_refl _, ha, by rw [Nat.sub_self]; rfl, fun x hx => by simp at hx⟩
  | n + 1, a, acc, r, j, ha, h => by
    rw [readN] at h
    split at h
    · rename_i h2
      injection h with _ h
      injection h with _ h
      exact absurd h h2
    · rename_i h2
      have h0 := Classical.not_not.1 h2
      obtain ⟨k, e1, e2, e3⟩ := readN_next h0
      obtain ⟨_, _, _, e4, _⟩ := bytes_refP h0
      rw [e1] at h
      obtain ⟨l, k2, g1, g2, g3, g4, g5, g6, g7⟩ := readN_law b n k _ r j e3 h
      refine ⟨(refP b a).1 :: l, k2, by rw [g1, List.append_assoc]; rfl, by rw [List.length_cons, g2], g3, by omega, g5, ?_, fun x hx => ?_⟩
      · rw [List.flatMap_cons, g6, e4, e1, Int.toNat_natCast, show ((k : Int) - (a : Int)).toNat = k - a by omega, show k2 - a = (k - a) + (k2 - k) by omega, piece_join, show a + (k - a) = k by omega]
        rfl
      · rcases List.mem_cons.1 hx with rfl | hx
        · exact refP_known h0
        · exact g7 x hx
theorem firstE_of : ∀ {l : List Cmd}, (∀ x ∈ l, checkC x = 0) → firstE l = 0
  | [], _ => rfl
  | x :: l, h => by
    rw [firstE, if_neg (by rw [h x (List.mem_cons_self ..)]; simp)]
    exact firstE_of (fun y hy => h y (List.mem_cons_of_mem _ hy))
theorem checksF_of {l : List Cmd} (hl : l.length ≤ 64) (h : ∀ x ∈ l, checkC x = 0) : checksF l = 0 := by
  unfold checksF
  rw [if_neg (by omega)]
  exact firstE_of h
/-- What was got, put again. -/
theorem put_get (b : List UInt8) (h : (getFr b).2 = 0) : putF (getFr b).1 = (b, 0) := by
  unfold getFr at h ⊢
  by_cases h5 : b.length < 5
  · rw [if_pos h5] at h; cases h
  rw [if_neg h5] at h ⊢
  by_cases hs : leB (word (crcOf (inB b) : Nat)) 4 = b.drop (b.length - 4)
  case neg => rw [if_neg hs] at h; cases h
  rw [if_pos hs] at h ⊢
  by_cases h64 : 64 < byteZ (inB b) 0
  · rw [if_pos h64] at h; cases h
  rw [if_neg h64] at h ⊢
  have hb := byteZ_bd (inB b) 0
  obtain ⟨n, hn⟩ : ∃ n : Nat, byteZ (inB b) 0 = n := ⟨(byteZ (inB b) 0).toNat, by omega⟩
  have il : (inB b).length = b.length - 4 := by unfold inB; rw [List.length_take]; omega
  have hb1 : leB (word (byteZ (inB b) 0)) 1 = pieceOf (inB b) 0 1 := byte_wire (by omega)
  rw [hn, Int.toNat_natCast] at h ⊢
  rw [hn] at hb1
  obtain ⟨⟨r, j, e⟩, hr⟩ : ∃ x, x = readN (inB b) n 1 [] := ⟨_, rfl⟩
  rw [← hr] at h ⊢
  unfold endF at h ⊢
  simp only at h ⊢
  by_cases he : e = 0
  case neg => rw [if_pos he] at h; exact absurd h he
  subst he
  rw [if_neg (by simp)] at h ⊢
  by_cases hj : j = ((inB b).length : Nat)
  case neg => rw [if_neg hj] at h; cases h
  rw [if_pos hj]
  obtain ⟨l, k, g1, g2, g3, g4, g5, g6, g7⟩ := readN_law (inB b) n 1 [] r j (by omega) (by rw [show ((1 : Nat) : Int) = 1 from rfl, ← hr])
  have hk : k = (inB b).length := by omega
  rw [List.nil_append] at g1
  subst g1
  have c0 : checksF r = 0 := checksF_of (by omega) g7
  unfold putF
  rw [if_pos c0]
  have hf : fronB r r.length = inB b := by
    unfold fronB cmdsB
    rw [List.take_length, g6, g2, hb1, hk, ← piece_join, show 1 + ((inB b).length - 1) = (inB b).length by omega]
    unfold pieceOf
    rw [List.drop_zero, List.take_length]
  unfold frameB
  rw [hf, hs]
  unfold inB
  rw [List.take_append_drop]
theorem readN_put (b : List UInt8) : ∀ (l : List Cmd) (pre post : List UInt8) (acc : List Cmd), b = pre ++ (l.flatMap bytesC ++ post) → (∀ x ∈ l, (knownC x.do_ = true ∧ x.l.length ≤ 64) ∧ rngC x) →
    readN b l.length (pre.length : Nat) acc = (acc ++ l.map plainC, ((pre.length + (l.flatMap bytesC).length : Nat) : Int), 0)
  | [], pre, post, acc, hb, h => by simp [readN]
  | x :: l, pre, post, acc, hb, h => by
    obtain ⟨⟨h1, h2⟩, h3⟩ := h x (List.mem_cons_self ..)
    have e : b = pre ++ (bytesC x ++ (l.flatMap bytesC ++ post)) := by rw [hb, List.flatMap_cons, List.append_assoc]
    have hp := refP_post (b := pre) (l.flatMap bytesC ++ post) h1 h2 h3
    rw [← e] at hp
    have ih := readN_put b l (pre ++ bytesC x) post (acc ++ [plainC x]) (by rw [e, List.append_assoc]) (fun y hy => h y (List.mem_cons_of_mem _ hy))
    rw [List.length_cons, readN, hp, if_neg (by simp)]
    simp only
    rw [ih, List.map_cons, List.append_assoc, List.flatMap_cons, List.length_append, List.length_append, Nat.add_assoc]
    rfl
/-- What was put, got again. -/
theorem get_put (l : List Cmd) (hc : checksF l = 0) (hr : ∀ x ∈ l, rngC x) : getFr (frameB l) = (l.map plainC, 0) := by
  obtain ⟨h64, hall⟩ := checksF_0 hc
  have fl : (frameB l).length = (fronB l l.length).length + 4 := by unfold frameB; rw [List.length_append, leB_len]
  have f1 : (fronB l l.length).length = 1 + (l.flatMap bytesC).length := by unfold fronB cmdsB; rw [List.length_append, leB_len, List.take_length]
  have il : inB (frameB l) = fronB l l.length := by
    unfold inB
    rw [fl, show (fronB l l.length).length + 4 - 4 = (fronB l l.length).length by omega]
    unfold frameB
    exact List.take_left' rfl
  have hs : leB (word (crcOf (inB (frameB l)) : Nat)) 4 = (frameB l).drop ((frameB l).length - 4) := by
    rw [il, fl, show (fronB l l.length).length + 4 - 4 = (fronB l l.length).length by omega]
    unfold frameB
    rw [List.drop_left' rfl]
  have hby : byteZ (fronB l l.length) 0 = (l.length : Nat) := by
    have h1 : byteZ (fronB l l.length) 0 = getZ (fronB l l.length) 0 1 := by rw [← getZ1 (by omega)]; rfl
    rw [h1]
    have hp : pieceOf (fronB l l.length) 0 1 = leB (word (l.length : Nat)) 1 := by unfold fronB; exact piece_here _ _ (by rw [leB_len])
    have h0 : getOk (fronB l l.length) 0 1 = true := getOk_yes (k := 0) (by rw [w1]; omega)
    unfold getZ
    rw [if_pos h0, w1]
    rw [show (0 : Int).toNat = 0 from rfl, hp, getN_leB]
    unfold wrap64 word
    rw [show (256 : Nat) ^ 1 = 256 from rfl]
    omega
  unfold getFr
  rw [if_neg (by omega), if_pos hs, il, hby, if_neg (by omega), Int.toNat_natCast]
  have := readN_put (fronB l l.length) l (leB (word (l.length : Nat)) 1) [] [] (by unfold fronB cmdsB; rw [List.take_length, List.append_nil]) (fun x hx => ⟨hall x hx, hr x hx⟩)
  rw [leB_len] at this
  rw [show ((1 : Nat) : Int) = 1 from rfl] at this
  rw [this]
  unfold endF
  simp only
  rw [if_neg (by simp), if_pos (by rw [f1]), List.nil_append]
end Go.Proofs.Ythkgchlndfcmpaa

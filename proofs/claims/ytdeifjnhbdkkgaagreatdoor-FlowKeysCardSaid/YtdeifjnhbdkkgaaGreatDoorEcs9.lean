/- Contract of ecs.Query. -/
import Derived.Test.YtdeifjnhbdkkgaaGreatDoorEcs7
import Derived.Test.YtdeifjnhbdkkgaaGreatDoorGraphS
import Derived.Test.YtdeifjnhbdkkgaaGreatDoorSort
namespace Go.Proofs.YtdeifjnhbdkkgaaGreatDoor
open Go.RowKit
set_option maxRecDepth 100000
set_option linter.unusedVariables false
set_option linter.unusedSimpArgs false

theorem growC_grow (a : Co) (m n : Nat) : growC (growC a m) n = growC a (max m n) := by
  unfold growC
  dsimp only
  congr 1
  rw [List.append_assoc, List.replicate_append_replicate, List.length_append, List.length_replicate]
  congr 2
  omega
/-- Whose indexes the tables of some nodes have. -/
def idsAt (a : Co) (L : List Nat) : List IdZ := L.flatMap fun j => (tbAt a j).ids
theorem idsAt_next {a : Co} {L : List Nat} {j : Nat} (h : j < L.length) : idsAt a (L.take (j + 1)) = idsAt a (L.take j) ++ (tbAt a (L.getD j 0)).ids := by
  unfold idsAt
  rw [List.take_succ_eq_append_getElem h, List.flatMap_append, List.getD_eq_getElem?_getD, List.getElem?_eq_getElem h, List.flatMap_cons, List.flatMap_nil, List.append_nil]
  rfl
theorem info_idI : (Tryz.prog.info? 85).map (fun i => (i.zero, i.size, i.bytes)) = some (some (.agg #[.int .i64 0, .int .i64 0]), 2, 16) := by kernel_rfl
section
variable {w : World} {c : Cf} {xp q : Nat} {B : CoB} {a : Co}
def QyPost (w : World) (c : Cf) (xp : Nat) (B : CoB) (q : Nat) (a : Co) (L : List Nat) (e : Ending) (w' : World) : Prop :=
  ∃ (A : Option Addr) (cc : Nat) (R : List IdZ) (m : Nat) (B' : CoB), e = .returned (.slice A R.length cc) ∧ Own w' w.heap.size 85 2 (.slice A R.length cc) R.length (R.flatMap idC) ∧ (∀ k, ownB (.slice A R.length cc) = some k → ¬ CoF xp B' (growC a m) k) ∧ R.Perm (idsAt a L) ∧ R.Pairwise (fun x y => x.ix ≤ y.ix) ∧ m ≤ a.sigs.length ∧ CoAt w c xp (CoF xp B a) q (growC a m) w' B'
theorem sgTo_mem {S : List Nat} {x y : Nat} : ∀ {k j : Nat}, j ∈ sgTo S x y k → j < k ∧ fitsB (S.getD j 0) x y = true
  | 0, j, h => by simp [sgTo] at h
  | k + 1, j, h => by
    unfold sgTo at h
    rcases List.mem_append.1 h with h | h
    · have := sgTo_mem h; exact ⟨by omega, this.2⟩
    · split at h
      · rename_i hf
        obtain rfl : j = k := by simpa using h
        exact ⟨by omega, hf⟩
      · simp at h
theorem src_ids {W : World} {B n c : Nat} {A : Option Addr} {l : List IdZ} (hn : l.length = n) (h : Own W B 85 2 (.slice A n c) n (l.flatMap idC)) : Src Tryz.prog 2 60 (.slice A n c) n (l.flatMap idC) W := by
  obtain ⟨A', c', e, h1, h2, h3, hr⟩ := h.sl
  injection e with e1 e2 e3
  subst e1 e3
  exact hr.src (c := c) (P := Tryz.prog) Tryz.underlying60 (idC_one l) (by omega)
theorem wpList_ids {ops : Array Oper} {o : Oper} {rest : List Oper} {a : Act} {w : World} {Q : Exit → Act → World → Prop} (hgd : Region.wanted o (yielded ops a.tmps) = true) (s x : Operand)
    (ho : o.op = .call { callee := .builtin .append, args := #[s, x], argTypes := #[60, 60] }) (B : Nat) (v : Value) (n : Nat) (D : List Value) (hv : a.eval s = v) (hown : Own w B 85 2 v n D) (vx : Value) (k : Nat) (ys : List Value)
    (hy : a.eval x = vx) (hsrc : Src Tryz.prog 2 60 vx k ys w) (hk : n + k ≤ 1099511627776) (hB : B ≤ w.heap.size)
    (h : ∀ A c w', Own w' B 85 2 (.slice A (n + k) c) (n + k) (D ++ ys) → Keep (fun k => ownB v = some k) w w' → (∀ k', ownB (.slice A (n + k) c) = some k' → ownB v = some k' ∨ w.heap.size ≤ k') → wpList Tryz.prog ops Q rest (a.put o.dst (.slice A (n + k) c)) w') :
    wpList Tryz.prog ops Q (o :: rest) a w := by
  obtain ⟨is, his, hs0, hs1, hs2⟩ := info_parts info_idI
  refine wpList_append_gen w hgd s x _ _ ho B 85 is _ 2 16 Tryz.underlying60 his hs0 hs1 hs2 rfl v n _ hv hown vx k ys hy hsrc (by unfold maxLen; omega) (by omega) hB ?_
  intro v' w' ho' hk' hn'
  obtain ⟨A, c', rfl, _⟩ := ho'.form
  exact h A c' w' ho' hk' hn'
set_option maxHeartbeats 4000000 in
theorem e_query (SO : SortIdsP) (h : CoM w c xp B q a) (hl : c.l.length ≤ 1000) (hT : Tab w) (hG : ¬ CoF xp B a 0) (hs : ∀ s ∈ a.sigs, s < 18446744073709551616 ∧ s &&& allOf c.l = s) (x y : Nat) (hx : x < 18446744073709551616) (hy : y < 18446744073709551616) (L : List Nat) (hL : sgTo a.sigs x y a.sigs.length = L) :
    Calls Tryz.prog 40 #[.pointer (some ⟨xp, 0, none⟩), .int .u64 (x : Int), .int .u64 (y : Int)] w (QyPost w c xp B q a L) := by
  have HS := Lib.hid hs
  have HT := Lib.hid hT
  have HG := Lib.hid hG
  have H := Lib.hid h
  have SG := Lib.hid (show Calls Tryz.prog 58 #[.pointer (some ⟨B.gp, 0, none⟩), .int .u64 (x : Int), .int .u64 (y : Int)] w fun e w' => ∃ v, e = .returned v ∧ Own w' w.heap.size 3 1 v L.length (iv (ints L)) ∧ Below w.heap.size w w' from by
    have := gis_sigs h.graph x y hx hy
    rw [hL] at this
    exact this)
  have ML := Lib.hid (show ∀ j, j < L.length → L.getD j 0 < a.sigs.length from by subst hL; exact fun j hj => (sgTo_mem (getD_mem hj)).1)
  have hL6 : L.length ≤ 1000000 := by have := sgTo_len a.sigs x y a.sigs.length; rw [hL] at this; have := h.sgs; omega
  have c6 := h.gpCell
  obtain ⟨NS, hNS⟩ : ∃ NS, a.sigs.length = NS := ⟨_, rfl⟩
  have HNS := Lib.hid hNS
  have hfew : a.tabs.length ≤ NS := by rw [← hNS]; exact h.few
  rw [hNS] at ML
  clear h hs hT hG hL hNS
  obtain ⟨n, hn⟩ : ∃ n, L.length = n := ⟨_, rfl⟩
  have HN := Lib.hid hn
  rw [hn] at SG ML hL6
  clear hn
  go_enter Tryz.func40, Tryz.ntmps40
  go_wp2_with fail
  with_reducible refine SG.out.mono ?_
  rintro e w1 ⟨u1, rfl, ho1, hb1⟩
  obtain ⟨A1, d1, rfl, -⟩ := ho1.form
  have K1 := Lib.hid (Keep.of_below' hb1)
  have O1 := Lib.hid (ho1.sl.mono (G := fun k => w.heap.size ≤ k ∧ k < w1.heap.size) (fun b hb h => ⟨h, hb⟩))
  have hlt0 := Lib.hid (fun k (hk : CoF xp B a k) => H.out.lt k hk)
  have TG1 := Lib.hid (And.intro (HT.out.same K1.out) HG.out)
  have hz1 := K1.out.size
  clear ho1 hb1 SG c6
  go_wp2
  go_loopw [7, 20] (fun y i wr => ∃ (k : Nat) (A2 : Option Addr) (n2 c2 m : Nat) (B1 : CoB), k ≤ n ∧ i = .int .i64 (k : Int) ∧ y = .slice A2 n2 c2 ∧ n2 ≤ k * 1024 ∧ a.tabs.length ≤ m ∧ m ≤ NS ∧ Hid ((idsAt a (L.take k)).length = n2) ∧ Hid (Own wr w1.heap.size 85 2 (.slice A2 n2 c2) n2 ((idsAt a (L.take k)).flatMap idC)) ∧ Hid (CoAt w1 c xp (CoF xp B a) q (growC a m) wr B1) ∧ Hid (∀ b, ownB (.slice A2 n2 c2) = some b → ¬ CoF xp B1 (growC a m) b)) (fun _ i _ => n - (intOf i).toNat)
  case atStart => exact ⟨0, none, 0, 0, a.tabs.length, B, by omega, rfl, rfl, by omega, Nat.le_refl _, hfew, Lib.hid rfl, Lib.hid (Own.none_ _ _ _ _ _), Lib.hid (by rw [growC_no (Nat.le_refl _)]; exact CoAt.first (H.out.same K1.out)), Lib.hid (fun b e => by cases e)⟩
  case round =>
    obtain ⟨k, A2, n2, c2, m, B1, hk, rfl, rfl, hn2, hm1, hm2, hlen, ho, hat, hnf⟩ := hrel
    by_cases hlt : k < n
    · have f1 : (k : Int) < (n : Int) := by omega
      have f0 : (0 : Int) ≤ (k : Int) := by omega
      obtain ⟨b1, o1, rfl, hcl⟩ := ints_at (O1.out.keep hat.out.2.1 (fun b _ h e => by have := hlt0.out _ e; omega)) HN.out hlt
      have hnode := ML.out k hlt
      have IN := Lib.hid (idsAt_next (a := a) (L := L) (j := k) (by have := HN.out; omega))
      generalize L.getD k 0 = node at *
      have tg := hat.out.tab TG1.out.1 TG1.out.2
      have AT := Lib.hid (fun X (hkx : Keep (fun _ => False) wr X) => e_at (hat.out.1.same hkx) hl (tg.1.same hkx) tg.2 node (by have := HNS.out; show node < a.sigs.length; omega) HS.out)
      clear tg
      go_wp2_with fail
      with_reducible refine (AT.out _ (by exact (by repeat first | (with_reducible assumption) | (with_reducible exact Keep.refl _ _) | (with_reducible refine Keep.alloc ?_ _) | (with_reducible refine Keep.drew ?_) | (with_reducible refine Keep.drewN ?_ _) | (with_reducible refine Keep.setCell ?_ (.inl (by first | omega | (simp; done) | (simp; omega) | fail)) _)))).mono ?_
      rintro e w2 ⟨B2, rfl, h2, -⟩
      rw [growC_grow] at h2
      have ht2 : (growC a (max m (node + 1))).tabs[node]? = some (tbAt a node) := by
        have := getD_at tz0 (l := (growC a (max m (node + 1))).tabs) (j := node) (by simp [growC]; omega)
        rw [this]
        exact congrArg some (tbAt_grow a _ node)
      have TB := Lib.hid (h2.1.tab node _ ht2).1
      have HF := Lib.hid (show (tbAt a node).ids.length ≤ 1024 from TB.out.few)
      have ID := Lib.hid (fun X (hkx : Keep (fun _ => False) w2 X) => tb_ids (TB.out.same hkx))
      have k2 := h2.2.1
      have NF2 := Lib.hid (show ∀ b, ownB (Value.slice A2 n2 c2) = some b → ¬ CoF xp B2 (growC a (max m (node + 1))) b from fun b e1 e2 => by
        rcases h2.2.2 b e2 with e | e
        · exact hnf.out b e1 e
        · have := (ho.out.ownB b e1).2; omega)
      have O2 := Lib.hid (ho.out.keep k2 (fun b e1 e2 => hnf.out b e1 e2))
      have H2 := Lib.hid (hat.out.then_ (CoAt.from_ (by exact (by repeat first | (with_reducible assumption) | (with_reducible exact Keep.refl _ _) | (with_reducible refine Keep.alloc ?_ _) | (with_reducible refine Keep.drew ?_) | (with_reducible refine Keep.drewN ?_ _) | (with_reducible refine Keep.setCell ?_ (.inl (by first | omega | (simp; done) | (simp; omega) | fail)) _))) h2))
      have hz2 := H2.out.2.1.size
      have LB2 := Lib.hid (fun b (hb : CoF xp B2 (growC a (max m (node + 1))) b) => h2.1.lt b hb)
      clear h2 ht2 AT hcl k2
      go_wp2_with fail
      with_reducible refine (ID.out _ (by exact (by repeat first | (with_reducible assumption) | (with_reducible exact Keep.refl _ _) | (with_reducible refine Keep.alloc ?_ _) | (with_reducible refine Keep.drew ?_) | (with_reducible refine Keep.drewN ?_ _) | (with_reducible refine Keep.setCell ?_ (.inl (by first | omega | (simp; done) | (simp; omega) | fail)) _)))).mono ?_
      rintro e w3 ⟨A3, c3, rfl, ho3, hb3⟩
      obtain ⟨n3, hn3⟩ : ∃ n3, (tbAt a node).ids.length = n3 := ⟨_, rfl⟩
      rw [hn3] at ho3 HF
      have hn34 := HF.out
      have HN3 := Lib.hid hn3
      have K3 := Lib.hid (show Keep (fun _ => False) w2 w3 from Keep.trans (T := fun _ => False) (by exact (by repeat first | (with_reducible assumption) | (with_reducible exact Keep.refl _ _) | (with_reducible refine Keep.alloc ?_ _) | (with_reducible refine Keep.drew ?_) | (with_reducible refine Keep.drewN ?_ _) | (with_reducible refine Keep.setCell ?_ (.inl (by first | omega | (simp; done) | (simp; omega) | fail)) _))) (Keep.of_below' hb3) (fun _ _ h => h))
      have O3 := Lib.hid ho3
      have hz3 := K3.out.size
      rw [hn3]
      clear ho3 hb3 hn3
      go_wp2_with (first
        | (at_builtin; refine wpList_ids (by rfl) _ _ (by rfl) w1.heap.size _ n2 ((idsAt a (L.take k)).flatMap idC) (by rfl) (O2.out.keep (S := fun _ => False) (K3.out.trans (T := fun _ => False) (by exact (by repeat first | (with_reducible assumption) | (with_reducible exact Keep.refl _ _) | (with_reducible refine Keep.alloc ?_ _) | (with_reducible refine Keep.drew ?_) | (with_reducible refine Keep.drewN ?_ _) | (with_reducible refine Keep.setCell ?_ (.inl (by first | omega | (simp; done) | (simp; omega) | fail)) _))) (fun _ _ h => h)) (fun _ _ h => h)) _ n3 ((tbAt a node).ids.flatMap idC) (by rfl) (src_ids HN3.out (O3.out.keep (S := fun _ => False) (by exact (by repeat first | (with_reducible assumption) | (with_reducible exact Keep.refl _ _) | (with_reducible refine Keep.alloc ?_ _) | (with_reducible refine Keep.drew ?_) | (with_reducible refine Keep.drewN ?_ _) | (with_reducible refine Keep.setCell ?_ (.inl (by first | omega | (simp; done) | (simp; omega) | fail)) _))) (fun _ _ h => h))) (by omega) (by first | omega | (simp; omega)) ?_)
        | fail)
      intro A6 c6 w6 ho6 hk6 hn6
      have kk6 : Keep (fun b => ownB (Value.slice A2 n2 c2) = some b) w2 w6 := Keep.trans (S := fun b => ownB (Value.slice A2 n2 c2) = some b) (T := fun b => ownB (Value.slice A2 n2 c2) = some b) (K3.out.mono (fun _ _ h => h.elim)) (Keep.trans (S := fun b => ownB (Value.slice A2 n2 c2) = some b) (T := fun b => ownB (Value.slice A2 n2 c2) = some b) (by exact (by repeat first | (with_reducible assumption) | (with_reducible exact Keep.refl _ _) | (with_reducible refine Keep.alloc ?_ _) | (with_reducible refine Keep.drew ?_) | (with_reducible refine Keep.drewN ?_ _) | (with_reducible refine Keep.setCell ?_ (.inl (by first | omega | (simp; done) | (simp; omega) | fail)) _))) hk6 (fun _ _ h => h)) (fun _ _ h => h)
      have R1 := Lib.hid (H2.out.besides kk6 (fun b hb e => NF2.out b e hb) (fun b e => (O2.out.ownB b e).1))
      have R2 := Lib.hid (show (idsAt a (L.take (k + 1))).length = n2 + n3 from by rw [IN.out, List.length_append, hlen.out, HN3.out])
      have R3 := Lib.hid (show Own w6 w1.heap.size 85 2 (.slice A6 (n2 + n3) c6) (n2 + n3) ((idsAt a (L.take (k + 1))).flatMap idC) from by rw [IN.out, List.flatMap_append]; exact ho6)
      have R4 := Lib.hid (show ∀ b, ownB (Value.slice A6 (n2 + n3) c6) = some b → ¬ CoF xp B2 (growC a (max m (node + 1))) b from fun b e1 e2 => by
        rcases hn6 b e1 with e | e
        · exact NF2.out b e e2
        · have := LB2.out b e2
          have : w3.heap.size ≤ b := by first | exact e | (simp at e; omega)
          omega)
      clear ho6 hk6 hn6 kk6
      go_wp2
      go_roundw
      case rel => exact ⟨k + 1, A6, n2 + n3, c6, max m (node + 1), B2, by omega, by go_num, rfl, by omega, by omega, by omega, R2, R3, R1, R4⟩
      case measure => simp [intOf]; omega
    · obtain rfl : k = n := by omega
      have f1 : ¬ (k : Int) < (k : Int) := by omega
      have EI := Lib.hid (show idsAt a (L.take k) = idsAt a L from by rw [List.take_of_length_le (by have := HN.out; omega)])
      rw [EI.out] at hlen ho
      have SF := Lib.hid (fun X (hkx : Keep (fun _ => False) wr X) => SO X A2 n2 c2 w1.heap.size (idsAt a L) hlen.out (ho.out.keep hkx (fun _ _ h => h)) (by omega))
      go_wp2_with fail
      with_reducible refine (SF.out _ (by exact (by repeat first | (with_reducible assumption) | (with_reducible exact Keep.refl _ _) | (with_reducible refine Keep.alloc ?_ _) | (with_reducible refine Keep.drew ?_) | (with_reducible refine Keep.drewN ?_ _) | (with_reducible refine Keep.setCell ?_ (.inl (by first | omega | (simp; done) | (simp; omega) | fail)) _)))).mono ?_
      rintro e w6 ⟨rfl, R, hp, hs, ho6, hk6⟩
      have kk6 : Keep (fun b => ownB (Value.slice A2 n2 c2) = some b) wr w6 := Keep.trans (S := fun b => ownB (Value.slice A2 n2 c2) = some b) (T := fun b => ownB (Value.slice A2 n2 c2) = some b) (by exact (by repeat first | (with_reducible assumption) | (with_reducible exact Keep.refl _ _) | (with_reducible refine Keep.alloc ?_ _) | (with_reducible refine Keep.drew ?_) | (with_reducible refine Keep.drewN ?_ _) | (with_reducible refine Keep.setCell ?_ (.inl (by first | omega | (simp; done) | (simp; omega) | fail)) _))) hk6 (fun _ _ h => h)
      have R1 := Lib.hid (hat.out.besides kk6 (fun b hb e => hnf.out b e hb) (fun b e => (ho.out.ownB b e).1))
      have hRn : R.length = n2 := hp.length_eq.trans hlen.out
      have R2 := Lib.hid (show QyPost w c xp B q a L (.returned (.slice A2 n2 c2)) w6 from by
        subst hRn
        exact ⟨A2, c2, R, m, B1, rfl, ho6.mono hz1, hnf.out, hp, hs, by have := HNS.out; omega, CoAt.from_ K1.out R1.out⟩)
      clear hp hs ho6 hk6 kk6 hRn
      go_wp2
      go_ret
      exact R2.out
end
end Go.Proofs.YtdeifjnhbdkkgaaGreatDoor

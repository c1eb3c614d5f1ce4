/- Contracts of vivariumref15.Find, flush.Core of a core that is nil. -/
import Derived.Test.YtglliendhbkkhaaDoorFl1
namespace Go.Proofs.YtglliendhbkkhaaDoor
open Go.ChangeShapes Go.WideShapes Go.ChangeAt Go.RowKit
set_option maxRecDepth 100000
set_option linter.unusedVariables false
set_option linter.unusedSimpArgs false

theorem info_rs : (Tryd.prog.info? 33).map (fun i => (i.zero, i.size, i.bytes)) = some (some (.agg #[.int .i64 0, .int .i64 0, .int .i64 0]), 3, 24) := by kernel_rfl
theorem wpList_rs2 {ops : Array Oper} {o : Oper} {rest : List Oper} {a : Act} {w : World} {Q : Exit → Act → World → Prop} (hgd : Region.wanted o (yielded ops a.tmps) = true) (s x : Operand)
    (ho : o.op = .call { callee := .builtin .append, args := #[s, x], argTypes := #[23, 23] }) (B : Nat) (v : Value) (n : Nat) (l : List RsZ) (hn : l.length = n) (hv : a.eval s = v) (hown : Own w B 33 3 v n (l.flatMap rsC)) (g c : Nat) (y : RsZ)
    (hy : a.eval x = .slice (some ⟨g, 0, none⟩) 1 c) (h0 : w.cell? ⟨g, 0, none⟩ = some (.int .i64 y.err)) (h1 : w.cell? ⟨g, 1, none⟩ = some (.int .i64 y.id.ix)) (h2 : w.cell? ⟨g, 2, none⟩ = some (.int .i64 y.id.gen)) (hk : n ≤ 1099511627776) (hB : B ≤ w.heap.size)
    (h : ∀ A c w', Own w' B 33 3 (.slice A (n + 1) c) (n + 1) ((l ++ [y]).flatMap rsC) → Keep (fun k => ownB v = some k) w w' → (∀ k', ownB (.slice A (n + 1) c) = some k' → ownB v = some k' ∨ w.heap.size ≤ k') → wpList Tryd.prog ops Q rest (a.put o.dst (.slice A (n + 1) c)) w') :
    wpList Tryd.prog ops Q (o :: rest) a w := by
  obtain ⟨is, his, hs0, hs1, hs2⟩ := info_parts info_rs
  have hsrc : Src Tryd.prog 3 23 (.slice (some ⟨g, 0, none⟩) 1 c) 1 (rsC y) w := Src.ofSlice _ Tryd.underlying23 _ 1 c (rsC y) rfl (fun j u hu => by
    match j, hu with
    | 0, hu => cases hu; simpa [Addr.add] using h0
    | 1, hu => cases hu; simpa [Addr.add] using h1
    | 2, hu => cases hu; simpa [Addr.add] using h2) (fun u hu => by
    simp only [rsC, List.mem_cons, List.not_mem_nil, or_false] at hu
    rcases hu with rfl | rfl | rfl <;> rfl)
  refine wpList_append_gen w hgd s x _ _ ho B 33 is _ 3 24 Tryd.underlying23 his hs0 hs1 hs2 rfl v n _ hv hown _ 1 _ hy hsrc (by unfold maxLen; omega) (by omega) hB ?_
  intro v' w' ho' hk' hn'
  obtain ⟨A, c', rfl, _⟩ := ho'.form
  refine h A c' w' ?_ hk' hn'
  rw [List.flatMap_append]
  simpa using ho'
theorem wpList_rs {ops : Array Oper} {o : Oper} {rest : List Oper} {a : Act} {w : World} {Q : Exit → Act → World → Prop} (hgd : Region.wanted o (yielded ops a.tmps) = true) (s x : Operand)
    (ho : o.op = .call { callee := .builtin .append, args := #[s, x], argTypes := #[23, 23] }) (B : Nat) (v : Value) (n : Nat) (l : List RsZ) (hn : l.length = n) (hv : a.eval s = v) (hown : Own w B 33 3 v n (l.flatMap rsC)) (g c : Nat) (y : RsZ)
    (hy : a.eval x = .slice (some ⟨g, 0, none⟩) 1 c) (h0 : w.cell? ⟨g, 0, none⟩ = some (.int .i64 y.err)) (h1 : w.cell? ⟨g, 1, none⟩ = some (.int .i64 y.id.ix)) (h2 : w.cell? ⟨g, 2, none⟩ = some (.int .i64 y.id.gen)) (hk : n ≤ 1099511627776) (hB : B ≤ w.heap.size)
    (h : ∀ A c w', Own w' B 33 3 (.slice A (n + 1) c) (n + 1) ((l ++ [y]).flatMap rsC) → Keep (fun k => ownB v = some k) w w' → wpList Tryd.prog ops Q rest (a.put o.dst (.slice A (n + 1) c)) w') :
    wpList Tryd.prog ops Q (o :: rest) a w := by
  exact wpList_rs2 hgd s x ho B v n l hn hv hown g c y hy h0 h1 h2 hk hB (fun A c w' h1 h2 _ => h A c w' h1 h2)
theorem spw_far : ∀ (l : List Cmd) (d : List RsZ) (j : Nat), d.length ≤ j → spw (l.take j) d = spw l d
  | [], d, j, h => by simp
  | y :: l, [], j, h => by rw [spw_nil, spw_nil]
  | y :: l, z :: d, 0, h => by simp at h
  | y :: l, z :: d, j + 1, h => by
    rw [List.take_succ_cons]
    show (if y.do_ = 0 then z :: spw (l.take j) d else spw (l.take j) d) = (if y.do_ = 0 then z :: spw l d else spw l d)
    rw [spw_far l d j (by simpa using h)]
set_option maxHeartbeats 2000000 in
theorem rfl_find (l : List Cmd) (v : Value) (F : Nat → Prop) (d : List RsZ) (u : Value) (G : Nat → Prop) (k : Int) (hk : -9223372036854775808 ≤ k ∧ k ≤ 9223372036854775807) (w : World) (h : NS cmN w F v l) (hd : Sl w G 3 u d.length (d.flatMap rsC)) (hl : l.length ≤ 100000) :
    Calls Tryd.prog 7 #[v, u, .int .i64 k] w fun e w' => e = .returned (.tuple #[.agg #[.int .i64 (findF l d k).1.ix, .int .i64 (findF l d k).1.gen], .bool (findF l d k).2]) ∧ Keep (fun _ => False) w w' := by
  have HA := Lib.hid h
  have HD := Lib.hid hd
  obtain ⟨A, c, rfl, -, -⟩ := h.form
  obtain ⟨Ad, cd, rfl, hd1, hd2, -⟩ := hd
  unfold maxLen at hd2
  obtain ⟨n, hn⟩ : ∃ n, l.length = n := ⟨_, rfl⟩
  obtain ⟨nd, hnd⟩ : ∃ nd, d.length = nd := ⟨_, rfl⟩
  have HN := Lib.hid (And.intro hn hnd)
  rw [hn] at HA hl ⊢
  rw [hnd] at HD hd1 ⊢
  clear h hn hnd
  have HB := Lib.hid (heap_alloc_new w (.cells #[.int .i64 0, .int .i64 0] 27 (0, 0)))
  have LOST := Lib.hid (show (k < 0 ∨ ((spw l d).length : Int) ≤ k) → findF l d k = (⟨0, 0⟩, false) from fun h => by
    unfold findF
    rw [if_neg (by omega)])
  have GOT := Lib.hid (show 0 ≤ k → k < ((spw l d).length : Int) → findF l d k = foundF ((spw l d).getD k.toNat default) from fun h1 h2 => by
    unfold findF
    rw [if_pos ⟨h1, h2⟩])
  have NXT := Lib.hid (show ∀ i x, l[i]? = some x → i < nd → spw (l.take (i + 1)) d = if x.do_ = 0 then spw (l.take i) d ++ [d.getD i default] else spw (l.take i) d from fun i x hx hi => by
    rw [spw_next l d i x hx]
    have := HN.out.2
    by_cases h0 : x.do_ = 0
    · rw [if_pos ⟨h0, by omega⟩, if_pos h0]
    · rw [if_neg (fun h => h0 h.1), if_neg h0, List.append_nil])
  have FEW := Lib.hid (show ∀ i, (spw (l.take i) d).length ≤ i from fun i => Nat.le_trans (spw_len _ _) (by rw [List.length_take]; omega))
  have ALL := Lib.hid (show ∀ i, (n ≤ i ∨ nd ≤ i) → spw (l.take i) d = spw l d from fun i hi => by
    rcases hi with hi | hi
    · rw [List.take_of_length_le (by rw [HN.out.1]; exact hi)]
    · exact spw_far l d i (by rw [HN.out.2]; exact hi))
  generalize findF l d k = R at *
  go_enter Tryd.func7, Tryd.ntmps7
  go_upto_region 1 with fail
  refine wp_world (S := fun X => X.heap[w.heap.size]? = some (.cells #[.int .i64 0, .int .i64 0] 27 (0, 0)) ∧ Keep (fun _ => False) w X ∧ w.heap.size + 1 ≤ X.heap.size) ⟨HB.out, by exact (by repeat first | (with_reducible assumption) | (with_reducible exact Keep.refl _ _) | (with_reducible refine Keep.alloc ?_ _) | (with_reducible refine Keep.drew ?_) | (with_reducible refine Keep.drewN ?_ _) | (with_reducible refine Keep.setCell ?_ (.inl (by first | omega | (simp; done) | (simp; omega) | fail)) _)), by simp⟩ ?_
  rintro w1 ⟨hb1, hk1, hz1⟩
  have H1 := Lib.hid (And.intro hb1 hk1)
  clear hb1 hk1
  go_wp2
  go_loopw [8, 9] (fun y i wr => ∃ (j m : Nat) (A2 : Option Addr) (c2 : Nat), j ≤ n ∧ i = .int .i64 (j : Int) ∧ y = .slice A2 m c2 ∧ m ≤ j ∧ Hid ((spw (l.take j) d).length = m) ∧ Hid (Own wr w1.heap.size 33 3 (.slice A2 m c2) m ((spw (l.take j) d).flatMap rsC)) ∧ Hid (Keep (fun _ => False) w1 wr)) (fun _ i _ => n - (intOf i).toNat)
  case atStart => exact ⟨0, 0, none, 0, by omega, rfl, rfl, Nat.le_refl _, Lib.hid rfl, Lib.hid (Own.none_ _ _ _ _ _), Lib.hid (Keep.refl _ _)⟩
  case round =>
    obtain ⟨j, m, A2, c2, hj, rfl, rfl, hmj, hlen, ho, hkw⟩ := hrel
    by_cases hlt : j < n ∧ j < nd
    · obtain ⟨hlt, hjd⟩ := hlt
      have hi : (j : Int) < (n : Int) := by omega
      have hi2 : (j : Int) < (nd : Int) := by omega
      have hi0 : (0 : Int) ≤ (j : Int) := by omega
      have hzw := hkw.out.size
      obtain ⟨b, off, x, A1, c1, rfl, hbF, hx, hin, hcs⟩ := cmAt (NS.same HA.out (H1.out.2.trans hkw.out (fun _ _ h => h))) hlt
      obtain ⟨y0, y1, y2, y3, y4, y5⟩ := cells_at6 hcs
      have NX := Lib.hid (NXT.out j x hx hjd)
      clear hcs hin hx
      generalize x.do_ = dd at *
      by_cases hd0 : dd = 0
      · subst hd0
        obtain ⟨br, orr, rfl, -, s0, s1, s2⟩ := rs_at (HD.out.keep (H1.out.2.trans hkw.out (fun _ _ h => h)) (fun _ _ _ h => h)) HN.out.2 hjd
        have NE := Lib.hid (show spw (l.take (j + 1)) d = spw (l.take j) d ++ [d.getD j default] from by rw [NX.out, if_pos rfl])
        generalize d.getD j default = el at *
        go_wp2_with (first
          | (at_builtin; refine wpList_rs (by rfl) _ _ (by rfl) w1.heap.size _ m (spw (l.take j) d) hlen.out (by rfl) (ho.out.keep (S := fun _ => False) (by exact (by repeat first | (with_reducible assumption) | (with_reducible exact Keep.refl _ _) | (with_reducible refine Keep.alloc ?_ _) | (with_reducible refine Keep.drew ?_) | (with_reducible refine Keep.drewN ?_ _) | (with_reducible refine Keep.setCell ?_ (.inl (by first | omega | (simp; done) | (simp; omega) | fail)) _))) (fun _ _ h => h)) wr.heap.size 1 el (by rfl) (by first | with_reducible rfl | simp) (by first | with_reducible rfl | simp) (by first | with_reducible rfl | simp) (by omega) (by simp; omega) ?_)
          | fail)
        intro A6 c6 w6 ho6 hk6
        have K6 := Lib.hid (show Keep (fun _ => False) w1 w6 from hkw.out.trans (Keep.trans (T := fun b => ownB (Value.slice A2 m c2) = some b) (S := fun b => ownB (Value.slice A2 m c2) = some b) (by exact (by repeat first | (with_reducible assumption) | (with_reducible exact Keep.refl _ _) | (with_reducible refine Keep.alloc ?_ _) | (with_reducible refine Keep.drew ?_) | (with_reducible refine Keep.drewN ?_ _) | (with_reducible refine Keep.setCell ?_ (.inl (by first | omega | (simp; done) | (simp; omega) | fail)) _))) hk6 (fun _ _ h => h)) (fun b hb e => by have := (ho.out.ownB b e).1; omega))
        have O6 := Lib.hid (show Own w6 w1.heap.size 33 3 (.slice A6 (m + 1) c6) (m + 1) ((spw (l.take (j + 1)) d).flatMap rsC) from by rw [NE.out, List.flatMap_append]; simpa using ho6)
        have L6 := Lib.hid (show (spw (l.take (j + 1)) d).length = m + 1 from by rw [NE.out, List.length_append, hlen.out]; rfl)
        clear ho6 hk6
        go_wp2
        go_roundw
        case rel => exact ⟨j + 1, m + 1, A6, c6, by omega, by go_num, rfl, by omega, L6, O6, K6⟩
        case measure => simp [intOf]; omega
      · have g0 : (dd == 0) = false := by simpa using hd0
        have NE := Lib.hid (show spw (l.take (j + 1)) d = spw (l.take j) d from by rw [NX.out, if_neg hd0])
        have O6 := Lib.hid (show Own wr w1.heap.size 33 3 (.slice A2 m c2) m ((spw (l.take (j + 1)) d).flatMap rsC) from by rw [NE.out]; exact ho.out)
        have L6 := Lib.hid (show (spw (l.take (j + 1)) d).length = m from by rw [NE.out]; exact hlen.out)
        go_wp2
        go_roundw
        case rel => exact ⟨j + 1, m, A2, c2, by omega, by go_num, rfl, by omega, L6, O6, hkw⟩
        case measure => simp [intOf]; omega
    · have AL := Lib.hid (ALL.out j (by omega))
      have LE := Lib.hid (show (spw l d).length = m from by rw [← AL.out]; exact hlen.out)
      have HS := Lib.hid (show Sl wr (fun _ => True) 3 (.slice A2 m c2) m ((spw l d).flatMap rsC) from by rw [← AL.out]; exact ho.out.sl.mono (fun _ _ _ => trivial))
      have hb := (hkw.out.block w.heap.size (by omega) (fun h => h)).trans H1.out.1
      have KW := Lib.hid (show Keep (fun _ => False) w wr from H1.out.2.trans hkw.out (fun _ _ h => h))
      obtain ⟨q0, q1, qf⟩ := cells2 hb
      by_cases hj1 : j < n
      · have f1 : (j : Int) < (n : Int) := by omega
        have f2 : ¬ (j : Int) < (nd : Int) := by omega
        by_cases k0 : k < 0
        · have FD := Lib.hid (LOST.out (.inl k0))
          go_wp2
          refine bodyPost_ret (results_idb Tryd.results7 _ _ w.heap.size (.int .i64 0) (.int .i64 0) ?_ ?_ (.bool false) ?_) ?_ ⟨?_, ?_⟩
          · rfl
          · exact heap_twoJ hb _ _
          · rfl
          · rfl
          · rw [FD.out]
          · exact Keep.setCell (Keep.setCell KW.out (.inl (Nat.le_refl _)) _) (.inl (Nat.le_refl _)) _
        · by_cases k1 : (m : Int) ≤ k
          · have FD := Lib.hid (LOST.out (.inr (by rw [LE.out]; exact k1)))
            go_wp2
            refine bodyPost_ret (results_idb Tryd.results7 _ _ w.heap.size (.int .i64 0) (.int .i64 0) ?_ ?_ (.bool false) ?_) ?_ ⟨?_, ?_⟩
            · rfl
            · exact heap_twoJ hb _ _
            · rfl
            · rfl
            · rw [FD.out]
            · exact Keep.setCell (Keep.setCell KW.out (.inl (Nat.le_refl _)) _) (.inl (Nat.le_refl _)) _
          · obtain ⟨kn, rfl⟩ : ∃ kn : Nat, k = (kn : Int) := ⟨k.toNat, by omega⟩
            have hkm : kn < m := by omega
            have k2 : (kn : Int) < (m : Int) := by omega
            have GT := GOT.out (by omega) (by rw [LE.out]; exact k2)
            rw [Int.toNat_natCast] at GT
            obtain ⟨br, orr, rfl, -, s0, s1, s2⟩ := rs_at HS.out LE.out hkm
            generalize (spw l d).getD kn default = el at *
            obtain ⟨er, ⟨ri, rg⟩⟩ := el
            simp only at s0 s1 s2
            by_cases he : er = 0
            · subst he
              have FD := Lib.hid (show R = (⟨ri, rg⟩, true) from by rw [GT]; unfold foundF; rw [if_neg (by simp)])
              clear GT
              go_wp2
              refine bodyPost_ret (results_idb Tryd.results7 _ _ w.heap.size (.int .i64 ri) (.int .i64 rg) ?_ ?_ (.bool true) ?_) ?_ ⟨?_, ?_⟩
              · rfl
              · exact heap_twoJ hb _ _
              · rfl
              · rfl
              · rw [FD.out]
              · exact Keep.setCell (Keep.setCell KW.out (.inl (Nat.le_refl _)) _) (.inl (Nat.le_refl _)) _
            · have he2 : (er != 0) = true := by simpa using he
              have FD := Lib.hid (show R = (⟨0, 0⟩, false) from by rw [GT]; unfold foundF; rw [if_pos he])
              clear GT
              go_wp2
              refine bodyPost_ret (results_idb Tryd.results7 _ _ w.heap.size (.int .i64 0) (.int .i64 0) ?_ ?_ (.bool false) ?_) ?_ ⟨?_, ?_⟩
              · rfl
              · exact heap_twoJ hb _ _
              · rfl
              · rfl
              · rw [FD.out]
              · exact Keep.setCell (Keep.setCell KW.out (.inl (Nat.le_refl _)) _) (.inl (Nat.le_refl _)) _
      · have f1 : ¬ (j : Int) < (n : Int) := by omega
        by_cases k0 : k < 0
        · have FD := Lib.hid (LOST.out (.inl k0))
          go_wp2
          refine bodyPost_ret (results_idb Tryd.results7 _ _ w.heap.size (.int .i64 0) (.int .i64 0) ?_ ?_ (.bool false) ?_) ?_ ⟨?_, ?_⟩
          · rfl
          · exact heap_twoJ hb _ _
          · rfl
          · rfl
          · rw [FD.out]
          · exact Keep.setCell (Keep.setCell KW.out (.inl (Nat.le_refl _)) _) (.inl (Nat.le_refl _)) _
        · by_cases k1 : (m : Int) ≤ k
          · have FD := Lib.hid (LOST.out (.inr (by rw [LE.out]; exact k1)))
            go_wp2
            refine bodyPost_ret (results_idb Tryd.results7 _ _ w.heap.size (.int .i64 0) (.int .i64 0) ?_ ?_ (.bool false) ?_) ?_ ⟨?_, ?_⟩
            · rfl
            · exact heap_twoJ hb _ _
            · rfl
            · rfl
            · rw [FD.out]
            · exact Keep.setCell (Keep.setCell KW.out (.inl (Nat.le_refl _)) _) (.inl (Nat.le_refl _)) _
          · obtain ⟨kn, rfl⟩ : ∃ kn : Nat, k = (kn : Int) := ⟨k.toNat, by omega⟩
            have hkm : kn < m := by omega
            have k2 : (kn : Int) < (m : Int) := by omega
            have GT := GOT.out (by omega) (by rw [LE.out]; exact k2)
            rw [Int.toNat_natCast] at GT
            obtain ⟨br, orr, rfl, -, s0, s1, s2⟩ := rs_at HS.out LE.out hkm
            generalize (spw l d).getD kn default = el at *
            obtain ⟨er, ⟨ri, rg⟩⟩ := el
            simp only at s0 s1 s2
            by_cases he : er = 0
            · subst he
              have FD := Lib.hid (show R = (⟨ri, rg⟩, true) from by rw [GT]; unfold foundF; rw [if_neg (by simp)])
              clear GT
              go_wp2
              refine bodyPost_ret (results_idb Tryd.results7 _ _ w.heap.size (.int .i64 ri) (.int .i64 rg) ?_ ?_ (.bool true) ?_) ?_ ⟨?_, ?_⟩
              · rfl
              · exact heap_twoJ hb _ _
              · rfl
              · rfl
              · rw [FD.out]
              · exact Keep.setCell (Keep.setCell KW.out (.inl (Nat.le_refl _)) _) (.inl (Nat.le_refl _)) _
            · have he2 : (er != 0) = true := by simpa using he
              have FD := Lib.hid (show R = (⟨0, 0⟩, false) from by rw [GT]; unfold foundF; rw [if_pos he])
              clear GT
              go_wp2
              refine bodyPost_ret (results_idb Tryd.results7 _ _ w.heap.size (.int .i64 0) (.int .i64 0) ?_ ?_ (.bool false) ?_) ?_ ⟨?_, ?_⟩
              · rfl
              · exact heap_twoJ hb _ _
              · rfl
              · rfl
              · rw [FD.out]
              · exact Keep.setCell (Keep.setCell KW.out (.inl (Nat.le_refl _)) _) (.inl (Nat.le_refl _)) _
def nilR : RsZ := ⟨4, ⟨0, 0⟩⟩
set_option maxHeartbeats 1000000 in
theorem fl_core_nil (A : Option Addr) (n c : Nat) (hn : n ≤ 100000) (w : World) :
    Calls Tryd.prog 8 #[.pointer none, .slice A n c] w fun e w' => ∃ A2 c2, e = .returned (.slice A2 n c2) ∧ Own w' w.heap.size 33 3 (.slice A2 n c2) n ((List.replicate n nilR).flatMap rsC) ∧ Keep (fun _ => False) w w' := by
  go_enter Tryd.func8, Tryd.ntmps8
  go_wp2
  go_loopw [5, 10] (fun y i wr => ∃ (j : Nat) (A2 : Option Addr) (c2 : Nat), j ≤ n ∧ i = .int .i64 (j : Int) ∧ y = .slice A2 j c2 ∧ Hid (Own wr w.heap.size 33 3 (.slice A2 j c2) j ((List.replicate j nilR).flatMap rsC)) ∧ Hid (Keep (fun _ => False) w wr)) (fun _ i _ => n - (intOf i).toNat)
  case atStart => exact ⟨0, none, 0, by omega, rfl, rfl, Lib.hid (Own.none_ _ _ _ _ _), Lib.hid (Keep.refl _ _)⟩
  case round =>
    obtain ⟨j, A2, c2, hj, rfl, rfl, ho, hkw⟩ := hrel
    have hzw := hkw.out.size
    by_cases hlt : j < n
    · have hi : (j : Int) < (n : Int) := by omega
      go_wp2_with (first
        | (at_builtin; refine wpList_rs (by rfl) _ _ (by rfl) w.heap.size _ j (List.replicate j nilR) (List.length_replicate ..) (by rfl) (ho.out.keep (S := fun _ => False) (by exact (by repeat first | (with_reducible assumption) | (with_reducible exact Keep.refl _ _) | (with_reducible refine Keep.alloc ?_ _) | (with_reducible refine Keep.drew ?_) | (with_reducible refine Keep.drewN ?_ _) | (with_reducible refine Keep.setCell ?_ (.inl (by first | omega | (simp; done) | (simp; omega) | fail)) _))) (fun _ _ h => h)) wr.heap.size 1 nilR (by rfl) (by first | with_reducible rfl | simp [nilR]) (by first | with_reducible rfl | simp [nilR]) (by first | with_reducible rfl | simp [nilR]) (by omega) (by simp; omega) ?_)
        | fail)
      intro A6 c6 w6 ho6 hk6
      have K6 := Lib.hid (show Keep (fun _ => False) w w6 from hkw.out.trans (Keep.trans (T := fun b => ownB (Value.slice A2 j c2) = some b) (S := fun b => ownB (Value.slice A2 j c2) = some b) (by exact (by repeat first | (with_reducible assumption) | (with_reducible exact Keep.refl _ _) | (with_reducible refine Keep.alloc ?_ _) | (with_reducible refine Keep.drew ?_) | (with_reducible refine Keep.drewN ?_ _) | (with_reducible refine Keep.setCell ?_ (.inl (by first | omega | (simp; done) | (simp; omega) | fail)) _))) hk6 (fun _ _ h => h)) (fun b hb e => by have := (ho.out.ownB b e).1; omega))
      have O6 := Lib.hid (show Own w6 w.heap.size 33 3 (.slice A6 (j + 1) c6) (j + 1) ((List.replicate (j + 1) nilR).flatMap rsC) from by rw [List.replicate_succ', List.flatMap_append]; simpa using ho6)
      clear ho6 hk6
      go_wp2
      go_roundw
      case rel => exact ⟨j + 1, A6, c6, by omega, by go_num, rfl, O6, K6⟩
      case measure => simp [intOf]; omega
    · obtain rfl : j = n := by omega
      have f1 : ¬ (j : Int) < (j : Int) := by omega
      go_wp2
      go_ret
      exact ⟨A2, c2, rfl, ho.out, hkw.out⟩
end Go.Proofs.YtglliendhbkkhaaDoor

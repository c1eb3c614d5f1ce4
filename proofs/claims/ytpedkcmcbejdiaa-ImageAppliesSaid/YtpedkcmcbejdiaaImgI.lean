/- Contract of vivariumref38.Patch. -/
import Derived.Test.YtpedkcmcbejdiaaImgH
namespace Go.Proofs.Ytpedkcmcbejdiaa
open Go.RowKit
set_option maxRecDepth 100000
set_option linter.unusedVariables false
set_option linter.unusedSimpArgs false

theorem wpList_appO {ops : Array Oper} {rest : List Oper} {o : Oper} {a : Act} {w : World} {Q : Exit → Act → World → Prop} (hgd : Region.wanted o (yielded ops a.tmps) = true) (s x : Operand)
    (ho : o.op = .call { callee := .builtin .append, args := #[s, x], argTypes := #[22, 22] }) (B : Nat) (v : Value) (l : List UInt8) (hv : a.eval s = v) (hob : Ob w B v l)
    (F : Nat → Prop) (y : Value) (m : List UInt8) (hy : a.eval x = y) (hby : By w F y m) (h40 : l.length + m.length ≤ 140737488355328) (hB : B ≤ w.heap.size)
    (h : ∀ A n c w', Ob w' B (.slice A n c) (l ++ m) → Keep (fun k => ownB v = some k) w w' → (∀ k, ownB (.slice A n c) = some k → ownB v = some k ∨ w.heap.size ≤ k) → wpList Try.prog ops Q rest (a.put o.dst (.slice A n c)) w') : wpList Try.prog ops Q (o :: rest) a w := by
  obtain ⟨ib, hib, hb0, hb1, hb2⟩ := info_parts info_byte
  obtain ⟨n, hown⟩ := hob
  have hn : n = l.length := by have := hown.1; rw [bv_len] at this; omega
  subst hn
  refine wpList_append_gen w hgd s x _ _ ho B 5 ib _ 1 1 Try.underlying22 hib hb0 hb1 hb2 rfl v _ (bv l) hv hown y m.length (bv m) hy (By.src hby Try.underlying22) (by unfold maxLen; omega) (by omega) hB ?_
  intro v' w' ho' hk hn'
  obtain ⟨A, c, rfl, _⟩ := ho'.form
  exact h A _ c w' ⟨_, by rw [bv_append]; exact ho'⟩ hk hn'
/-- Where the reference's Patch stands: bytes so far, and the list. -/
def RpSt (w w1 w2 W : World) (u : Value) (acc : List UInt8) (v : Value) (n : Nat) (L : List Nat) : Prop :=
  Ob W w.heap.size u acc ∧ Below w.heap.size w W ∧ Sl W (fun x => w1.heap.size ≤ x ∧ x < w2.heap.size) 1 v n (iv (nz L)) ∧ (∀ k, ownB u = some k → k < w1.heap.size ∨ w2.heap.size ≤ k) ∧ w2.heap.size ≤ W.heap.size
theorem RpSt.same {w w1 w2 W W' : World} {u : Value} {acc : List UInt8} {v : Value} {n : Nat} {L : List Nat} (h : RpSt w w1 w2 W u acc v n L) (hk : Keep (fun _ => False) W W') : RpSt w w1 w2 W' u acc v n L :=
  ⟨h.1.same hk, h.2.1.trans (hk.to_below'.mono h.2.1.size), h.2.2.1.keep hk (fun _ _ _ h => h), h.2.2.2.1, Nat.le_trans h.2.2.2.2 hk.size⟩
theorem RpSt.app {w w1 w2 W W' : World} {u u' : Value} {acc m : List UInt8} {v : Value} {n : Nat} {L : List Nat} (h : RpSt w w1 w2 W u acc v n L) (ho : Ob W' w.heap.size u' (acc ++ m)) (hk : Keep (fun k => ownB u = some k) W W') (hn : ∀ k, ownB u' = some k → ownB u = some k ∨ W.heap.size ≤ k) : RpSt w w1 w2 W' u' (acc ++ m) v n L := by
  obtain ⟨h1, h2, h3, h4, h5⟩ := h
  refine ⟨ho, append_below0 h2 h1.choose_spec hk, h3.keep hk (fun b _ hb e => by have := h4 b e; omega), fun k e => ?_, Nat.le_trans h5 hk.size⟩
  rcases hn k e with e | e
  · exact h4 k e
  · exact .inr (by omega)
theorem RpSt.cell {w w1 w2 W : World} {u : Value} {acc : List UInt8} {A : Option Addr} {n c j : Nat} {L : List Nat} (h : RpSt w w1 w2 W u acc (.slice A n c) n L) (hL : L.length = n) (hj : j < n) : ∃ bl ol, A = some ⟨bl, ol, none⟩ ∧ W.cell? ⟨bl, ol + j, none⟩ = some (.int .i64 ((L.getD j 0 : Nat) : Int)) := by
  obtain ⟨A9, c9, e9, _, _, _, hr⟩ := h.2.2.1
  injection e9 with e91 e92 e93
  subst e91
  obtain ⟨b, o, rfl, _, hc⟩ := hr.at_ (k := j) (by omega)
  refine ⟨b, o, rfl, hc j _ ?_⟩
  have h1 : j < (nz L).length := by unfold nz; rw [List.length_map, hL]; exact hj
  rw [(iv_at h1).1]
  unfold nz
  rw [List.getD_eq_getElem?_getD, List.getElem?_map, List.getD_eq_getElem?_getD, List.getElem?_eq_getElem (by rw [hL]; exact hj)]
  rfl
theorem RpSt.cell' {w w1 w2 W : World} {u : Value} {acc : List UInt8} {n c j bl ol : Nat} {L : List Nat} (h : RpSt w w1 w2 W u acc (.slice (some ⟨bl, ol, none⟩) n c) n L) (hL : L.length = n) (hj : j < n) : W.cell? ⟨bl, ol + j, none⟩ = some (.int .i64 ((L.getD j 0 : Nat) : Int)) := by
  obtain ⟨b, o, e, hc⟩ := h.cell hL hj
  injection e with e
  injection e with e1 e2
  subst e1 e2
  exact hc
set_option maxHeartbeats 8000000 in
theorem rpatch_any (a b : List UInt8) (u v : Value) (F G : Nat → Prop) (w : World) (ha : By w F u a) (hb : By w G v b) (hA : a.length / 512 ≤ 4096) (hB : b.length / 512 ≤ 4096) :
    Calls Try.prog 23 #[u, v] w (ObPost w (patchB (secs a) (secs b))) := by
  have SB := secs_len b
  have B5 := Lib.hid (secs_512 b)
  have AT2 := Lib.hid (fun k (hk : k < (secs b).length) W (hW : Keep (fun _ => False) w W) => show Calls Try.prog 39 #[v, .int .i64 (k : Int)] W fun e w' => ∃ A c, e = .returned (.slice A 512 c) ∧ By W G (.slice A 512 c) ((secs b).getD k []) ∧ W = w' from by
    rw [secs_getD (by omega)]; exact rat_any b v G k W (hb.keep hW (fun _ _ _ h => h)) (by omega) (by omega))
  have UL := Lib.hid (fun W (hk : Keep (fun _ => False) w W) => runlike_any a b u v F G W (ha.keep hk (fun _ _ _ h => h)) (hb.keep hk (fun _ _ _ h => h)) hA hB)
  have SAL := secs_len a
  generalize hSA : secs a = A at *
  generalize hSB : secs b = B at *
  have EN := Lib.hid (fun j => @entsF_next B (unl A B) j)
  have E0 := Lib.hid (show entsF B ((unl A B).take 0) = [] by simp [entsF])
  have EL := Lib.hid (fun j => show (entsF B ((unl A B).take j)).length ≤ 2105344 from by
    have h1 := entsF_len B5.out ((unl A B).take j)
    have h2 := unlT_len A B (max A.length B.length)
    have h3 : ((unl A B).take j).length ≤ (unl A B).length := by rw [List.length_take]; omega
    unfold unl at h3 h1 ⊢
    omega)
  have EB := Lib.hid (fun i => show entB B i = if i < B.length then leB i 2 ++ B.getD i [] else [] from rfl)
  have LT := Lib.hid (fun j (h : j < (unl A B).length) => show (unl A B).getD j 0 < 4096 from by
    rw [List.getD_eq_getElem?_getD, List.getElem?_eq_getElem h]
    have := unl_lt (List.getElem_mem h)
    show (unl A B)[j] < 4096
    omega)
  have hm4 : (unl A B).length ≤ 4096 := by
    have := unlT_len A B (max A.length B.length)
    unfold unl; omega
  unfold patchB
  obtain ⟨A1, c1, rfl, -, -, -, -⟩ := ha
  obtain ⟨A2, c2, rfl, -, -, -, -⟩ := hb
  generalize unl A B = L at *
  obtain ⟨n, hn⟩ : ∃ n, B.length = n := ⟨_, rfl⟩
  have HN := Lib.hid hn
  rw [hn] at AT2 EB SB ⊢
  clear hn hSA hSB SAL hA
  generalize a.length = na at *
  generalize b.length = nb at *
  have q2 : (nb : Int).tdiv 512 = (n : Int) := by rw [Int.tdiv_eq_ediv_of_nonneg (by omega)]; omega
  have qw2 : IntKind.i64.wrap (n : Int) = (n : Int) := IntWalk.i64_in _ (by omega)
  have hn4 : n ≤ 4096 := by omega
  clear SB hB
  obtain ⟨m, hm⟩ : ∃ m, L.length = m := ⟨_, rfl⟩
  have HM := Lib.hid hm
  rw [hm] at EN LT hm4 UL
  clear hm
  have TM := Lib.hid (show L.take m = L by rw [← HM.out, List.take_length])
  go_enter Try.func23, Try.ntmps23
  go_wp2_with fail
  with_reducible refine (refNumO _ _ 2 n (by decide) rfl (by decide) (by omega) _).mono ?_
  rintro e w1 ⟨A3, n3, c3, rfl, ho1, hb1⟩
  have H1 := Lib.hid (And.intro ho1 hb1)
  have K1 := Keep.of_below' hb1
  clear ho1 hb1
  go_wp2_with fail
  with_reducible refine (UL.out _ K1).mono ?_
  rintro e w2 ⟨A4, c4, rfl, ho2, hb2⟩
  have hz2 := hb2.size
  have H2 := Lib.hid (show RpSt w w1 w2 w2 (.slice A3 n3 c3) (leB n 2 ++ entsF B (L.take 0)) (.slice A4 m c4) m L from
    ⟨by rw [E0.out, List.append_nil]; exact H1.out.1.same (Keep.of_below' hb2), H1.out.2.trans (hb2.mono H1.out.2.size), ho2.sl.mono (fun b hb h => ⟨h, hb⟩), fun k e => .inl (H1.out.1.ownB_ k e).2, Nat.le_refl _⟩)
  clear ho2 hb2 UL H1 K1
  go_wp2
  go_loopw [5, 7] (fun y i wr => ∃ (j : Nat) (A5 : Option Addr) (n5 c5 : Nat), j ≤ m ∧ i = .int .i64 (j : Int) ∧ y = .slice A5 n5 c5 ∧ Hid (RpSt w w1 w2 wr (.slice A5 n5 c5) (leB n 2 ++ entsF B (L.take j)) (.slice A4 m c4) m L)) (fun _ i _ => m - (intOf i).toNat)
  case atStart => exact ⟨0, A3, n3, c3, by omega, rfl, rfl, H2⟩
  case round =>
    obtain ⟨j, A5, n5, c5, hj, rfl, rfl, hst⟩ := hrel
    by_cases hlt : j < m
    · have f1 : (j : Int) < (m : Int) := by omega
      have f0 : (0 : Int) ≤ (j : Int) := by omega
      obtain ⟨bl, ol, rfl, hcl⟩ := hst.out.cell HM.out hlt
      have CL := Lib.hid (fun W u acc (h : RpSt w w1 w2 W u acc (.slice (some ⟨bl, ol, none⟩) m c4) m L) => h.cell' HM.out hlt)
      have ENJ := Lib.hid (EN.out j hlt)
      have hi4 := LT.out j hlt
      have EBI := Lib.hid (EB.out (L.getD j 0))
      generalize L.getD j 0 = i at *
      have HC := Lib.hid (show (leB n 2 ++ entsF B (L.take j)).length ≤ 2105346 from by have := EL.out j; rw [List.length_append, leB_len]; omega)
      by_cases hin : i < n
      · have f2 : (i : Int) < (n : Int) := by omega
        have f3 : (0 : Int) ≤ (i : Int) := by omega
        have EJ := Lib.hid (show entsF B (L.take (j + 1)) = entsF B (L.take j) ++ (leB i 2 ++ B.getD i []) by rw [ENJ.out, EBI.out, if_pos hin])
        have L5 := Lib.hid (getD_512' B5.out (k := i) (by rw [HN.out]; exact hin))
        clear ENJ EBI
        go_wp2_with fail
        with_reducible refine (refNumO _ _ 2 i (by decide) rfl (by decide) (by omega) _).mono ?_
        rintro e w5 ⟨A6, n6, c6, rfl, ho6, hb6⟩
        have H6 := Lib.hid (And.intro (hst.out.same (Keep.of_below' hb6)) ho6.by_)
        clear ho6 hb6 hcl hst
        go_wp2_with (refine wpList_appO (by rfl) _ _ (by rfl) w.heap.size _ _ (by rfl) H6.out.1.1 _ _ _ (by rfl) H6.out.2 (by have := HC.out; rw [leB_len]; omega) H6.out.1.2.1.size ?_)
        intro A7 n7 c7 w7 ho7 hk7 hn7
        have H7 := Lib.hid (H6.out.1.app ho7 hk7 hn7)
        have hcl := CL.out _ _ _ H7.out
        have P2 := Lib.hid (AT2.out i hin w7 (Keep.of_below' H7.out.2.1))
        clear ho7 hk7 hn7 H6
        go_wp2_with fail
        with_reducible refine P2.out.mono ?_
        rintro e w8 ⟨A8, c8, rfl, hy8, rfl⟩
        have Y8 := Lib.hid hy8
        clear hy8 P2
        go_wp2_with (refine wpList_appO (by rfl) _ _ (by rfl) w.heap.size _ _ (by rfl) H7.out.1 _ _ _ (by rfl) Y8.out (by have := HC.out; have := L5.out; rw [List.length_append, leB_len]; omega) H7.out.2.1.size ?_)
        intro A9 n9 c9 w9 ho9 hk9 hn9
        have H9 := Lib.hid (show RpSt w w1 w2 w9 (.slice A9 n9 c9) (leB n 2 ++ entsF B (L.take (j + 1))) (.slice (some ⟨bl, ol, none⟩) m c4) m L from by
          have := H7.out.app (show Ob w9 w.heap.size (.slice A9 n9 c9) (leB n 2 ++ entsF B (L.take j) ++ leB i 2 ++ B.getD i []) from by simpa using ho9) hk9 hn9
          rw [EJ.out]; simpa using this)
        clear ho9 hk9 hn9 H7 hcl
        go_wp2
        go_roundw
        case rel => exact ⟨j + 1, A9, n9, c9, by omega, by go_num, rfl, H9⟩
        case measure => simp [intOf]; omega
      · have f2 : ¬ (i : Int) < (n : Int) := by omega
        have HF := Lib.hid (show RpSt w w1 w2 wr (.slice A5 n5 c5) (leB n 2 ++ entsF B (L.take (j + 1))) (.slice (some ⟨bl, ol, none⟩) m c4) m L from by rw [ENJ.out, EBI.out, if_neg hin, List.append_nil]; exact hst.out)
        go_wp2
        go_roundw
        case rel => exact ⟨j + 1, A5, n5, c5, by omega, by go_num, rfl, HF⟩
        case measure => simp [intOf]; omega
    · obtain rfl : j = m := by omega
      have f1 : ¬ (j : Int) < (j : Int) := by omega
      rw [TM.out] at hst
      go_wp2
      go_ret
      exact ⟨_, _, _, rfl, hst.out.1, hst.out.2.1⟩
end Go.Proofs.Ytpedkcmcbejdiaa

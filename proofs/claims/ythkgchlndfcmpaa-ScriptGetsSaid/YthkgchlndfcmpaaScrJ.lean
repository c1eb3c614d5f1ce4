/- Contract of vivariumref31.one. Printed by genscrj.py. -/
import Derived.Test.YthkgchlndfcmpaaScr8
import Derived.Test.YthkgchlndfcmpaaScrC
import Derived.Test.YthkgchlndfcmpaaScrPl
import Derived.Test.YthkgchlndfcmpaaCmdB
import Derived.Test.YthkgchlndfcmpaaOb
import Derived.OwnWalk
import Derived.Test.YthkgchlndfcmpaaScr2
namespace Go.Proofs.Ythkgchlndfcmpaa
open Go.RowKit
set_option maxRecDepth 100000
set_option linter.unusedVariables false
set_option linter.unusedSimpArgs false

theorem wpList_app2 {ops : Array Oper} {rest : List Oper} {o : Oper} {a : Act} {w : World} {Q : Exit → Act → World → Prop} (hgd : Region.wanted o (yielded ops a.tmps) = true) (s x : Operand)
    (ho : o.op = .call { callee := .builtin .append, args := #[s, x], argTypes := #[37, 37] }) (B : Nat) (v : Value) (l : List UInt8) (hv : a.eval s = v) (hob : Ob w B v l)
    (F : Nat → Prop) (y : Value) (m : List UInt8) (hy : a.eval x = y) (hby : By w F y m) (h40 : l.length + m.length ≤ 140737488355328) (hB : B ≤ w.heap.size)
    (h : ∀ A n c w', Ob w' B (.slice A n c) (l ++ m) → Keep (fun k => ownB v = some k) w w' → (∀ k, ownB (.slice A n c) = some k → ownB v = some k ∨ w.heap.size ≤ k) → wpList Try.prog ops Q rest (a.put o.dst (.slice A n c)) w') : wpList Try.prog ops Q (o :: rest) a w := by
  obtain ⟨ib, hib, hb0, hb1, hb2⟩ := info_parts info_byte
  obtain ⟨n, hown⟩ := hob
  have hn : n = l.length := by have := hown.1; rw [bv_len] at this; omega
  subst hn
  refine wpList_append_gen w hgd s x _ _ ho B 5 ib _ 1 1 Try.underlying37 hib hb0 hb1 hb2 rfl v _ (bv l) hv hown y m.length (bv m) hy (By.src hby Try.underlying37) (by unfold maxLen; omega) (by omega) hB ?_
  intro v' w' ho' hk hn
  obtain ⟨A, c, rfl, _⟩ := ho'.form
  exact h A _ c w' ⟨_, by rw [bv_append]; exact ho'⟩ hk hn
/-- An act's box, bytes that are built, numbers that are still to come. -/
def RPt (w W : World) (x : Ac) (u1 u2 u3 t : Value) (L : List UInt8) (u4 : Value) (ls : List Int) : Prop :=
  Ax W w.heap.size x u1 u2 u3 ∧ Ob W (w.heap.size + 1) t L ∧ ML icells 1 W (fun b => ownB t ≠ some b) u4 ls ∧ Keep (fun _ => False) w W
section
variable {w W W' : World} {x : Ac} {u1 u2 u3 t t' u4 u4' : Value} {L L' : List UInt8} {ls ls' : List Int}
theorem RPt.same (h : RPt w W x u1 u2 u3 t L u4 ls) (hk : Keep (fun _ => False) W W') : RPt w W' x u1 u2 u3 t L u4 ls :=
  ⟨h.1.keep hk (fun h => h), h.2.1.same hk, h.2.2.1.same hk, h.2.2.2.trans hk (fun _ _ h => h)⟩
theorem RPt.app (h : RPt w W x u1 u2 u3 t L u4 ls) (ho : Ob W' (w.heap.size + 1) t' L') (hk : Keep (fun k => ownB t = some k) W W') (hn : ∀ k, ownB t' = some k → ownB t = some k ∨ W.heap.size ≤ k) : RPt w W' x u1 u2 u3 t' L' u4 ls := by
  have h1 := h.2.1.ownB_
  refine ⟨h.1.keep hk (fun e => by have := (h1 _ e).1; omega), ho, ?_, h.2.2.2.trans hk (fun b hb e => by have := (h1 b e).1; omega)⟩
  refine ((h.2.2.1.mono (G := fun b => ownB t ≠ some b ∧ b < W.heap.size) (fun b hb h => ⟨h, hb⟩)).keep hk (fun b _ h e => h.1 e)).mono (fun b _ h e => ?_)
  rcases hn b e with e | e
  · exact h.1 e
  · have := h.2; omega
theorem RPt.ls_ (h : RPt w W x u1 u2 u3 t L u4 ls) (hm : ML icells 1 W (fun b => ownB t ≠ some b) u4' ls') : RPt w W x u1 u2 u3 t L u4' ls' := ⟨h.1, h.2.1, hm, h.2.2.2⟩
theorem RPt.base (h : RPt w W x u1 u2 u3 t L u4 ls) : w.heap.size + 1 ≤ W.heap.size := h.1.lt
theorem RPt.post {A : Option Addr} {n c : Nat} (h : RPt w W x u1 u2 u3 (.slice A n c) L u4 ls) (e : L = L') : BytesPost w L' (.returned (.slice A n c)) W := by
  subst e
  exact ⟨A, n, c, rfl, h.2.1.by_.mono (fun b _ h => by omega), h.2.2.2.to_below'⟩
end
set_option maxHeartbeats 8000000 in
theorem rone_any (x : Ac) (u1 u2 u3 : Value) (F : Nat → Prop) (w : World) (h : AM w F x u1 u2 u3) (hs : smallA x) :
    Calls Try.prog 111 #[actV x u1 u2 u3] w (BytesPost w (oneB x)) := by
  have HA := Lib.hid h
  have HS := Lib.hid hs
  obtain ⟨A1, c1, rfl, -⟩ := h.1
  obtain ⟨A2, c2, rfl, -, hc2, -, -⟩ := h.2.1
  obtain ⟨A3, c3, rfl, -, hc3, -, -⟩ := h.2.2
  clear h hs
  have NZ := Lib.hid (fun W (y : Int) => refNumZ 8 y 8 rfl (by decide) W)
  have NN := Lib.hid (fun W (y : Int) => refNumZ 2 y 2 rfl (by decide) W)
  have NO := Lib.hid (fun W => refNumZ 1 x.do_ 1 rfl (by decide) W)
  have ON := Lib.hid (show oneB x = leB (word x.do_) 1 ++ tailA x from rfl)
  have LA := Lib.hid (leB_len (word x.do_) 1)
  have TA := Lib.hid (tailA_eq x)
  rw [ON.out]
  generalize leB (word x.do_) 1 = L at *
  obtain ⟨d, cm, room, frames, nn, fa, fu⟩ := x
  simp only at HA HS NO TA hc2 hc3 ⊢
  generalize tailA _ = T at *
  unfold actV
  go_enter Try.func111, Try.ntmps111
  go_upto_region 1 with fail
  refine wp_world (S := fun X => (Ax X w.heap.size ⟨d, cm, room, frames, nn, fa, fu⟩ (.slice A1 cm.l.length c1) (.slice A2 fa.length c2) (.slice A3 fu.length c3) ∧ Keep (fun _ => False) w X) ∧ w.heap.size + 1 = X.heap.size) ⟨⟨heap_alloc_at _ _ _ rfl, (by repeat first | exact Keep.refl _ _ | refine Keep.alloc ?_ _ | refine Keep.drew ?_ | refine Keep.drewN ?_ _)⟩, by simp⟩ ?_
  intro X hX
  have HX := Lib.hid hX
  clear hX
  obtain ⟨x0, x1, x2, x3, x4, x5, x6, x7, x8, x9, x10, x11, xf⟩ := cells12 HX.out.1.1
  go_wp2_with fail
  have K1 := NO.out X
  with_reducible refine K1.mono ?_
  rintro e w1 ⟨A4, n4, c4, rfl, ho, hb⟩
  have H1 := Lib.hid (show RPt w w1 ⟨d, cm, room, frames, nn, fa, fu⟩ (.slice A1 cm.l.length c1) (.slice A2 fa.length c2) (.slice A3 fu.length c3) (.slice A4 n4 c4) L (.slice none 0 0) [] from
    ⟨HX.out.1.1.keep (Keep.of_below' hb) (fun h => h), ho.mono (by have := HX.out.2; omega), ML.nil _ _ _ _, HX.out.1.2.trans (Keep.of_below' hb) (fun _ _ h => h)⟩)
  clear ho hb K1 NO HX x0 x1 x2 x3 x4 x5 x6 x7 x8 x9 x10 x11 xf
  obtain ⟨x0, x1, x2, x3, x4, x5, x6, x7, x8, x9, x10, x11, xf⟩ := cells12 H1.out.1
  by_cases h0 : d = 0
  · have e0 : (d == 0) = true := by simp [h0]
    have TB := Lib.hid (show T = bytesC cm by rw [TA.out, if_pos h0])
    have BL := Lib.hid (bytesC_le cm)
    have K1 := rcbytes_any cm _ _ w1 (HA.out.1.keep H1.out.2.2.2 (fun _ _ _ h => h)) (by have : cm.l.length ≤ 1000000 := HS.out.1; omega)
    unfold cmdV at K1
    clear h0
    go_wp2_with fail
    with_reducible refine K1.mono ?_
    rintro e w2 ⟨A5, n5, c5, rfl, hy, hb⟩
    have H2 := Lib.hid (H1.out.same (Keep.of_below' hb))
    have HY := Lib.hid hy
    clear hy hb K1 x0 x1 x2 x3 x4 x5 x6 x7 x8 x9 x10 x11 xf
    have hs4 := H2.out.base
    go_wp2_with (at_builtin; refine wpList_app2 rfl _ _ rfl (w.heap.size + 1) _ _ rfl H2.out.2.1 _ _ _ rfl HY.out ?c1 (by omega) ?_)
    case c1 => have := BL.out; have : cm.l.length ≤ 1000000 := HS.out.1; have := LA.out; omega
    intro eA en ec ew ho5 hk5 hn5
    have H3 := Lib.hid (H2.out.app ho5 hk5 hn5)
    clear ho5 hk5 hn5 hs4
    go_wp2
    go_ret
    exact H3.out.post (by rw [TB.out])
  have e0 : (d == 0) = false := by simp [h0]
  by_cases h4 : d = 4
  · have e4 : (d == 4) = true := by simp [h4]
    have e5 : (d == 5) = false := by simp [h4]
    have e6 : (d == 6) = false := by simp [h4]
    have TB := Lib.hid (show L ++ T = L ++ fusesB [room, frames] 2 by rw [TA.out, if_neg h0, if_pos h4]; rfl)
    have LL := Lib.hid (show L.length ≤ 1 by have := LA.out; omega)
    clear h0 h4
    go_upto_region 7 with fail
    refine wp_world (S := fun Z => RPt w Z ⟨d, cm, room, frames, nn, fa, fu⟩ (.slice A1 cm.l.length c1) (.slice A2 fa.length c2) (.slice A3 fu.length c3) (.slice A4 n4 c4) L (.slice (some ⟨w1.heap.size, 0, none⟩) 2 2) [room, frames]) ((H1.out.same ((Keep.refl (fun _ => False) w1).alloc _)).ls_ ⟨_, _, rfl, Nat.le_refl _, by decide, (Rd.lit w1 3 [.int .i64 room, .int .i64 frames]).mono (fun b _ hb e => by have := (H1.out.2.1.ownB_ b e).2; omega), fun h => by cases h⟩) ?_
    intro Z hZ
    have HZ := Lib.hid hZ
    clear hZ H1 x0 x1 x2 x3 x4 x5 x6 x7 x8 x9 x10 x11 xf
    generalize w1.heap.size = P at *
    obtain ⟨x0, x1, x2, x3, x4, x5, x6, x7, x8, x9, x10, x11, xf⟩ := cells12 HZ.out.1
    generalize hls : ([room, frames] : List Int) = ls at *
    obtain ⟨M, hM⟩ : ∃ M : Nat, M = 2 := ⟨_, rfl⟩
    rw [← hM] at HZ TB
    have M2 := Lib.hid (show M ≤ 2 by omega)
    clear hls
    have hM2 := M2.out
    go_wp2
    go_loopw [3, 6] (fun t i wr => ∃ (kk : Nat) (A' : Option Addr) (n' c' : Nat), i = .int .i64 kk ∧ kk ≤ M ∧ t = .slice A' n' c' ∧ Hid (RPt w wr ⟨d, cm, room, frames, nn, fa, fu⟩ (.slice A1 cm.l.length c1) (.slice A2 fa.length c2) (.slice A3 fu.length c3) (.slice A' n' c') (L ++ fusesB ls kk) (.slice (some ⟨P, 0, none⟩) M M) ls)) (fun _ i _ => M - (intOf i).toNat)
    case atStart => exact ⟨0, A4, n4, c4, rfl, Nat.zero_le _, rfl, Lib.hid (by rw [show L ++ fusesB ls 0 = L from List.append_nil _]; exact HZ.out)⟩
    case round =>
      obtain ⟨j, A6, n6, c6, rfl, hj, rfl, ht⟩ := hrel
      by_cases hlt2 : j < M
      · have hi2 : (j : Int) < (M : Nat) := by omega
        have h00 : (0 : Int) ≤ (j : Int) := by omega
        obtain ⟨b, off, z, he, -, hf, q1⟩ := ML.at_ icells_len (by decide) ht.out.2.2.1 hlt2
        have d1 : wr.cell? ⟨b, off + j, none⟩ = some (.int .i64 z) := by have := q1 0 _ rfl; rw [Nat.mul_one, Nat.add_zero] at this; exact this
        injection he with he; injection he with he1 he2 _; subst he1 he2; rw [Nat.zero_add] at d1
        have FN := Lib.hid (fusesB_next hf)
        clear q1 hf
        have LB := Lib.hid (show (L ++ fusesB ls j).length ≤ 1200000003 by rw [List.length_append]; have := fusesB_len ls j; have := M2.out; have := LL.out; omega)
        have K1 := NZ.out wr z
        go_wp2_with fail
        with_reducible refine K1.mono ?_
        rintro e w4 ⟨A8, n8, c8, rfl, ho8, hb8⟩
        have H4 := Lib.hid (ht.out.same (Keep.of_below' hb8))
        have HO8 := Lib.hid ho8
        clear ho8 hb8 K1 d1
        have hs4 := H4.out.base
        go_wp2_with (at_builtin; refine wpList_app2 rfl _ _ rfl (w.heap.size + 1) _ _ rfl H4.out.2.1 _ _ _ rfl HO8.out.by_ ?c1 (by omega) ?_)
        case c1 => have h1 := LB.out; simp only [List.length_append, leB_len] at h1 ⊢; omega
        intro eA en ec ew ho5 hk5 hn5
        have H5 := Lib.hid (H4.out.app ho5 hk5 hn5)
        clear ho5 hk5 hn5 hs4
        have H6 := Lib.hid (show RPt w ew ⟨d, cm, room, frames, nn, fa, fu⟩ (.slice A1 cm.l.length c1) (.slice A2 fa.length c2) (.slice A3 fu.length c3) (.slice eA en ec) (L ++ fusesB ls (j + 1)) (.slice (some ⟨P, 0, none⟩) M M) ls from by
          have h := H5.out
          rw [FN.out]
          simpa only [List.append_assoc] using h)
        clear H5 H4 ht
        go_wp2
        go_roundw
        case rel => exact ⟨j + 1, eA, en, ec, by first | rfl | go_num, by omega, rfl, H6⟩
        case measure => simp [intOf]; omega
      · have hi2 : ¬ (j : Int) < (M : Nat) := by omega
        obtain rfl : j = M := by omega
        go_wp2
        go_ret
        exact ht.out.post (by rw [TB.out])
  have e4 : (d == 4) = false := by simp [h4]
  by_cases h5 : d = 5
  · have e5 : (d == 5) = true := by simp [h5]
    have e6 : (d == 6) = false := by simp [h5]
    have TB := Lib.hid (show L ++ T = L ++ fusesB [nn] 1 by rw [TA.out, if_neg h0, if_neg h4, if_pos h5]; rfl)
    have LL := Lib.hid (show L.length ≤ 1 by have := LA.out; omega)
    clear h0 h4 h5
    go_upto_region 9 with fail
    refine wp_world (S := fun Z => RPt w Z ⟨d, cm, room, frames, nn, fa, fu⟩ (.slice A1 cm.l.length c1) (.slice A2 fa.length c2) (.slice A3 fu.length c3) (.slice A4 n4 c4) L (.slice (some ⟨w1.heap.size, 0, none⟩) 1 1) [nn]) ((H1.out.same ((Keep.refl (fun _ => False) w1).alloc _)).ls_ ⟨_, _, rfl, Nat.le_refl _, by decide, (Rd.lit w1 3 [.int .i64 nn]).mono (fun b _ hb e => by have := (H1.out.2.1.ownB_ b e).2; omega), fun h => by cases h⟩) ?_
    intro Z hZ
    have HZ := Lib.hid hZ
    clear hZ H1 x0 x1 x2 x3 x4 x5 x6 x7 x8 x9 x10 x11 xf
    generalize w1.heap.size = P at *
    obtain ⟨x0, x1, x2, x3, x4, x5, x6, x7, x8, x9, x10, x11, xf⟩ := cells12 HZ.out.1
    generalize hls : ([nn] : List Int) = ls at *
    obtain ⟨M, hM⟩ : ∃ M : Nat, M = 1 := ⟨_, rfl⟩
    rw [← hM] at HZ TB
    have M2 := Lib.hid (show M ≤ 2 by omega)
    clear hls
    have hM2 := M2.out
    go_wp2
    go_loopw [3, 6] (fun t i wr => ∃ (kk : Nat) (A' : Option Addr) (n' c' : Nat), i = .int .i64 kk ∧ kk ≤ M ∧ t = .slice A' n' c' ∧ Hid (RPt w wr ⟨d, cm, room, frames, nn, fa, fu⟩ (.slice A1 cm.l.length c1) (.slice A2 fa.length c2) (.slice A3 fu.length c3) (.slice A' n' c') (L ++ fusesB ls kk) (.slice (some ⟨P, 0, none⟩) M M) ls)) (fun _ i _ => M - (intOf i).toNat)
    case atStart => exact ⟨0, A4, n4, c4, rfl, Nat.zero_le _, rfl, Lib.hid (by rw [show L ++ fusesB ls 0 = L from List.append_nil _]; exact HZ.out)⟩
    case round =>
      obtain ⟨j, A6, n6, c6, rfl, hj, rfl, ht⟩ := hrel
      by_cases hlt2 : j < M
      · have hi2 : (j : Int) < (M : Nat) := by omega
        have h00 : (0 : Int) ≤ (j : Int) := by omega
        obtain ⟨b, off, z, he, -, hf, q1⟩ := ML.at_ icells_len (by decide) ht.out.2.2.1 hlt2
        have d1 : wr.cell? ⟨b, off + j, none⟩ = some (.int .i64 z) := by have := q1 0 _ rfl; rw [Nat.mul_one, Nat.add_zero] at this; exact this
        injection he with he; injection he with he1 he2 _; subst he1 he2; rw [Nat.zero_add] at d1
        have FN := Lib.hid (fusesB_next hf)
        clear q1 hf
        have LB := Lib.hid (show (L ++ fusesB ls j).length ≤ 1200000003 by rw [List.length_append]; have := fusesB_len ls j; have := M2.out; have := LL.out; omega)
        have K1 := NZ.out wr z
        go_wp2_with fail
        with_reducible refine K1.mono ?_
        rintro e w4 ⟨A8, n8, c8, rfl, ho8, hb8⟩
        have H4 := Lib.hid (ht.out.same (Keep.of_below' hb8))
        have HO8 := Lib.hid ho8
        clear ho8 hb8 K1 d1
        have hs4 := H4.out.base
        go_wp2_with (at_builtin; refine wpList_app2 rfl _ _ rfl (w.heap.size + 1) _ _ rfl H4.out.2.1 _ _ _ rfl HO8.out.by_ ?c1 (by omega) ?_)
        case c1 => have h1 := LB.out; simp only [List.length_append, leB_len] at h1 ⊢; omega
        intro eA en ec ew ho5 hk5 hn5
        have H5 := Lib.hid (H4.out.app ho5 hk5 hn5)
        clear ho5 hk5 hn5 hs4
        have H6 := Lib.hid (show RPt w ew ⟨d, cm, room, frames, nn, fa, fu⟩ (.slice A1 cm.l.length c1) (.slice A2 fa.length c2) (.slice A3 fu.length c3) (.slice eA en ec) (L ++ fusesB ls (j + 1)) (.slice (some ⟨P, 0, none⟩) M M) ls from by
          have h := H5.out
          rw [FN.out]
          simpa only [List.append_assoc] using h)
        clear H5 H4 ht
        go_wp2
        go_roundw
        case rel => exact ⟨j + 1, eA, en, ec, by first | rfl | go_num, by omega, rfl, H6⟩
        case measure => simp [intOf]; omega
      · have hi2 : ¬ (j : Int) < (M : Nat) := by omega
        obtain rfl : j = M := by omega
        go_wp2
        go_ret
        exact ht.out.post (by rw [TB.out])
  have e5 : (d == 5) = false := by simp [h5]
  by_cases h6 : d = 6
  · have e6 : (d == 6) = true := by simp [h6]
    have TB := Lib.hid (show L ++ T = (((L ++ leB (word (fa.length : Nat)) 2) ++ fatesB fa fa.length) ++ leB (word (fu.length : Nat)) 2) ++ fusesB fu fu.length by
      rw [TA.out, if_neg h0, if_neg h4, if_neg h5, if_pos h6]; simp only [List.append_assoc])
    clear h0 h4 h5 h6 TA
    have hn6 : fa.length ≤ 1000000 := HS.out.2.1
    have hm6 : fu.length ≤ 1000000 := HS.out.2.2
    have L2 := Lib.hid (show (L ++ leB (word (fa.length : Nat)) 2).length ≤ 3 by rw [List.length_append, leB_len]; have := LA.out; omega)
    have L3 := Lib.hid (show ∀ k, (fatesB fa k).length ≤ k * 16 from fun k => fatesB_len fa k)
    have HFA := Lib.hid HA.out.2.1
    have HFU := Lib.hid HA.out.2.2
    clear HS
    generalize hn : fa.length = n at *
    generalize hm : fu.length = m at *
    have HNM := Lib.hid (And.intro hn hm)
    clear hn hm
    have K1 := NN.out w1 (n : Nat)
    go_wp2_with fail
    with_reducible refine K1.mono ?_
    rintro e w2 ⟨A5, n5, c5, rfl, ho, hb⟩
    have H2 := Lib.hid (H1.out.same (Keep.of_below' hb))
    have HO2 := Lib.hid ho
    clear ho hb K1 H1 x0 x1 x2 x3 x4 x5 x6 x7 x8 x9 x10 x11 xf
    have hs4 := H2.out.base
    go_wp2_with (at_builtin; refine wpList_app2 rfl _ _ rfl (w.heap.size + 1) _ _ rfl H2.out.2.1 _ _ _ rfl HO2.out.by_ ?c1 (by omega) ?_)
    case c1 => have := LA.out; rw [leB_len]; omega
    intro gA gn gc gw ho5 hk5 hn5
    have H3 := Lib.hid (H2.out.app ho5 hk5 hn5)
    clear ho5 hk5 hn5 hs4
    clear H2 HO2
    obtain ⟨x0, x1, x2, x3, x4, x5, x6, x7, x8, x9, x10, x11, xf⟩ := cells12 H3.out.1
    go_wp2
    go_loopw [3, 5] (fun t i wr => ∃ (k : Nat) (A' : Option Addr) (n' c' : Nat), i = .int .i64 k ∧ k ≤ n ∧ t = .slice A' n' c' ∧ Hid (RPt w wr ⟨d, cm, room, frames, nn, fa, fu⟩ (.slice A1 cm.l.length c1) (.slice A2 n c2) (.slice A3 m c3) (.slice A' n' c') ((L ++ leB (word (n : Nat)) 2) ++ fatesB fa k) (.slice none 0 0) [])) (fun _ i _ => n - (intOf i).toNat)
    case atStart => exact ⟨0, gA, gn, gc, rfl, Nat.zero_le _, rfl, Lib.hid (by rw [show (L ++ leB (word (n : Nat)) 2) ++ fatesB fa 0 = L ++ leB (word (n : Nat)) 2 from List.append_nil _]; exact H3.out)⟩
    case round =>
      obtain ⟨k, A6, n6, c6, rfl, hk, rfl, ht⟩ := hrel
      clear x0 x1 x2 x3 x4 x5 x6 x7 x8 x9 x10 x11 xf
      obtain ⟨x0, x1, x2, x3, x4, x5, x6, x7, x8, x9, x10, x11, xf⟩ := cells12 ht.out.1
      by_cases hlt : k < n
      · have hi : (k : Int) < (n : Int) := by omega
        have h00 : (0 : Int) ≤ (k : Int) := by omega
        have ht2 := Lib.hid (HFA.out.keep ht.out.2.2.2 (fun _ _ _ h => h))
        obtain ⟨b, off, f, rfl, -, hf, q1⟩ := ML.at_ fcells_len (by decide) ht2.out hlt
        have d1 : wr.cell? ⟨b, off + k * 2, none⟩ = some (.int .i64 f.kept) := q1 0 _ rfl
        have d2 : wr.cell? ⟨b, off + k * 2 + 1, none⟩ = some (.int .i64 f.torn) := q1 1 _ rfl
        have D2 := Lib.hid (show ∀ W', Keep (fun _ => False) w W' → W'.cell? ⟨b, off + k * 2 + 1, none⟩ = some (.int .i64 f.torn) from fun W' hk' => by
          obtain ⟨b', off', f', he, -, hf', q1'⟩ := ML.at_ fcells_len (by decide) (HFA.out.keep hk' (fun _ _ _ h => h)) hlt
          injection he with he
          injection he with he1 he2 _
          subst he1 he2
          rw [hf] at hf'
          injection hf' with hf'
          subst hf'
          exact q1' 1 _ rfl)
        have FN := Lib.hid (fatesB_next hf)
        clear q1 hf ht2
        obtain ⟨fk, ft⟩ := f
        simp only at d1 d2 FN D2
        have LB := Lib.hid (show ((L ++ leB (word (n : Nat)) 2) ++ fatesB fa k).length ≤ 1100000003 by rw [List.length_append]; have := L2.out; have := L3.out k; omega)
        have K1 := NZ.out wr fk
        go_wp2_with fail
        with_reducible refine K1.mono ?_
        rintro e w4 ⟨A8, n8, c8, rfl, ho8, hb8⟩
        have H4 := Lib.hid (ht.out.same (Keep.of_below' hb8))
        have HO8 := Lib.hid ho8
        clear ho8 hb8 K1 d1 d2 x0 x1 x2 x3 x4 x5 x6 x7 x8 x9 x10 x11 xf
        have hs4 := H4.out.base
        go_wp2_with (at_builtin; refine wpList_app2 rfl _ _ rfl (w.heap.size + 1) _ _ rfl H4.out.2.1 _ _ _ rfl HO8.out.by_ ?c1 (by omega) ?_)
        case c1 => have h1 := LB.out; simp only [List.length_append, leB_len] at h1 ⊢; omega
        intro eA en ec ew ho5 hk5 hn5
        have H5 := Lib.hid (H4.out.app ho5 hk5 hn5)
        clear ho5 hk5 hn5 hs4
        have d2 := D2.out _ H5.out.2.2.2
        obtain ⟨x0, x1, x2, x3, x4, x5, x6, x7, x8, x9, x10, x11, xf⟩ := cells12 H5.out.1
        have K2 := NZ.out ew ft
        clear H4 HO8
        go_wp2_with fail
        with_reducible refine K2.mono ?_
        rintro e w6 ⟨A8, n8, c8, rfl, ho8, hb8⟩
        have H6 := Lib.hid (H5.out.same (Keep.of_below' hb8))
        have HO8 := Lib.hid ho8
        clear ho8 hb8 K2 d2 x0 x1 x2 x3 x4 x5 x6 x7 x8 x9 x10 x11 xf H5
        have hs4 := H6.out.base
        go_wp2_with (at_builtin; refine wpList_app2 rfl _ _ rfl (w.heap.size + 1) _ _ rfl H6.out.2.1 _ _ _ rfl HO8.out.by_ ?c1 (by omega) ?_)
        case c1 => have h1 := LB.out; simp only [List.length_append, leB_len] at h1 ⊢; omega
        intro fA fn fc fw ho5 hk5 hn5
        have H7 := Lib.hid (H6.out.app ho5 hk5 hn5)
        clear ho5 hk5 hn5 hs4
        have H8 := Lib.hid (show RPt w fw ⟨d, cm, room, frames, nn, fa, fu⟩ (.slice A1 cm.l.length c1) (.slice (some ⟨b, off, none⟩) n c2) (.slice A3 m c3) (.slice fA fn fc) ((L ++ leB (word (n : Nat)) 2) ++ fatesB fa (k + 1)) (.slice none 0 0) [] from by
          have h := H7.out
          rw [FN.out]
          simpa only [List.append_assoc] using h)
        clear H7 H6 ht HO8
        go_wp2
        go_roundw
        case rel => exact ⟨k + 1, fA, fn, fc, by first | rfl | go_num, by omega, rfl, H8⟩
        case measure => simp [intOf]; omega
      · have hi : ¬ (k : Int) < (n : Int) := by omega
        obtain rfl : k = n := by omega
        have L4 := Lib.hid (show ((L ++ leB (word (k : Nat)) 2) ++ fatesB fa k).length ≤ 1100000003 by rw [List.length_append]; have := L2.out; have := L3.out k; omega)
        have K1 := NN.out wr (m : Nat)
        go_wp2_with fail
        with_reducible refine K1.mono ?_
        rintro e w4 ⟨A8, n8, c8, rfl, ho8, hb8⟩
        have H4 := Lib.hid (ht.out.same (Keep.of_below' hb8))
        have HO8 := Lib.hid ho8
        clear ho8 hb8 K1 x0 x1 x2 x3 x4 x5 x6 x7 x8 x9 x10 x11 xf
        have hs4 := H4.out.base
        go_wp2_with (at_builtin; refine wpList_app2 rfl _ _ rfl (w.heap.size + 1) _ _ rfl H4.out.2.1 _ _ _ rfl HO8.out.by_ ?c1 (by omega) ?_)
        case c1 => have h1 := L4.out; simp only [List.length_append, leB_len] at h1 ⊢; omega
        intro eA en ec ew ho5 hk5 hn5
        have H5 := Lib.hid (H4.out.app ho5 hk5 hn5)
        clear ho5 hk5 hn5 hs4
        have HZ := Lib.hid (H5.out.ls_ ((HFU.out.mono (G := fun b => b < w.heap.size) (fun b hb _ => hb)).keep H5.out.2.2.2 (fun _ _ _ h => h) |>.mono (fun b _ hb e => by have := (H5.out.2.1.ownB_ b e).1; omega)))
        clear H4 H5 ht HO8
        have L5 := Lib.hid (show (((L ++ leB (word (k : Nat)) 2) ++ fatesB fa k) ++ leB (word (m : Nat)) 2).length ≤ 1100000005 by rw [List.length_append, leB_len]; have := L4.out; omega)
        have HZ1 := Lib.hid (show RPt w ew ⟨d, cm, room, frames, nn, fa, fu⟩ (.slice A1 cm.l.length c1) (.slice A2 k c2) (.slice A3 m c3) (.slice eA en ec) (((L ++ leB (word (k : Nat)) 2) ++ fatesB fa k) ++ leB (word (m : Nat)) 2) (.slice A3 m c3) fu from by
          have h := HZ.out
          simpa only [List.append_assoc] using h)
        clear HZ
        obtain ⟨x0, x1, x2, x3, x4, x5, x6, x7, x8, x9, x10, x11, xf⟩ := cells12 HZ1.out.1
        go_wp2
        go_loopw [3, 6] (fun t i wr => ∃ (kk : Nat) (A' : Option Addr) (n' c' : Nat), i = .int .i64 kk ∧ kk ≤ m ∧ t = .slice A' n' c' ∧ Hid (RPt w wr ⟨d, cm, room, frames, nn, fa, fu⟩ (.slice A1 cm.l.length c1) (.slice A2 k c2) (.slice A3 m c3) (.slice A' n' c') ((((L ++ leB (word (k : Nat)) 2) ++ fatesB fa k) ++ leB (word (m : Nat)) 2) ++ fusesB fu kk) (.slice A3 m c3) fu)) (fun _ i _ => m - (intOf i).toNat)
        case atStart => exact ⟨0, eA, en, ec, rfl, Nat.zero_le _, rfl, Lib.hid (by rw [show (((L ++ leB (word (k : Nat)) 2) ++ fatesB fa k) ++ leB (word (m : Nat)) 2) ++ fusesB fu 0 = (((L ++ leB (word (k : Nat)) 2) ++ fatesB fa k) ++ leB (word (m : Nat)) 2) from List.append_nil _]; exact HZ1.out)⟩
        case round =>
          obtain ⟨j, A6, n6, c6, rfl, hj, rfl, ht⟩ := hrel
          by_cases hlt2 : j < m
          · have hi2 : (j : Int) < (m : Nat) := by omega
            have h00 : (0 : Int) ≤ (j : Int) := by omega
            obtain ⟨b, off, z, he, -, hf, q1⟩ := ML.at_ icells_len (by decide) ht.out.2.2.1 hlt2
            have d1 : wr.cell? ⟨b, off + j, none⟩ = some (.int .i64 z) := by have := q1 0 _ rfl; rw [Nat.mul_one, Nat.add_zero] at this; exact this
            subst he
            have FN := Lib.hid (fusesB_next hf)
            clear q1 hf
            have LB := Lib.hid (show ((((L ++ leB (word (k : Nat)) 2) ++ fatesB fa k) ++ leB (word (m : Nat)) 2) ++ fusesB fu j).length ≤ 1200000003 by rw [List.length_append]; have := fusesB_len fu j; have := L5.out; omega)
            have K1 := NZ.out wr z
            go_wp2_with fail
            with_reducible refine K1.mono ?_
            rintro e w4 ⟨A8, n8, c8, rfl, ho8, hb8⟩
            have H4 := Lib.hid (ht.out.same (Keep.of_below' hb8))
            have HO8 := Lib.hid ho8
            clear ho8 hb8 K1 d1
            have hs4 := H4.out.base
            go_wp2_with (at_builtin; refine wpList_app2 rfl _ _ rfl (w.heap.size + 1) _ _ rfl H4.out.2.1 _ _ _ rfl HO8.out.by_ ?c1 (by omega) ?_)
            case c1 => have h1 := LB.out; simp only [List.length_append, leB_len] at h1 ⊢; omega
            intro eA en ec ew ho5 hk5 hn5
            have H5 := Lib.hid (H4.out.app ho5 hk5 hn5)
            clear ho5 hk5 hn5 hs4
            have H6 := Lib.hid (show RPt w ew ⟨d, cm, room, frames, nn, fa, fu⟩ (.slice A1 cm.l.length c1) (.slice A2 k c2) (.slice (some ⟨b, off, none⟩) m c3) (.slice eA en ec) ((((L ++ leB (word (k : Nat)) 2) ++ fatesB fa k) ++ leB (word (m : Nat)) 2) ++ fusesB fu (j + 1)) (.slice (some ⟨b, off, none⟩) m c3) fu from by
              have h := H5.out
              rw [FN.out]
              simpa only [List.append_assoc] using h)
            clear H5 H4 ht
            go_wp2
            go_roundw
            case rel => exact ⟨j + 1, eA, en, ec, by first | rfl | go_num, by omega, rfl, H6⟩
            case measure => simp [intOf]; omega
          · have hi2 : ¬ (j : Int) < (m : Nat) := by omega
            obtain rfl : j = m := by omega
            go_wp2
            go_ret
            exact ht.out.post (by rw [TB.out])
  have e6 : (d == 6) = false := by simp [h6]
  have TB := Lib.hid (show T = [] by rw [TA.out, if_neg h0, if_neg h4, if_neg h5, if_neg h6])
  clear h0 h4 h5 h6
  go_wp2
  go_loopw [3, 6] (fun t i wr => i = .int .i64 0 ∧ t = .slice A4 n4 c4 ∧ wr = w1) (fun _ _ _ => 0)
  case atStart => exact ⟨rfl, rfl, rfl⟩
  case round =>
    obtain ⟨rfl, rfl, rfl⟩ := hrel
    go_wp2
    go_ret
    exact H1.out.post (by rw [TB.out, List.append_nil])
end Go.Proofs.Ythkgchlndfcmpaa
namespace Go.Proofs.Ythkgchlndfcmpaa
open Go.RowKit
set_option maxRecDepth 100000
set_option linter.unusedVariables false
set_option linter.unusedSimpArgs false

set_option maxHeartbeats 8000000 in
theorem rbytesA_any (l : List Ac) (v : Value) (F : Nat → Prop) (w : World) (h : AS w F v l) (hs : ∀ x ∈ l, smallA x) (hb : ∀ k, (putsB l k).length ≤ 1000000000) :
    Calls Try.prog 66 #[v] w (BytesPost w (putsB l l.length)) := by
  have HA := Lib.hid h
  have HS := Lib.hid (show ∀ k x, l[k]? = some x → smallA x from fun k x hx => hs x (List.mem_of_getElem? hx))
  have HB := Lib.hid hb
  have hl := h.len
  obtain ⟨A, c, rfl, hc⟩ := h.form
  clear h hs hb hc
  generalize hn : l.length = n at *
  clear hn
  go_enter Try.func66, Try.ntmps66
  go_wp2
  go_loopw [3, 4] (fun t i wr => ∃ k : Nat, k ≤ n ∧ i = .int .i64 k ∧ (∃ A n' c, t = .slice A n' c ∧ Hid (Ob wr w.heap.size (.slice A n' c) (putsB l k) ∧ Keep (fun _ => False) w wr))) (fun _ i _ => n - (intOf i).toNat)
  case atStart => exact ⟨0, by omega, rfl, none, 0, 0, rfl, Lib.hid ⟨Ob.nil _ _ _, Keep.refl _ _⟩⟩
  case round =>
    obtain ⟨k, hk, rfl, A6, n6, c6, rfl, ht⟩ := hrel
    by_cases hlt : k < n
    · have hi : (k : Int) < (n : Int) := by omega
      have h00 : (0 : Int) ≤ (k : Int) := by omega
      obtain ⟨b, off, x, u1, u2, u3, rfl, -, hx, ham, hcs⟩ := (HA.out.same ht.out.2).at_ hlt
      have PN := Lib.hid (putsB_next hx)
      obtain ⟨A1, m1, rfl, -⟩ := ham.1
      obtain ⟨A2, m2, rfl⟩ := ham.2.1.form
      obtain ⟨A3, m3, rfl⟩ := ham.2.2.form
      have SM := Lib.hid (HS.out k x hx)
      have HC := Lib.hid hcs
      have HM := Lib.hid ham
      clear hcs hx ham
      obtain ⟨y0, y1, y2, y3, y4, y5, y6, y7, y8, y9, y10, y11⟩ := cells_at12 HC.out
      have K1 := rrightA x _ _ _ _ wr HM.out
      unfold actV at K1
      go_wp2_with fail
      with_reducible refine K1.mono ?_
      rintro e w2 ⟨rfl, hb⟩
      have kk := Lib.hid (Keep.of_below' hb)
      have H2 := Lib.hid (And.intro (ht.out.1.same kk.out) (And.intro (HM.out.same kk.out) (ht.out.2.trans kk.out (fun _ _ h => h))))
      clear hb K1 y0 y1 y2 y3 y4 y5 y6 y7 y8 y9 y10 y11
      obtain ⟨y0, y1, y2, y3, y4, y5, y6, y7, y8, y9, y10, y11⟩ := cells_at12 (fun j u hu => kk.out.cell (fun h => h) (HC.out j u hu))
      have hs2 := H2.out.2.2.size
      by_cases hr : rightA x = true
      · have PN2 := Lib.hid (show putsB l (k + 1) = putsB l k ++ oneB x by rw [PN.out, if_pos hr])
        have LB := Lib.hid (show (putsB l k).length + (oneB x).length ≤ 1000000000 by have := HB.out (k + 1); rw [PN2.out, List.length_append] at this; exact this)
        have K1 := rone_any x _ _ _ _ w2 H2.out.2.1 SM.out
        unfold actV at K1
        go_wp2_with fail
        with_reducible refine K1.mono ?_
        rintro e w3 ⟨A7, n7, c7, rfl, hy, hb⟩
        have H3 := Lib.hid (And.intro (H2.out.1.same (Keep.of_below' hb)) (And.intro hy (H2.out.2.2.trans (Keep.of_below' hb) (fun _ _ h => h))))
        have hs3 := H3.out.2.2.size
        clear hy hb K1 y0 y1 y2 y3 y4 y5 y6 y7 y8 y9 y10 y11
        go_wp2_with (at_builtin; refine wpList_app2 rfl _ _ rfl w.heap.size _ _ rfl H3.out.1 _ _ _ rfl H3.out.2.1 ?c1 hs3 ?_)
        case c1 => have := LB.out; omega
        intro eA en ec ew ho5 hk5 hn5
        have NT := Lib.hid (show Ob ew w.heap.size (.slice eA en ec) (putsB l (k + 1)) ∧ Keep (fun _ => False) w ew from ⟨by rw [PN2.out]; exact ho5, H3.out.2.2.trans hk5 (fun b hb e => by have := (H3.out.1.ownB_ b e).1; omega)⟩)
        clear ho5 hk5 hn5
        go_wp2
        go_roundw
        case rel => exact ⟨k + 1, by omega, by first | rfl | go_num, eA, en, ec, rfl, NT⟩
        case measure => simp [intOf]; omega
      · have hr : rightA x = false := by simpa using hr
        have PN2 := Lib.hid (show putsB l (k + 1) = putsB l k by rw [PN.out, if_neg (by simp [hr]), List.append_nil])
        have NT := Lib.hid (And.intro H2.out.1 H2.out.2.2)
        rw [← PN2.out] at NT
        go_wp2
        go_roundw
        case rel => exact ⟨k + 1, by omega, by first | rfl | go_num, A6, n6, c6, rfl, NT⟩
        case measure => simp [intOf]; omega
    · have hi : ¬ (k : Int) < (n : Int) := by omega
      obtain rfl : k = n := by omega
      go_wp2
      go_ret
      exact ⟨A6, n6, c6, rfl, ht.out.1.by_, ht.out.2.to_below'⟩
end Go.Proofs.Ythkgchlndfcmpaa

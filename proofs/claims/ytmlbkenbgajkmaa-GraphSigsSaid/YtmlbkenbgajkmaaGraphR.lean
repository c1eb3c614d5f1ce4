/- Contracts of vivariumref10.Find, Node, Go. -/
import Derived.Test.YtmlbkenbgajkmaaGraph1
import Derived.Test.YtmlbkenbgajkmaaBits6
import Derived.Deep.RegionHeld3
namespace Go.Proofs.Ytmlbkenbgajkmaa
open Go.RowKit
set_option maxRecDepth 100000

theorem rgFind (S : List Nat) (A : Option Addr) (n c : Nat) (F : Nat → Prop) (w : World) (hr : Rd w F A n (uv S)) (hn : n ≤ 4611686018427387904) (x : Nat) :
    Calls Try.prog 29 #[.slice A n c, .int .u64 x] w fun e w' => e = .returned (.tuple #[.int .i64 ((pos S x).getD 0 : Nat), .bool (pos S x).isSome]) ∧ w = w' := by
  have L := Lib.hid (show S.length = n by have := hr.1; simpa [uv] using this)
  go_enter Try.func29, Try.ntmps29
  go_wp2
  go_loop [6] (fun i => ∃ k : Nat, k ≤ n ∧ i = .int .i64 k ∧ Hid (∀ j, j < k → S[j]? ≠ some x)) (fun i => n - (intOf i).toNat)
  case atStart => exact ⟨0, by omega, rfl, Lib.hid (fun j hj => by omega)⟩
  case round =>
    obtain ⟨k, hk, rfl, hno⟩ := hrel
    by_cases hlt : k < n
    · obtain ⟨b1, o1, rfl, _, c1⟩ := hr.at_ hlt
      obtain ⟨e1, e2⟩ := uv_at (l := S) (k := k) (by rw [L.out]; exact hlt)
      have c1 := c1 k _ e1
      clear e1
      have hi : (k : Int) < (n : Int) := by omega
      by_cases hx : S.getD k 0 = x
      · have hp := Lib.hid (show pos S x = some k from pos_some.2 ⟨by rw [e2, hx], hno.out⟩)
        rw [hx] at c1
        have hb : ((x : Int) == x) = true := by simp
        clear e2 hx hno
        go_wp2
        go_ret2
        rw [hp.out]
        exact ⟨rfl, rfl⟩
      · have hno' := Lib.hid (show ∀ j, j < k + 1 → S[j]? ≠ some x by
          intro j hj
          rcases Nat.lt_or_ge j k with h1 | h1
          · exact hno.out j h1
          · obtain rfl : j = k := by omega
            rw [e2]
            intro h
            injection h with h
            exact hx h)
        have hb : (((S.getD k 0 : Nat) : Int) == x) = false := by rw [beq_eq_false_iff_ne]; intro h; exact hx (by omega)
        generalize S.getD k 0 = y at *
        clear e2 hx hno
        go_wp2
        go_round
        case rel => exact ⟨k + 1, by omega, by go_num, hno'⟩
        case measure => simp [intOf]; omega
    · obtain rfl : k = n := by omega
      have hp := Lib.hid (show pos S x = none by
        rw [pos_none]
        intro h
        obtain ⟨j, hj, e⟩ := List.getElem_of_mem h
        exact hno.out j (by rw [← L.out]; exact hj) (by rw [List.getElem?_eq_getElem hj, e]))
      clear hno
      go_wp2
      go_ret2
      rw [hp.out]
      exact ⟨rfl, rfl⟩

theorem rgNode (S : List Nat) (A : Option Addr) (n c : Nat) (F : Nat → Prop) (w : World) (hs : Sl w F 1 (.slice A n c) n (uv S)) (hn : n ≤ 1099511627776) (x : Nat) :
    Calls Try.prog 68 #[.slice A n c, .int .u64 x] w fun e w' => ∃ v', e = .returned (.tuple #[v', .int .i64 (nodeI S x : Nat)]) ∧
      Sl w' (fun k => F k ∨ w.heap.size ≤ k) 1 v' (nodeS S x).length (uv (nodeS S x)) ∧ Below w.heap.size w w' := by
  obtain ⟨i0, hi0, hz0, hz1, hz2⟩ := info_parts info_u64
  obtain ⟨A', c', hv, h1, h2, h3, hr⟩ := hs
  injection hv with e1 _ e3
  subst e1 e3
  have L := Lib.hid (show S.length = n by have := hr.1; simpa [uv] using this)
  have F0 := Lib.hid (rgFind S A n c F w (by simpa using hr) (by omega) x)
  cases hpos : pos S x with
  | some k =>
    rw [hpos] at F0
    obtain ⟨e1, e2⟩ := nodeS_old hpos
    rw [e1, e2]
    have HH := Lib.hid (show Sl w (fun k => F k ∨ w.heap.size ≤ k) 1 (.slice A n c) S.length (uv S) from by rw [L.out]; exact Sl.mono ⟨A, c, rfl, h1, h2, h3, hr⟩ (fun _ _ h => .inl h))
    clear hpos e1 e2 hr h3 L
    go_enter Try.func68, Try.ntmps68
    go_wp2_with (go_at_call 29; refine F0.out.mono ?_; rintro e w' ⟨rfl, rfl⟩)
    go_ret2
    exact ⟨_, rfl, HH.out, Below.refl _ _⟩
  | none =>
    rw [hpos] at F0
    obtain ⟨e1, e2⟩ := nodeS_new hpos
    rw [e1, e2, L.out]
    have HS := Lib.hid (show ∀ W : World, Below w.heap.size w W → Src Try.prog 1 39 (.slice A n c) n (uv S) W from fun W hb => (hr.below hb).src Try.underlying39 (uv_one S) (by omega))
    have E := Lib.hid (show uv S ++ [Value.int .u64 (x : Int)] = uv (S ++ [x]) by simp [uv])
    have LL := Lib.hid (show (S ++ [x]).length = n + 1 by simp [L.out])
    clear hpos e1 e2 hr h3 L
    go_enter Try.func68, Try.ntmps68
    go_wp2_with (first
      | (go_at_call 29; refine F0.out.mono ?_; rintro e w' ⟨rfl, rfl⟩)
      | (at_builtin; refine wpList_append_gen _ rfl _ _ _ _ rfl w.heap.size 36 i0 _ 1 8 Try.underlying39 hi0 hz0 hz1 hz2 rfl _ _ _ rfl (Own.none_ _ _ _ _ _) _ n _ rfl (HS.out _ ?b1) ?c1 ?c2 ?c3 ?_))
    case b1 => exact ((Keep.refl (fun _ => False) w).alloc _).to_below'
    case c1 => unfold maxLen; omega
    case c2 => omega
    case c3 => simp
    intro v1 w1 ho1 hk1 _
    have hk1 : Keep (fun _ => False) w w1 := Keep.trans (T := fun _ => False) ((Keep.refl (fun _ => False) w).alloc _) (hk1.mono (fun k hk h => by simp [ownB] at h)) (fun _ _ h => h)
    have HK1 := Lib.hid hk1
    have sz := hk1.size
    clear hk1 HS
    obtain ⟨A1, c1, rfl, _⟩ := ho1.form
    have HO1 := Lib.hid ho1
    clear ho1
    go_wp2_with (at_builtin; refine wpList_append_gen _ rfl _ _ _ _ rfl w.heap.size 36 i0 _ 1 8 Try.underlying39 hi0 hz0 hz1 hz2 rfl _ _ _ rfl (HO1.out.alloc _) _ 1 _ rfl (src_one _ _ Try.underlying39 rfl) ?d1 ?d2 ?d3 ?_)
    case d1 => unfold maxLen; omega
    case d2 => omega
    case d3 => simp; omega
    intro v2 w2 ho2 hk2 _
    rw [E.out] at ho2
    have hb : Below w.heap.size w w2 := (Keep.trans (S := fun k => w.heap.size ≤ k) ((HK1.out.mono (fun _ _ h => h.elim)).alloc _) hk2 (fun k hk h => (HO1.out.ownB k h).1)).to_below (Nat.le_refl _)
    have H := Lib.hid (And.intro ho2 hb)
    clear ho2 hk2 hb
    go_wp2
    go_ret2
    exact ⟨_, rfl, by rw [LL.out]; exact H.out.1.sl.mono (fun _ _ h => .inr h), H.out.2⟩
theorem rgGo (S : List Nat) (A : Option Addr) (n c : Nat) (F : Nat → Prop) (w : World) (hs : Sl w F 1 (.slice A n c) n (uv S)) (hn : n ≤ 1099511627776) (hS : ∀ x ∈ S, x < 18446744073709551616) (act nn cc : Int) (sig : Nat) :
    Calls Try.prog 25 #[.slice A n c, .agg #[.int .i64 act, .int .u64 sig, .int .i64 nn, .int .i64 cc]] w fun e w' => ∃ v', e = .returned (.tuple #[v', .int .i64 (goS S act nn cc sig).2]) ∧
      Sl w' (fun k => F k ∨ w.heap.size ≤ k) 1 v' (goS S act nn cc sig).1.length (uv (goS S act nn cc sig).1) ∧ Below w.heap.size w w' := by
  have L := Lib.hid (show S.length = n by have := hs.len; simpa [uv] using this)
  have hk0 := (Keep.refl (fun _ => False) w).alloc (.cells #[.int .i64 act, .int .u64 (sig : Int), .int .i64 nn, .int .i64 cc] 42)
  have ND := Lib.hid (show ∀ x W, Keep (fun _ => False) w W → Calls Try.prog 68 #[.slice A n c, .int .u64 (x : Nat)] W fun e w' => ∃ v', e = .returned (.tuple #[v', .int .i64 (nodeI S x : Nat)]) ∧
      (Sl w' (fun k => F k ∨ w.heap.size ≤ k) 1 v' (nodeS S x).length (uv (nodeS S x)) ∧ Keep (fun _ => False) w w' ∧ Keep (fun _ => False) W w') from
    fun x W hk => (rgNode S A n c F W (hs.keep hk (fun _ _ _ h => h)) hn x).mono fun e w' ⟨v', he, hs', hb'⟩ => ⟨v', he, hs'.mono (fun k hk2 h => h.imp id (fun h => by have := hk.size; omega)), hk.trans (T := fun _ => False) (Keep.of_below' hb') (fun _ _ h => h), Keep.of_below' hb'⟩)
  have HK := Lib.hid hk0
  have HS := Lib.hid hs
  by_cases h12 : act = 1 ∨ act = 2
  · by_cases hin : 0 ≤ nn ∧ nn < n
    · obtain ⟨k, rfl⟩ := Int.eq_ofNat_of_zero_le hin.1
      have hk : k < n := by omega
      obtain ⟨A', c', hv, h1, h2, h3, hr⟩ := hs
      injection hv with e1 _ e3
      subst e1 e3
      rw [Nat.mul_one] at hr
      obtain ⟨b, off, rfl, _, hc⟩ := hr.at_ hk
      obtain ⟨ec, es⟩ := uv_at (l := S) (k := k) (by rw [L.out]; exact hk)
      have ck := hc k _ ec
      have hx : S.getD k 0 < 18446744073709551616 := hS _ (List.mem_of_getElem? es)
      have GS := Lib.hid (show goS S act (k : Int) cc sig = (nodeS S (stepSig (S.getD k 0) cc (decide (act = 1))), ((nodeI S (stepSig (S.getD k 0) cc (decide (act = 1))) : Nat) : Int)) by
        unfold goS
        rw [if_pos h12, if_pos ⟨by omega, by rw [L.out]; omega⟩]
        rfl)
      have CS := Lib.hid (show ∀ W, Keep (fun _ => False) (w.alloc (.cells #[.int .i64 act, .int .u64 (sig : Int), .int .i64 (k : Int), .int .i64 cc] 42)) W →
          W.cell? ⟨w.heap.size, 2, none⟩ = some (.int .i64 (k : Int)) ∧ W.cell? ⟨w.heap.size, 3, none⟩ = some (.int .i64 cc) ∧ W.cell? ⟨b, off + k, none⟩ = some (.int .u64 (S.getD k 0 : Nat)) from fun W hW => by
        refine ⟨hW.cell (fun h => h) ?_, hW.cell (fun h => h) ?_, hW.cell (fun h => h) (hk0.cell (fun h => h) ck)⟩
        · rw [cell_of_row _ _ 2 _ _ _ (heap_alloc_new w _)]; rfl
        · rw [cell_of_row _ _ 3 _ _ _ (heap_alloc_new w _)]; rfl)
      obtain ⟨g2, g3, gk⟩ := CS.out _ (Keep.refl _ _)
      have HKA := Lib.hid (Keep.refl (fun _ => False) (w.alloc (.cells #[.int .i64 act, .int .u64 (sig : Int), .int .i64 (k : Int), .int .i64 cc] 42)))
      clear hc hr ec es h3 h2 h1 hS hk0
      generalize S.getD k 0 = x at *
      have hi : (k : Int) < (n : Int) := by omega
      rw [GS.out]
      rcases h12 with rfl | rfl
      · rw [decide_eq_true (p := (1 : Int) = 1) rfl]
        have e1 : (x ||| bitN cc) = stepSig x cc true := rfl
        go_enter Try.func25, Try.ntmps25
        go_wp2
        go_region_held3 (fun w' => w'.cell? ⟨w.heap.size, 2, none⟩ = some (.int .i64 (k : Int)) ∧ w'.cell? ⟨w.heap.size, 3, none⟩ = some (.int .i64 cc) ∧ w'.cell? ⟨b, off + k, none⟩ = some (.int .u64 (x : Int))) (go_keep)
          (first
            | (go_at_call 69; refine (refWith_any x cc hx _).mono ?_; rintro e w2 ⟨rfl, hb2⟩; have hk2 := Keep.trans (T := fun _ => False) HKA.out.drew (Keep.of_below' hb2) (fun _ _ h => h); obtain ⟨d2, d3, dk⟩ := CS.out _ hk2; have HK2 := Lib.hid (HK.out.trans (T := fun _ => False) hk2 (fun _ _ h => h)); have HK3 := Lib.hid hk2; clear hk2 hb2; rw [e1])
            | (go_at_call 68; refine (ND.out _ _ HK2.out).mono ?_; rintro e w3 ⟨v', rfl, hs3⟩; obtain ⟨f2, f3, fk⟩ := CS.out _ (HK3.out.trans (T := fun _ => False) hs3.2.2 (fun _ _ h => h)); have HS3 := Lib.hid hs3; clear hs3))
        go_wp2
        go_ret2
        exact ⟨_, rfl, HS3.out.1, HS3.out.2.1.to_below'⟩
      · rw [decide_eq_false (p := (2 : Int) = 1) (by omega)]
        have e1 : without x cc = stepSig x cc false := rfl
        go_enter Try.func25, Try.ntmps25
        go_wp2
        go_region_held3 (fun w' => w'.cell? ⟨w.heap.size, 2, none⟩ = some (.int .i64 (k : Int)) ∧ w'.cell? ⟨w.heap.size, 3, none⟩ = some (.int .i64 cc) ∧ w'.cell? ⟨b, off + k, none⟩ = some (.int .u64 (x : Int))) (go_keep)
          (first
            | (go_at_call 70; refine (refWithout_any x cc hx _).mono ?_; rintro e w2 ⟨rfl, hb2⟩; have hk2 := Keep.trans (T := fun _ => False) HKA.out.drew (Keep.of_below' hb2) (fun _ _ h => h); obtain ⟨d2, d3, dk⟩ := CS.out _ hk2; have HK2 := Lib.hid (HK.out.trans (T := fun _ => False) hk2 (fun _ _ h => h)); have HK3 := Lib.hid hk2; clear hk2 hb2; rw [e1])
            | (go_at_call 68; refine (ND.out _ _ HK2.out).mono ?_; rintro e w3 ⟨v', rfl, hs3⟩; obtain ⟨f2, f3, fk⟩ := CS.out _ (HK3.out.trans (T := fun _ => False) hs3.2.2 (fun _ _ h => h)); have HS3 := Lib.hid hs3; clear hs3))
        go_wp2
        go_ret2
        exact ⟨_, rfl, HS3.out.1, HS3.out.2.1.to_below'⟩
    · have GS := Lib.hid (show goS S act nn cc sig = (S, -1) by
        unfold goS
        rw [if_pos h12, if_neg (by rw [L.out]; exact hin)])
      have HH := Lib.hid (show Sl w (fun k => F k ∨ w.heap.size ≤ k) 1 (.slice A n c) n (uv S) from hs.mono fun _ _ h => .inl h)
      have HW := Lib.hid (hk0.to_below')
      have LS := Lib.hid (show (goS S act nn cc sig).1.length = n by rw [GS.out]; exact L.out)
      clear hs HS hk0 hS ND
      rw [LS.out, GS.out]
      clear GS LS
      rcases h12 with rfl | rfl
      · by_cases h0 : nn < 0
        · go_enter Try.func25, Try.ntmps25
          go_wp2
          go_ret2
          exact ⟨_, rfl, HH.out.alloc _, HW.out⟩
        · have h1 : (n : Int) ≤ nn := by omega
          go_enter Try.func25, Try.ntmps25
          go_wp2
          go_ret2
          exact ⟨_, rfl, HH.out.alloc _, HW.out⟩
      · by_cases h0 : nn < 0
        · go_enter Try.func25, Try.ntmps25
          go_wp2
          go_ret2
          exact ⟨_, rfl, HH.out.alloc _, HW.out⟩
        · have h1 : (n : Int) ≤ nn := by omega
          go_enter Try.func25, Try.ntmps25
          go_wp2
          go_ret2
          exact ⟨_, rfl, HH.out.alloc _, HW.out⟩
  · have GS := Lib.hid (show goS S act nn cc sig = (nodeS S sig, ((nodeI S sig : Nat) : Int)) by
      unfold goS
      rw [if_neg h12])
    have h1 : act ≠ 1 := fun h => h12 (.inl h)
    have h2 : act ≠ 2 := fun h => h12 (.inr h)
    have b1 : (act != 1) = true := by simpa using h1
    have b2 : (act != 2) = true := by simpa using h2
    have N := Lib.hid (ND.out sig _ hk0)
    clear hs HS hk0 hS ND h12
    rw [GS.out]
    clear GS
    go_enter Try.func25, Try.ntmps25
    go_wp2_with (go_at_call 68; refine N.out.mono ?_; rintro e w3 ⟨v', rfl, hs3⟩; have HS3 := Lib.hid hs3; clear hs3)
    go_ret2
    exact ⟨_, rfl, HS3.out.1, HS3.out.2.1.to_below'⟩
end Go.Proofs.Ytmlbkenbgajkmaa

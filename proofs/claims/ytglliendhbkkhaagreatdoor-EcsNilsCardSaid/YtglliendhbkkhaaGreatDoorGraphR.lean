/- Contracts of vivariumref10.Find, Node, Go. -/
import Derived.Test.YtglliendhbkkhaaGreatDoorGraph1
import Derived.Test.YtglliendhbkkhaaGreatDoorBits2
import Derived.Deep.RegionHeld3
namespace Go.Proofs.YtglliendhbkkhaaGreatDoor
open Go.RowKit
set_option maxRecDepth 100000

theorem rgFind (S : List Nat) (A : Option Addr) (n c : Nat) (F : Nat → Prop) (w : World) (hr : Rd w F A n (uv S)) (hn : n ≤ 4611686018427387904) (x : Nat) :
    Calls Tryz.prog 88 #[.slice A n c, .int .u64 x] w fun e w' => e = .returned (.tuple #[.int .i64 ((pos S x).getD 0 : Nat), .bool (pos S x).isSome]) ∧ w = w' := by
  have L := Lib.hid (show S.length = n by have := hr.1; simpa [uv] using this)
  go_enter Tryz.func88, Tryz.ntmps88
  go_wp2
  go_loop [6] (fun i => ∃ k : Nat, k ≤ n ∧ i = .int .i64 k ∧ Hid (∀ j, j < k → S[j]? ≠ some x)) (fun i => n - (intOf i).toNat)
  case atStart => exact ⟨0, by omega, rfl, Lib.hid (fun j hj => by omega)⟩
  case round =>
    obtain ⟨k, hk, rfl, hno⟩ := hrel
    by_cases hlt : k < n
    · obtain ⟨b1, o1, rfl, _, c1⟩ := hr.at_ hlt
      obtain ⟨e1, e2⟩ := uv_at (l := S) (k := k) (by rw [L.out]; exact hlt)
      have c1 := c1 k _ e1
      clear e1
      have hi : (k : Int) < (n : Int) := by omega
      by_cases hx : S.getD k 0 = x
      · have hp := Lib.hid (show pos S x = some k from pos_some.2 ⟨by rw [e2, hx], hno.out⟩)
        rw [hx] at c1
        have hb : ((x : Int) == x) = true := by simp
        clear e2 hx hno
        go_wp2
        go_ret2
        rw [hp.out]
        exact ⟨rfl, rfl⟩
      · have hno' := Lib.hid (show ∀ j, j < k + 1 → S[j]? ≠ some x by
          intro j hj
          rcases Nat.lt_or_ge j k with h1 | h1
          · exact hno.out j h1
          · obtain rfl : j = k := by omega
            rw [e2]
            intro h
            injection h with h
            exact hx h)
        have hb : (((S.getD k 0 : Nat) : Int) == x) = false := by rw [beq_eq_false_iff_ne]; intro h; exact hx (by omega)
        generalize S.getD k 0 = y at *
        clear e2 hx hno
        go_wp2
        go_round
        case rel => exact ⟨k + 1, by omega, by go_num, hno'⟩
        case measure => simp [intOf]; omega
    · obtain rfl : k = n := by omega
      have hp := Lib.hid (show pos S x = none by
        rw [pos_none]
        intro h
        obtain ⟨j, hj, e⟩ := List.getElem_of_mem h
        exact hno.out j (by rw [← L.out]; exact hj) (by rw [List.getElem?_eq_getElem hj, e]))
      clear hno
      go_wp2
      go_ret2
      rw [hp.out]
      exact ⟨rfl, rfl⟩

theorem rgNode (S : List Nat) (A : Option Addr) (n c : Nat) (F : Nat → Prop) (w : World) (hs : Sl w F 1 (.slice A n c) n (uv S)) (hn : n ≤ 1099511627776) (x : Nat) :
    Calls Tryz.prog 90 #[.slice A n c, .int .u64 x] w fun e w' => ∃ v', e = .returned (.tuple #[v', .int .i64 (nodeI S x : Nat)]) ∧
      Sl w' (fun k => F k ∨ w.heap.size ≤ k) 1 v' (nodeS S x).length (uv (nodeS S x)) ∧ Below w.heap.size w w' := by
  obtain ⟨i0, hi0, hz0, hz1, hz2⟩ := info_parts info_u64
  obtain ⟨A', c', hv, h1, h2, h3, hr⟩ := hs
  injection hv with e1 _ e3
  subst e1 e3
  have L := Lib.hid (show S.length = n by have := hr.1; simpa [uv] using this)
  have F0 := Lib.hid (rgFind S A n c F w (by simpa using hr) (by omega) x)
  cases hpos : pos S x with
  | some k =>
    rw [hpos] at F0
    obtain ⟨e1, e2⟩ := nodeS_old hpos
    rw [e1, e2]
    have HH := Lib.hid (show Sl w (fun k => F k ∨ w.heap.size ≤ k) 1 (.slice A n c) S.length (uv S) from by rw [L.out]; exact Sl.mono ⟨A, c, rfl, h1, h2, h3, hr⟩ (fun _ _ h => .inl h))
    clear hpos e1 e2 hr h3 L
    go_enter Tryz.func90, Tryz.ntmps90
    go_wp2_with (go_at_call 88; refine F0.out.mono ?_; rintro e w' ⟨rfl, rfl⟩)
    go_ret2
    exact ⟨_, rfl, HH.out, Below.refl _ _⟩
  | none =>
    rw [hpos] at F0
    obtain ⟨e1, e2⟩ := nodeS_new hpos
    rw [e1, e2, L.out]
    have HS := Lib.hid (show ∀ W : World, Below w.heap.size w W → Src Tryz.prog 1 168 (.slice A n c) n (uv S) W from fun W hb => (hr.below hb).src Tryz.underlying168 (uv_one S) (by omega))
    have E := Lib.hid (show uv S ++ [Value.int .u64 (x : Int)] = uv (S ++ [x]) by simp [uv])
    have LL := Lib.hid (show (S ++ [x]).length = n + 1 by simp [L.out])
    clear hpos e1 e2 hr h3 L
    go_enter Tryz.func90, Tryz.ntmps90
    go_wp2_with (first
      | (go_at_call 88; refine F0.out.mono ?_; rintro e w' ⟨rfl, rfl⟩)
      | (at_builtin; refine wpList_append_gen _ rfl _ _ _ _ rfl w.heap.size 51 i0 _ 1 8 Tryz.underlying168 hi0 hz0 hz1 hz2 rfl _ _ _ rfl (Own.none_ _ _ _ _ _) _ n _ rfl (HS.out _ ?b1) ?c1 ?c2 ?c3 ?_))
    case b1 => exact ((Keep.refl (fun _ => False) w).alloc _).to_below'
    case c1 => unfold maxLen; omega
    case c2 => omega
    case c3 => simp
    intro v1 w1 ho1 hk1 _
    have hk1 : Keep (fun _ => False) w w1 := Keep.trans (T := fun _ => False) ((Keep.refl (fun _ => False) w).alloc _) (hk1.mono (fun k hk h => by simp [ownB] at h)) (fun _ _ h => h)
    have HK1 := Lib.hid hk1
    have sz := hk1.size
    clear hk1 HS
    obtain ⟨A1, c1, rfl, _⟩ := ho1.form
    have HO1 := Lib.hid ho1
    clear ho1
    go_wp2_with (at_builtin; refine wpList_append_gen _ rfl _ _ _ _ rfl w.heap.size 51 i0 _ 1 8 Tryz.underlying168 hi0 hz0 hz1 hz2 rfl _ _ _ rfl (HO1.out.alloc _) _ 1 _ rfl (src_one _ _ Tryz.underlying168 rfl) ?d1 ?d2 ?d3 ?_)
    case d1 => unfold maxLen; omega
    case d2 => omega
    case d3 => simp; omega
    intro v2 w2 ho2 hk2 _
    rw [E.out] at ho2
    have hb : Below w.heap.size w w2 := (Keep.trans (S := fun k => w.heap.size ≤ k) ((HK1.out.mono (fun _ _ h => h.elim)).alloc _) hk2 (fun k hk h => (HO1.out.ownB k h).1)).to_below (Nat.le_refl _)
    have H := Lib.hid (And.intro ho2 hb)
    clear ho2 hk2 hb
    go_wp2
    go_ret2
    exact ⟨_, rfl, by rw [LL.out]; exact H.out.1.sl.mono (fun _ _ h => .inr h), H.out.2⟩
end Go.Proofs.YtglliendhbkkhaaGreatDoor

/- Contract of vivariumref38.Unlike. -/
import Derived.Test.YtpedkcmcbejdiaaImgF
namespace Go.Proofs.Ytpedkcmcbejdiaa
open Go.RowKit
set_option maxRecDepth 100000
set_option linter.unusedVariables false
set_option linter.unusedSimpArgs false

set_option maxHeartbeats 8000000 in
theorem runlike_any (a b : List UInt8) (u v : Value) (F G : Nat → Prop) (w : World) (ha : By w F u a) (hb : By w G v b) (hA : a.length / 512 ≤ 4096) (hB : b.length / 512 ≤ 4096) :
    Calls Try.prog 22 #[u, v] w fun e w' => ∃ A' c, e = .returned (.slice A' (unl (secs a) (secs b)).length c) ∧ Own w' w.heap.size 3 1 (.slice A' (unl (secs a) (secs b)).length c) (unl (secs a) (secs b)).length (iv (nz (unl (secs a) (secs b)))) ∧ Below w.heap.size w w' := by
  have SA := secs_len a
  have SB := secs_len b
  have AT1 := Lib.hid (fun k (hk : k < (secs a).length) W (hW : Keep (fun _ => False) w W) => show Calls Try.prog 39 #[u, .int .i64 (k : Int)] W fun e w' => ∃ A c, e = .returned (.slice A 512 c) ∧ By W F (.slice A 512 c) ((secs a).getD k []) ∧ W = w' from by
    rw [secs_getD (by omega)]; exact rat_any a u F k W (ha.keep hW (fun _ _ _ h => h)) (by omega) (by omega))
  have AT2 := Lib.hid (fun k (hk : k < (secs b).length) W (hW : Keep (fun _ => False) w W) => show Calls Try.prog 39 #[v, .int .i64 (k : Int)] W fun e w' => ∃ A c, e = .returned (.slice A 512 c) ∧ By W G (.slice A 512 c) ((secs b).getD k []) ∧ W = w' from by
    rw [secs_getD (by omega)]; exact rat_any b v G k W (hb.keep hW (fun _ _ _ h => h)) (by omega) (by omega))
  generalize hSA : secs a = A at *
  generalize hSB : secs b = B at *
  obtain ⟨A1, c1, rfl, -, -, -, -⟩ := ha
  obtain ⟨A2, c2, rfl, -, -, -, -⟩ := hb
  have UN := Lib.hid (unlT_next A B)
  have U0 := Lib.hid (show unlT A B 0 = [] from rfl)
  have DF := Lib.hid (fun k => show dif A B k = (decide (A.length ≤ k) || (decide (B.length ≤ k) || decide (A.getD k [] ≠ B.getD k []))) from rfl)
  have SM := Lib.hid (fun W x y F1 F2 (xs ys : List UInt8) (h1 : By W F1 x xs) (h2 : By W F2 y ys) => same_any xs ys x y F1 F2 W h1 h2)
  obtain ⟨ii, hii, hi0, hi1, hi2⟩ := info_parts info_int38
  unfold unl
  obtain ⟨la, hla⟩ : ∃ la, A.length = la := ⟨_, rfl⟩
  obtain ⟨lb, hlb⟩ : ∃ lb, B.length = lb := ⟨_, rfl⟩
  have HLA := Lib.hid (And.intro hla hlb)
  rw [hla] at AT1 SA DF ⊢
  rw [hlb] at AT2 SB DF ⊢
  clear hla hlb hSA hSB
  generalize a.length = na at *
  generalize b.length = nb at *
  have q1 : (na : Int).tdiv 512 = (la : Int) := by rw [Int.tdiv_eq_ediv_of_nonneg (by omega)]; omega
  have q2 : (nb : Int).tdiv 512 = (lb : Int) := by rw [Int.tdiv_eq_ediv_of_nonneg (by omega)]; omega
  have qw1 : IntKind.i64.wrap (la : Int) = (la : Int) := IntWalk.i64_in _ (by omega)
  have qw2 : IntKind.i64.wrap (lb : Int) = (lb : Int) := IntWalk.i64_in _ (by omega)
  obtain ⟨n, hmax⟩ : ∃ n, max la lb = n := ⟨_, rfl⟩
  rw [hmax]
  have hn4 : n ≤ 4096 := by omega
  clear SA SB
  go_enter Try.func22, Try.ntmps22
  go_wp2
  go_loopw [5, 6] (fun l i wr => ∃ (k m : Nat) (A3 : Option Addr) (c3 : Nat), k ≤ n ∧ m ≤ k ∧ i = .int .i64 (k : Int) ∧ l = .slice A3 m c3 ∧ Hid (Own wr w.heap.size 3 1 (.slice A3 m c3) m (iv (nz (unlT A B k))) ∧ Below w.heap.size w wr ∧ (unlT A B k).length = m)) (fun _ i _ => n - (intOf i).toNat)
  case atStart => exact ⟨0, 0, none, 0, by omega, by omega, rfl, rfl, Lib.hid ⟨by rw [U0.out]; exact Own.none_ _ _ _ _ _, Below.refl _ _, by rw [U0.out]; rfl⟩⟩
  case round =>
    obtain ⟨k, m, A3, c3, hk, hmk, rfl, rfl, hst⟩ := hrel
    by_cases hlt : k < n
    · have DK0 := Lib.hid (DF.out k)
      by_cases d1 : k < la
      · have f1 : (k : Int) < (la : Int) := by omega
        have f1' : ¬ (la : Int) ≤ (k : Int) := by omega
        by_cases d2 : k < lb
        · have f2 : (k : Int) < (lb : Int) := by omega
          have f2' : ¬ (lb : Int) ≤ (k : Int) := by omega
          have KW := Keep.of_below' hst.out.2.1
          have P1 := Lib.hid (AT1.out k d1 wr KW)
          have P2 := Lib.hid (AT2.out k d2 wr KW)
          clear KW
          go_wp2_with fail
          with_reducible refine P1.out.mono ?_
          rintro e w4 ⟨A4, c4, rfl, hy4, rfl⟩
          have Y4 := Lib.hid hy4
          clear hy4
          go_wp2_with fail
          with_reducible refine P2.out.mono ?_
          rintro e w5 ⟨A5, c5, rfl, hy5, rfl⟩
          have S6 := Lib.hid (SM.out _ _ _ _ _ _ _ Y4.out hy5)
          clear hy5 Y4 P1 P2
          by_cases de : A.getD k [] = B.getD k []
          · rw [decide_eq_true de] at S6
            have DK : dif A B k = false := by rw [DK0.out, decide_eq_false (by omega), decide_eq_false (by omega), decide_eq_false (by simpa using de)]; rfl
            have H7 := Lib.hid (show Own wr w.heap.size 3 1 (.slice A3 m c3) m (iv (nz (unlT A B (k + 1)))) ∧ Below w.heap.size w wr ∧ (unlT A B (k + 1)).length = m from by rw [UN.out, DK, if_neg (by decide), List.append_nil]; exact hst.out)
            clear DK de DK0
            go_wp2_with fail
            with_reducible refine S6.out.mono ?_
            rintro e w6 ⟨rfl, rfl⟩
            go_wp2
            go_roundw
            case rel => exact ⟨k + 1, m, A3, c3, by omega, by omega, by go_num, rfl, H7⟩
            case measure => simp [intOf]; omega
          · rw [decide_eq_false de] at S6
            have DK : dif A B k = true := by rw [DK0.out, decide_eq_false (by omega), decide_eq_false (by omega), decide_eq_true (by simpa using de)]; rfl
            clear de DK0
            go_wp2_with fail
            with_reducible refine S6.out.mono ?_
            rintro e w6 ⟨rfl, rfl⟩
            have UK1 := Lib.hid (show unlT A B (k + 1) = unlT A B k ++ [k] from by rw [UN.out, DK]; rfl)
            go_wp2_with (at_builtin; refine wpList_append_gen _ rfl _ _ _ _ rfl w.heap.size 3 ii _ 1 8 Try.underlying35 hii hi0 hi1 hi2 rfl _ _ _ rfl (hst.out.1.alloc _) _ 1 _ rfl (src_one _ _ Try.underlying35 rfl) ?c1 ?c2 ?c3 ?_)
            case c1 => unfold maxLen; omega
            case c2 => omega
            case c3 => have := hst.out.2.1.size; simp; omega
            intro v7 w7 ho7 hk7 _
            obtain ⟨A7, c7, rfl, -⟩ := ho7.form
            have H7 := Lib.hid (show Own w7 w.heap.size 3 1 (.slice A7 (m + 1) c7) (m + 1) (iv (nz (unlT A B (k + 1)))) ∧ Below w.heap.size w w7 ∧ (unlT A B (k + 1)).length = m + 1 from ⟨by rw [UK1.out]; simpa [iv, nz] using ho7, append_below hst.out.2.1 hst.out.1 hk7, by rw [UK1.out, List.length_append, hst.out.2.2]; rfl⟩)
            clear ho7 hk7
            go_wp2
            go_roundw
            case rel => exact ⟨k + 1, m + 1, A7, c7, by omega, by omega, by go_num, rfl, H7⟩
            case measure => simp [intOf]; omega
        · have f2 : ¬ (k : Int) < (lb : Int) := by omega
          have f2' : (lb : Int) ≤ (k : Int) := by omega
          have DK : dif A B k = true := by rw [DK0.out, decide_eq_false (by omega), decide_eq_true (by omega)]; rfl
          clear DK0
          have UK1 := Lib.hid (show unlT A B (k + 1) = unlT A B k ++ [k] from by rw [UN.out, DK]; rfl)
          go_wp2_with (at_builtin; refine wpList_append_gen _ rfl _ _ _ _ rfl w.heap.size 3 ii _ 1 8 Try.underlying35 hii hi0 hi1 hi2 rfl _ _ _ rfl (hst.out.1.alloc _) _ 1 _ rfl (src_one _ _ Try.underlying35 rfl) ?c1 ?c2 ?c3 ?_)
          case c1 => unfold maxLen; omega
          case c2 => omega
          case c3 => have := hst.out.2.1.size; simp; omega
          intro v7 w7 ho7 hk7 _
          obtain ⟨A7, c7, rfl, -⟩ := ho7.form
          have H7 := Lib.hid (show Own w7 w.heap.size 3 1 (.slice A7 (m + 1) c7) (m + 1) (iv (nz (unlT A B (k + 1)))) ∧ Below w.heap.size w w7 ∧ (unlT A B (k + 1)).length = m + 1 from ⟨by rw [UK1.out]; simpa [iv, nz] using ho7, append_below hst.out.2.1 hst.out.1 hk7, by rw [UK1.out, List.length_append, hst.out.2.2]; rfl⟩)
          clear ho7 hk7
          go_wp2
          go_roundw
          case rel => exact ⟨k + 1, m + 1, A7, c7, by omega, by omega, by go_num, rfl, H7⟩
          case measure => simp [intOf]; omega
      · have f1 : ¬ (k : Int) < (la : Int) := by omega
        have f1' : (la : Int) ≤ (k : Int) := by omega
        have f2 : (k : Int) < (lb : Int) := by omega
        have DK : dif A B k = true := by rw [DK0.out, decide_eq_true (by omega)]; rfl
        clear DK0
        have UK1 := Lib.hid (show unlT A B (k + 1) = unlT A B k ++ [k] from by rw [UN.out, DK]; rfl)
        go_wp2_with (at_builtin; refine wpList_append_gen _ rfl _ _ _ _ rfl w.heap.size 3 ii _ 1 8 Try.underlying35 hii hi0 hi1 hi2 rfl _ _ _ rfl (hst.out.1.alloc _) _ 1 _ rfl (src_one _ _ Try.underlying35 rfl) ?c1 ?c2 ?c3 ?_)
        case c1 => unfold maxLen; omega
        case c2 => omega
        case c3 => have := hst.out.2.1.size; simp; omega
        intro v7 w7 ho7 hk7 _
        obtain ⟨A7, c7, rfl, -⟩ := ho7.form
        have H7 := Lib.hid (show Own w7 w.heap.size 3 1 (.slice A7 (m + 1) c7) (m + 1) (iv (nz (unlT A B (k + 1)))) ∧ Below w.heap.size w w7 ∧ (unlT A B (k + 1)).length = m + 1 from ⟨by rw [UK1.out]; simpa [iv, nz] using ho7, append_below hst.out.2.1 hst.out.1 hk7, by rw [UK1.out, List.length_append, hst.out.2.2]; rfl⟩)
        clear ho7 hk7
        go_wp2
        go_roundw
        case rel => exact ⟨k + 1, m + 1, A7, c7, by omega, by omega, by go_num, rfl, H7⟩
        case measure => simp [intOf]; omega
    · obtain rfl : k = n := by omega
      have f1 : ¬ (k : Int) < (la : Int) := by omega
      have f2 : ¬ (k : Int) < (lb : Int) := by omega
      obtain ⟨h1, h2, h3⟩ := hst.out
      subst h3
      go_wp2
      go_ret
      exact ⟨_, _, rfl, h1, h2⟩
end Go.Proofs.Ytpedkcmcbejdiaa

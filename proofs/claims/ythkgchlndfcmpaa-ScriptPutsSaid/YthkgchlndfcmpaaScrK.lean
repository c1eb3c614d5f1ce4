/- Contract of vivariumref31.Bytes. -/
import Derived.Test.YthkgchlndfcmpaaScrJ
import Derived.Test.YthkgchlndfcmpaaScr2
namespace Go.Proofs.Ythkgchlndfcmpaa
open Go.RowKit
set_option maxRecDepth 100000
set_option linter.unusedVariables false
set_option linter.unusedSimpArgs false

set_option maxHeartbeats 8000000 in
theorem rbytesA_any (l : List Ac) (v : Value) (F : Nat → Prop) (w : World) (h : AS w F v l) (hs : ∀ x ∈ l, smallA x) (hb : ∀ k, (putsB l k).length ≤ 1000000000) :
    Calls Try.prog 66 #[v] w (BytesPost w (putsB l l.length)) := by
  have HA := Lib.hid h
  have HS := Lib.hid (show ∀ k x, l[k]? = some x → smallA x from fun k x hx => hs x (List.mem_of_getElem? hx))
  have HB := Lib.hid hb
  have hl := h.len
  obtain ⟨A, c, rfl, hc⟩ := h.form
  clear h hs hb hc
  generalize hn : l.length = n at *
  clear hn
  go_enter Try.func66, Try.ntmps66
  go_wp2
  go_loopw [3, 4] (fun t i wr => ∃ k : Nat, k ≤ n ∧ i = .int .i64 k ∧ (∃ A n' c, t = .slice A n' c ∧ Hid (Ob wr w.heap.size (.slice A n' c) (putsB l k) ∧ Keep (fun _ => False) w wr))) (fun _ i _ => n - (intOf i).toNat)
  case atStart => exact ⟨0, by omega, rfl, none, 0, 0, rfl, Lib.hid ⟨Ob.nil _ _ _, Keep.refl _ _⟩⟩
  case round =>
    obtain ⟨k, hk, rfl, A6, n6, c6, rfl, ht⟩ := hrel
    by_cases hlt : k < n
    · have hi : (k : Int) < (n : Int) := by omega
      have h00 : (0 : Int) ≤ (k : Int) := by omega
      obtain ⟨b, off, x, u1, u2, u3, rfl, -, hx, ham, hcs⟩ := (HA.out.same ht.out.2).at_ hlt
      have PN := Lib.hid (putsB_next hx)
      obtain ⟨A1, m1, rfl, -⟩ := ham.1
      obtain ⟨A2, m2, rfl⟩ := ham.2.1.form
      obtain ⟨A3, m3, rfl⟩ := ham.2.2.form
      have SM := Lib.hid (HS.out k x hx)
      have HC := Lib.hid hcs
      have HM := Lib.hid ham
      clear hcs hx ham
      obtain ⟨y0, y1, y2, y3, y4, y5, y6, y7, y8, y9, y10, y11⟩ := cells_at12 HC.out
      have K1 := rrightA x _ _ _ _ wr HM.out
      unfold actV at K1
      go_wp2_with fail
      with_reducible refine K1.mono ?_
      rintro e w2 ⟨rfl, hb⟩
      have kk := Lib.hid (Keep.of_below' hb)
      have H2 := Lib.hid (And.intro (ht.out.1.same kk.out) (And.intro (HM.out.same kk.out) (ht.out.2.trans kk.out (fun _ _ h => h))))
      clear hb K1 y0 y1 y2 y3 y4 y5 y6 y7 y8 y9 y10 y11
      obtain ⟨y0, y1, y2, y3, y4, y5, y6, y7, y8, y9, y10, y11⟩ := cells_at12 (fun j u hu => kk.out.cell (fun h => h) (HC.out j u hu))
      have hs2 := H2.out.2.2.size
      by_cases hr : rightA x = true
      · have PN2 := Lib.hid (show putsB l (k + 1) = putsB l k ++ oneB x by rw [PN.out, if_pos hr])
        have LB := Lib.hid (show (putsB l k).length + (oneB x).length ≤ 1000000000 by have := HB.out (k + 1); rw [PN2.out, List.length_append] at this; exact this)
        have K1 := rone_any x _ _ _ _ w2 H2.out.2.1 SM.out
        unfold actV at K1
        go_wp2_with fail
        with_reducible refine K1.mono ?_
        rintro e w3 ⟨A7, n7, c7, rfl, hy, hb⟩
        have H3 := Lib.hid (And.intro (H2.out.1.same (Keep.of_below' hb)) (And.intro hy (H2.out.2.2.trans (Keep.of_below' hb) (fun _ _ h => h))))
        have hs3 := H3.out.2.2.size
        clear hy hb K1 y0 y1 y2 y3 y4 y5 y6 y7 y8 y9 y10 y11
        go_wp2_with (at_builtin; refine wpList_app2 rfl _ _ rfl w.heap.size _ _ rfl H3.out.1 _ _ _ rfl H3.out.2.1 ?c1 hs3 ?_)
        case c1 => have := LB.out; omega
        intro eA en ec ew ho5 hk5 hn5
        have NT := Lib.hid (show Ob ew w.heap.size (.slice eA en ec) (putsB l (k + 1)) ∧ Keep (fun _ => False) w ew from ⟨by rw [PN2.out]; exact ho5, H3.out.2.2.trans hk5 (fun b hb e => by have := (H3.out.1.ownB_ b e).1; omega)⟩)
        clear ho5 hk5 hn5
        go_wp2
        go_roundw
        case rel => exact ⟨k + 1, by omega, by first | rfl | go_num, eA, en, ec, rfl, NT⟩
        case measure => simp [intOf]; omega
      · have hr : rightA x = false := by simpa using hr
        have PN2 := Lib.hid (show putsB l (k + 1) = putsB l k by rw [PN.out, if_neg (by simp [hr]), List.append_nil])
        have NT := Lib.hid (And.intro H2.out.1 H2.out.2.2)
        rw [← PN2.out] at NT
        go_wp2
        go_roundw
        case rel => exact ⟨k + 1, by omega, by first | rfl | go_num, A6, n6, c6, rfl, NT⟩
        case measure => simp [intOf]; omega
    · have hi : ¬ (k : Int) < (n : Int) := by omega
      obtain rfl : k = n := by omega
      go_wp2
      go_ret
      exact ⟨A6, n6, c6, rfl, ht.out.1.by_, ht.out.2.to_below'⟩
end Go.Proofs.Ythkgchlndfcmpaa

/- Contract of part.Split. -/
import Derived.Test.YtakchlaoimnnhaaPart1
import Derived.Test.YtakchlaoimnnhaaList
namespace Go.Proofs.Ytakchlaoimnnhaa
open Go.RowKit
set_option maxRecDepth 100000
set_option linter.unusedVariables false

theorem wordN {n : Nat} (h : n < 18446744073709551616) : word (n : Int) = n := by unfold word; omega
theorem pieces_next {s n k : Nat} {b : List UInt8} (h : k < n) : (pieces s b n).take (k + 1) = (pieces s b n).take k ++ [hdrB k n s ++ chunk b k] := by
  rw [List.take_add_one, pieces_at h]; rfl
/-- A round of part.Split: three numbers, a piece. -/
theorem split_hdr (k n : Nat) (Z : Int) (s : Nat) (hk : k ≤ 1024) (hn : n ≤ 1024) (hZ : leB (word Z) 8 = leB s 8) :
    (((([] : List UInt8) ++ leB (word (k : Int)) (wideN 2)) ++ leB (word (n : Int)) (wideN 2)) ++ leB (word Z) (wideN 8)) = hdrB k n s := by
  rw [show wideN 2 = 2 from rfl, show wideN 8 = 8 from rfl, hZ, wordN (by omega), wordN (by omega)]
  simp [hdrB, List.append_assoc]

theorem src_empty (A : Option Addr) (c : Nat) (W : World) : Src Try.prog 1 22 (.slice A 0 c) 0 (bv []) W := by
  rcases A with _ | a
  · exact Src.ofNil W Try.underlying22 c
  · exact Src.ofSlice W Try.underlying22 a 0 c [] (by simp) (fun j u hu => by simp at hu) (fun u hu => by simp at hu)
theorem chunk_src {W : World} {F : Nat → Prop} {A A' : Option Addr} {len c : Nat} {b : List UInt8} (hv : By W F (.slice A len c) b) (k e : Nat) (he : e = min ((k + 1) * 460) len) (hk : k * 460 ≤ len) (hA : 0 < e - k * 460 → ∀ a, A = some a → A' = some (a.add (k * 460))) (hn : A' = none → e - k * 460 = 0) :
    Src Try.prog 1 22 (.slice A' (e - k * 460) (e - k * 460)) (e - k * 460) (bv (chunk b k)) W := by
  have hl : b.length = len := by obtain ⟨_, _, e, _⟩ := hv; injection e with _ e2 _; exact e2.symm
  have hq : (b.drop (k * 460)).take (e - k * 460) = chunk b k := by
    unfold chunk
    rw [Nat.mul_comm 460 k]
    rcases Nat.lt_or_ge len ((k + 1) * 460) with h | h
    · rw [show e = len by omega, List.take_of_length_le (by rw [List.length_drop]; omega), List.take_of_length_le (by rw [List.length_drop]; omega)]
    · rw [show e - k * 460 = 460 by omega]
  have h := hv.piece (A' := A') (lo := k * 460) (m := e - k * 460) (c' := e - k * 460) (by omega) hA (Nat.le_refl _) (by unfold maxLen; omega) hn
  rw [hq] at h
  have hs := By.src (P := Try.prog) h Try.underlying22
  rw [show (chunk b k).length = e - k * 460 by rw [chunk_len]; omega] at hs
  exact hs
/-- le.Put: what it leaves is its own. -/
def OwnPost (w : World) (l : List UInt8) (e : Ending) (w' : World) : Prop := ∃ A n c, e = .returned (.slice A n c) ∧ Own w' w.heap.size 5 1 (.slice A n c) n (bv l) ∧ Below w.heap.size w w'
theorem putO (l : List UInt8) (v : Value) (F : Nat → Prop) (width n : Int) (w : World) (hv : By w F v l) (hn : l.length ≤ 35184372088832) :
    Calls Try.prog 60 #[v, .int .i64 width, .int .i64 n] w (OwnPost w (l ++ leB (word n) (wideN width))) :=
  (put_any l v F width n w hv hn).mono fun e w' ⟨u, he, ho, hb⟩ => by
    obtain ⟨A, c, rfl, _⟩ := ho.form
    exact ⟨A, _, c, he, ho, hb⟩
set_option maxHeartbeats 4000000 in
theorem psplit_any (z : Int) (b : List UInt8) (v : Value) (F : Nat → Prop) (w : World) (hv : By w F v b) (hb : b.length ≤ 1099511627776) :
    Calls Try.prog 16 #[.int .i64 z, v] w fun e w' => ∃ u, e = .returned u ∧ ListSt w.heap.size w' u (splitL z b) ∧ Below w.heap.size w w' := by
  obtain ⟨ib, hib, hb0, hb1, hb2⟩ := info_parts info_byte
  obtain ⟨is, his, hs0, hs1, hs2⟩ := info_parts info_bytes
  have ND := Lib.hid (need_any b.length w hb)
  have hnl := need_le b.length
  obtain ⟨n, hn⟩ : ∃ n, need b.length = n := ⟨_, rfl⟩
  have NB := Lib.hid (need_bd hn)
  unfold splitL
  rw [hn] at ND hnl ⊢
  by_cases hbig : 1024 < n
  · rw [if_pos hbig]
    obtain ⟨A, c, rfl, _, _, _, _⟩ := hv
    generalize hl : b.length = len at *
    clear hl hn
    rcases (show z < 0 ∨ (0 ≤ z ∧ 281474976710656 < z) ∨ (0 ≤ z ∧ z ≤ 281474976710656) by omega) with h | ⟨h, h'⟩ | ⟨h, h'⟩
    all_goals
      go_enter Try.func16, Try.ntmps16
      go_wp2_with (go_at_call 59; refine ND.out.mono ?_; rintro e w1 ⟨rfl, rfl⟩)
      all_goals
        go_ret
        exact ⟨_, rfl, ListSt.nil _ _, Below.refl _ _⟩
  rw [if_neg hbig]
  have hbig : n ≤ 1024 := by omega
  have hn1 := NB.out.1
  have hb3 : b.length ≤ 460 * n := NB.out.2.1
  have W : ∃ Z : Int, leB (word Z) 8 = leB (clampSeq z) 8 ∧ (z < 0 ∧ Z = 0 ∨ 0 ≤ z ∧ 281474976710656 < z ∧ Z = 281474976710656 ∨ z = 0 ∧ Z = 0 ∨ 0 < z ∧ z ≤ 281474976710656 ∧ Z = z) := by
    unfold clampSeq
    rcases (show z < 0 ∨ (0 ≤ z ∧ 281474976710656 < z) ∨ z = 0 ∨ (0 < z ∧ z ≤ 281474976710656) by omega) with h | ⟨h, h'⟩ | rfl | ⟨h, h'⟩
    · exact ⟨0, by rw [if_pos h]; rfl, .inl ⟨h, rfl⟩⟩
    · exact ⟨281474976710656, by rw [if_neg (by omega), if_pos h']; rfl, .inr (.inl ⟨h, h', rfl⟩)⟩
    · exact ⟨0, rfl, .inr (.inr (.inl ⟨rfl, rfl⟩))⟩
    · exact ⟨z, by rw [if_neg (by omega), if_neg (by omega)]; congr 1; unfold word; omega, .inr (.inr (.inr ⟨h, h', rfl⟩))⟩
  generalize clampSeq z = s at *
  have NXT := Lib.hid (fun k (h : k < n) => @pieces_next s n k b h)
  have FULL := Lib.hid (show (pieces s b n).take n = pieces s b n from List.take_of_length_le (by rw [pieces_len]; exact Nat.le_refl _))
  have CH := Lib.hid (chunk_len b)
  have hv0 := hv
  obtain ⟨A, c, rfl, hlc, hcm, hAn, _⟩ := hv
  unfold maxLen at hcm
  have CSRC := Lib.hid (fun W (hk : Keep (fun _ => False) w W) k e he hke A' hA hn => @chunk_src W F A A' b.length c b (hv0.keep hk (fun _ _ _ h => h)) k e he hke hA hn)
  have AN : Hid (A = none → b.length = 0) := fun h => by have := hAn h; omega
  have TL := Lib.hid (show ∀ k, k ≤ n → ((pieces s b n).take k).length = k from fun k hk => by rw [List.length_take, pieces_len]; omega)
  have HDR := Lib.hid (fun k (hk : k ≤ 1024) Z (hZ : leB (word Z) 8 = leB s 8) => split_hdr k n Z s hk hbig hZ)
  have P1 := Lib.hid (fun (k : Nat) W => putO [] (.slice none 0 0) (fun _ => True) 2 (k : Nat) W (By.nil _ _) (by decide))
  have CK := Lib.hid (fun k => (show bv (hdrB k n s) ++ bv (chunk b k) = bv (hdrB k n s ++ chunk b k) from (bv_append _ _).symm))
  generalize hl : b.length = len at *
  have NZ := Lib.hid (show ∀ k, k < n → (len < k * 460 → False) ∧ (len - k * 460 = 0 → k = 0 ∧ len = 0) from fun k hk => by
    obtain ⟨q1, q2, q3⟩ := NB.out
    have := fun h => q3 h
    rcases Nat.lt_or_ge 1 n with h1 | h1
    · have := q3 h1; omega
    · omega)
  clear hl hn hv0 NB
  obtain ⟨Z, hZ, hcase⟩ := W
  have WZ := Lib.hid hZ
  clear hZ
  rcases hcase with ⟨h, rfl⟩ | ⟨h, h', rfl⟩ | ⟨rfl, rfl⟩ | ⟨h, h', rfl⟩
  all_goals
    go_enter Try.func16, Try.ntmps16
    go_wp2_with (go_at_call 59; refine ND.out.mono ?_; rintro e w1 ⟨rfl, rfl⟩)
  all_goals
    go_loopw [6, 19] (fun u i wr => ∃ k : Nat, k ≤ n ∧ i = .int .i64 k ∧ Hid (ListSt w.heap.size wr u ((pieces s b n).take k) ∧ Below w.heap.size w wr)) (fun _ i _ => n - (intOf i).toNat)
    case atStart => exact ⟨0, by omega, rfl, Lib.hid ⟨ListSt.nil _ _, Below.refl _ _⟩⟩
    case round =>
      obtain ⟨k, hk, rfl, hst⟩ := hrel
      by_cases hlt : k < n
      · have CL := CH.out k
        have f1 : (k : Int) < (n : Int) := by omega
        go_wp2_with fail
        refine (P1.out k _).mono ?_
        rintro e w1 ⟨A1, n1, c1, rfl, ho1, hb1⟩
        have H1 := Lib.hid (And.intro ho1 hb1)
        clear ho1 hb1
        go_wp2_with fail
        refine (putO _ _ _ 2 (n : Nat) _ (sl_by H1.out.1.sl) (by simp only [List.length_append, leB_len]; decide)).mono ?_
        rintro e w2 ⟨A2, n2, c2, rfl, ho2, hb2⟩
        have H2 := Lib.hid (And.intro ho2 hb2)
        clear ho2 hb2
        go_wp2_with fail
        refine (putO _ _ _ 8 _ _ (sl_by H2.out.1.sl) (by simp only [List.length_append, leB_len]; decide)).mono ?_
        rintro e w3 ⟨A3, n3, c3, rfl, ho3, hb3⟩
        rw [HDR.out k (by omega) _ WZ.out] at ho3
        have hn3 : n3 = 12 := by have := ho3.1; rw [bv_len, hdrB_len] at this; omega
        subst hn3
        have H3 := Lib.hid (And.intro ho3 hb3)
        clear ho3 hb3
        obtain ⟨⟨cs, hcs1, hcs2⟩, hbelr⟩ := hst.out
        rw [TL.out k hk] at hcs1
        have KR := Lib.hid (show Keep (fun x => wr.heap.size ≤ x) wr w3 from by
          have h1 := H1.out.2.size
          have h2 := H2.out.2.size
          exact ((Keep.of_below H1.out.2).trans ((Keep.of_below H2.out.2).trans (Keep.of_below H3.out.2) (S := fun x => w1.heap.size ≤ x) (fun x _ h => by omega)) (S := fun x => wr.heap.size ≤ x) (fun x _ h => by omega)))
        have KW := Lib.hid (show Keep (fun _ => False) w w3 from (Keep.of_below' hbelr).trans ((Keep.of_below' H1.out.2).trans ((Keep.of_below' H2.out.2).trans (Keep.of_below' H3.out.2) (fun _ _ h => h)) (fun _ _ h => h)) (fun _ _ h => h))
        by_cases he : (k + 1) * 460 ≤ len
        · have SRC := Lib.hid (CSRC.out w3 KW.out k ((k + 1) * 460) (by omega) (by omega) (Option.map (fun x => x.add (k * 460)) A) (by intro h a ha; rw [ha]; rfl) (by intro hh; rcases A with _ | a; (have := AN.out rfl; omega); (cases hh)))
          go_wp2_with (at_builtin; refine wpList_append_gen _ rfl _ _ _ _ rfl w2.heap.size 5 ib _ 1 1 Try.underlying22 hib hb0 hb1 hb2 rfl _ _ _ rfl H3.out.1 _ _ _ rfl SRC.out ?c1 ?c2 ?c3 ?_)
          case c1 => unfold maxLen; omega
          case c2 => omega
          case c3 => exact H3.out.2.size
          intro v4 w4 ho4 hk4 _
          rw [CK.out k] at ho4
          obtain ⟨A4, c4, rfl, _⟩ := ho4.form
          have OL := Lib.hid (show Own (w4.alloc (.cells #[.slice A4 (12 + ((k + 1) * 460 - k * 460)) c4] 22)) w.heap.size 22 1 _ k cs from by
            have := hcs1.keep (KR.out.trans hk4 (T := fun x => ownB (.slice A3 12 c3) = some x) (S := fun x => wr.heap.size ≤ x) (fun x _ e => by have := (H3.out.1.ownB x e).1; have := H1.out.2.size; have := H2.out.2.size; omega)) (fun x e h => by have := (hcs1.ownB x e).2; omega)
            exact this.alloc _)
          have W4 := Lib.hid (And.intro ho4 hk4)
          clear ho4 hk4
          go_wp2_with (at_builtin; refine wpList_append_gen _ rfl _ _ _ _ rfl w.heap.size 22 is _ 1 24 Try.underlying24 his hs0 hs1 hs2 rfl _ k cs rfl OL.out _ 1 _ rfl (src_one _ _ Try.underlying24 rfl) ?d1 ?d2 ?d3 ?_)
          case d1 => unfold maxLen; omega
          case d2 => omega
          case d3 => have h1 := KR.out.size; have h2 := W4.out.2.size; have h3 := hbelr.size; simp; omega
          intro v5 w5 ho5 hk5 hn5
          have NX := Lib.hid (show ListSt w.heap.size w5 v5 ((pieces s b n).take (k + 1)) ∧ Below w.heap.size w w5 from by
            have hW4 : Keep (fun x => wr.heap.size ≤ x) wr (w4.alloc (.cells #[.slice A4 (12 + ((k + 1) * 460 - k * 460)) c4] 22)) := (KR.out.trans W4.out.2 (T := fun x => ownB (.slice A3 12 c3) = some x) (S := fun x => wr.heap.size ≤ x) (fun x _ e => by have := (H3.out.1.ownB x e).1; have := H1.out.2.size; have := H2.out.2.size; omega)).alloc _
            refine ⟨?_, ?_⟩
            · rw [NXT.out k hlt]
              refine ListSt.push (w := wr) (by rw [TL.out k hk]; exact hcs1) hcs2 hW4 (((sl_by W4.out.1.sl).mono (G := fun x => wr.heap.size ≤ x) (fun x _ h => by have := H1.out.2.size; have := H2.out.2.size; omega)).keep ((Keep.refl (fun _ => False) _).alloc _) (fun _ _ _ h => h)) hbelr.size (by rw [TL.out k hk]; exact ho5) hk5 (by simpa using hn5)
            · have h1 := Keep.trans (S := fun x => w.heap.size ≤ x) (T := fun x => wr.heap.size ≤ x) ((Keep.of_below' hbelr).mono (fun _ _ h => h.elim)) hW4 (fun x _ h => by have := hbelr.size; omega)
              exact (Keep.trans (S := fun x => w.heap.size ≤ x) h1 hk5 (fun x _ e => (hcs1.ownB x e).1)).to_below (Nat.le_refl _))
          clear ho5 hk5 hn5
          go_wp2
          go_roundw
          case rel => exact ⟨k + 1, by omega, by go_num, NX⟩
          case measure => simp [intOf]; omega
        · by_cases h0 : len - k * 460 = 0
          · have hl0 : len = 0 := ((NZ.out k hlt).2 h0).2
            have hk0 : k = 0 := ((NZ.out k hlt).2 h0).1
            subst hl0
            subst hk0
            clear h0 NZ
            have SRC := Lib.hid (show Src Try.prog 1 22 (.slice A 0 0) 0 (bv (chunk b 0)) w3 by rw [show chunk b 0 = [] from List.eq_nil_of_length_eq_zero (by omega)]; exact src_empty A 0 w3)
            go_wp2_with (at_builtin; refine wpList_append_gen _ rfl _ _ _ _ rfl w2.heap.size 5 ib _ 1 1 Try.underlying22 hib hb0 hb1 hb2 rfl _ _ _ rfl H3.out.1 _ _ _ rfl SRC.out ?c1 ?c2 ?c3 ?_)
            case c1 => unfold maxLen; omega
            case c2 => omega
            case c3 => exact H3.out.2.size
            intro v4 w4 ho4 hk4 _
            rw [CK.out 0] at ho4
            obtain ⟨A4, c4, rfl, _⟩ := ho4.form
            have OL := Lib.hid (show Own (w4.alloc (.cells #[.slice A4 12 c4] 22)) w.heap.size 22 1 _ 0 cs from by
              have := hcs1.keep (KR.out.trans hk4 (T := fun x => ownB (.slice A3 12 c3) = some x) (S := fun x => wr.heap.size ≤ x) (fun x _ e => by have := (H3.out.1.ownB x e).1; have := H1.out.2.size; have := H2.out.2.size; omega)) (fun x e h => by have := (hcs1.ownB x e).2; omega)
              exact this.alloc _)
            have W4 := Lib.hid (And.intro ho4 hk4)
            clear ho4 hk4
            go_wp2_with (at_builtin; refine wpList_append_gen _ rfl _ _ _ _ rfl w.heap.size 22 is _ 1 24 Try.underlying24 his hs0 hs1 hs2 rfl _ 0 cs rfl OL.out _ 1 _ rfl (src_one _ _ Try.underlying24 rfl) ?d1 ?d2 ?d3 ?_)
            case d1 => unfold maxLen; omega
            case d2 => omega
            case d3 => have h1 := KR.out.size; have h2 := W4.out.2.size; have h3 := hbelr.size; simp; omega
            intro v5 w5 ho5 hk5 hn5
            have NX := Lib.hid (show ListSt w.heap.size w5 v5 ((pieces s b n).take (0 + 1)) ∧ Below w.heap.size w w5 from by
              have hW4 : Keep (fun x => wr.heap.size ≤ x) wr (w4.alloc (.cells #[.slice A4 12 c4] 22)) := (KR.out.trans W4.out.2 (T := fun x => ownB (.slice A3 12 c3) = some x) (S := fun x => wr.heap.size ≤ x) (fun x _ e => by have := (H3.out.1.ownB x e).1; have := H1.out.2.size; have := H2.out.2.size; omega)).alloc _
              refine ⟨?_, ?_⟩
              · rw [NXT.out 0 hlt]
                refine ListSt.push (w := wr) (by rw [TL.out 0 hk]; exact hcs1) hcs2 hW4 (((sl_by W4.out.1.sl).mono (G := fun x => wr.heap.size ≤ x) (fun x _ h => by have := H1.out.2.size; have := H2.out.2.size; omega)).keep ((Keep.refl (fun _ => False) _).alloc _) (fun _ _ _ h => h)) hbelr.size (by rw [TL.out 0 hk]; exact ho5) hk5 (by simpa using hn5)
              · have h1 := Keep.trans (S := fun x => w.heap.size ≤ x) (T := fun x => wr.heap.size ≤ x) ((Keep.of_below' hbelr).mono (fun _ _ h => h.elim)) hW4 (fun x _ h => by have := hbelr.size; omega)
                exact (Keep.trans (S := fun x => w.heap.size ≤ x) h1 hk5 (fun x _ e => (hcs1.ownB x e).1)).to_below (Nat.le_refl _))
            clear ho5 hk5 hn5
            go_wp2
            go_roundw
            case rel => (repeat apply Exists.intro); exact ⟨⟨0 + 1, by omega, by go_num, NX⟩, rfl⟩
            case measure => simp [intOf]; omega
          · have SRC := Lib.hid (CSRC.out w3 KW.out k (len) (by omega) (by omega) (Option.map (fun x => x.add (k * 460)) A) (by intro h a ha; rw [ha]; rfl) (by intro hh; rcases A with _ | a; (have := AN.out rfl; omega); (cases hh)))
            go_wp2_with (at_builtin; refine wpList_append_gen _ rfl _ _ _ _ rfl w2.heap.size 5 ib _ 1 1 Try.underlying22 hib hb0 hb1 hb2 rfl _ _ _ rfl H3.out.1 _ _ _ rfl SRC.out ?c1 ?c2 ?c3 ?_)
            case c1 => unfold maxLen; omega
            case c2 => omega
            case c3 => exact H3.out.2.size
            intro v4 w4 ho4 hk4 _
            rw [CK.out k] at ho4
            obtain ⟨A4, c4, rfl, _⟩ := ho4.form
            have OL := Lib.hid (show Own (w4.alloc (.cells #[.slice A4 (12 + (len - k * 460)) c4] 22)) w.heap.size 22 1 _ k cs from by
              have := hcs1.keep (KR.out.trans hk4 (T := fun x => ownB (.slice A3 12 c3) = some x) (S := fun x => wr.heap.size ≤ x) (fun x _ e => by have := (H3.out.1.ownB x e).1; have := H1.out.2.size; have := H2.out.2.size; omega)) (fun x e h => by have := (hcs1.ownB x e).2; omega)
              exact this.alloc _)
            have W4 := Lib.hid (And.intro ho4 hk4)
            clear ho4 hk4
            go_wp2_with (at_builtin; refine wpList_append_gen _ rfl _ _ _ _ rfl w.heap.size 22 is _ 1 24 Try.underlying24 his hs0 hs1 hs2 rfl _ k cs rfl OL.out _ 1 _ rfl (src_one _ _ Try.underlying24 rfl) ?d1 ?d2 ?d3 ?_)
            case d1 => unfold maxLen; omega
            case d2 => omega
            case d3 => have h1 := KR.out.size; have h2 := W4.out.2.size; have h3 := hbelr.size; simp; omega
            intro v5 w5 ho5 hk5 hn5
            have NX := Lib.hid (show ListSt w.heap.size w5 v5 ((pieces s b n).take (k + 1)) ∧ Below w.heap.size w w5 from by
              have hW4 : Keep (fun x => wr.heap.size ≤ x) wr (w4.alloc (.cells #[.slice A4 (12 + (len - k * 460)) c4] 22)) := (KR.out.trans W4.out.2 (T := fun x => ownB (.slice A3 12 c3) = some x) (S := fun x => wr.heap.size ≤ x) (fun x _ e => by have := (H3.out.1.ownB x e).1; have := H1.out.2.size; have := H2.out.2.size; omega)).alloc _
              refine ⟨?_, ?_⟩
              · rw [NXT.out k hlt]
                refine ListSt.push (w := wr) (by rw [TL.out k hk]; exact hcs1) hcs2 hW4 (((sl_by W4.out.1.sl).mono (G := fun x => wr.heap.size ≤ x) (fun x _ h => by have := H1.out.2.size; have := H2.out.2.size; omega)).keep ((Keep.refl (fun _ => False) _).alloc _) (fun _ _ _ h => h)) hbelr.size (by rw [TL.out k hk]; exact ho5) hk5 (by simpa using hn5)
              · have h1 := Keep.trans (S := fun x => w.heap.size ≤ x) (T := fun x => wr.heap.size ≤ x) ((Keep.of_below' hbelr).mono (fun _ _ h => h.elim)) hW4 (fun x _ h => by have := hbelr.size; omega)
                exact (Keep.trans (S := fun x => w.heap.size ≤ x) h1 hk5 (fun x _ e => (hcs1.ownB x e).1)).to_below (Nat.le_refl _))
            clear ho5 hk5 hn5
            go_wp2
            go_roundw
            case rel => exact ⟨k + 1, by omega, by go_num, NX⟩
            case measure => simp [intOf]; omega
      · obtain rfl : k = n := by omega
        rw [FULL.out] at hst
        go_wp2
        go_ret
        exact ⟨_, rfl, hst.out.1, hst.out.2⟩
end Go.Proofs.Ytakchlaoimnnhaa

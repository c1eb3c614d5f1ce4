/- Contracts of geom.Need, vivariumref16.Need; a list of byte slices that is built; part.Split. -/
import Derived.Test.YtfjgbnnjfapcmaaLePl
import Derived.Test.YtfjgbnnjfapcmaaLe1
import Derived.Test.YtfjgbnnjfapcmaaRdr
import Derived.Test.YtfjgbnnjfapcmaaArgs
namespace Go.Proofs.Ytfjgbnnjfapcmaa
open Go.RowKit
set_option maxRecDepth 100000
set_option linter.unusedVariables false

theorem need_le (n : Nat) : need n ≤ n + 1 := by unfold need; split <;> omega
theorem need_any (n : Nat) (w : World) (hn : n ≤ 1099511627776) :
    Calls Try.prog 77 #[.int .i64 (n : Nat)] w fun e w' => e = .returned (.int .i64 (need n : Nat)) ∧ w = w' := by
  have H := Lib.hid (show (need n : Int) = if n ≤ 460 then 1 else ((n : Int) - 1) / 460 + 1 by unfold need; split <;> omega)
  by_cases h : n ≤ 460
  · rw [if_pos (by omega)] at H
    go_enter Try.func77, Try.ntmps77
    go_wp2
    go_ret
    exact ⟨ret_int H.out.symm, rfl⟩
  · rw [if_neg (by omega)] at H
    go_enter Try.func77, Try.ntmps77
    go_wp2
    go_ret
    exact ⟨ret_int H.out.symm, rfl⟩
theorem rneed_any (n : Nat) (w : World) (hn : n ≤ 1099511627776) :
    Calls Try.prog 70 #[.int .i64 (n : Nat)] w fun e w' => e = .returned (.int .i64 (need n : Nat)) ∧ w = w' := by
  have H := Lib.hid (show (need n : Int) = if n < 1 then 1 else if 0 < n % 460 then (n / 460 : Nat) + 1 else (n / 460 : Nat) by
    unfold need
    split
    · split
      · rfl
      · split <;> omega
    · rw [if_neg (by omega)]
      split <;> omega)
  by_cases h : n < 1
  · rw [if_pos h] at H
    go_enter Try.func70, Try.ntmps70
    go_wp2
    go_ret
    exact ⟨ret_int H.out.symm, rfl⟩
  · rw [if_neg h] at H
    by_cases h2 : 0 < n % 460
    · rw [if_pos h2] at H
      have h3 : (0 : Int) < (n : Int) % 460 := by omega
      go_enter Try.func70, Try.ntmps70
      go_wp2
      go_ret
      exact ⟨ret_int (by rw [H.out]; simp), rfl⟩
    · rw [if_neg h2] at H
      have h3 : ¬ (0 : Int) < (n : Int) % 460 := by omega
      have h4 : (n : Int) % 460 ≤ 0 := by omega
      go_enter Try.func70, Try.ntmps70
      go_wp2
      go_ret
      exact ⟨ret_int (by rw [H.out]; simp), rfl⟩
theorem place_any (z : Int) (w : World) :
    Calls Try.prog 18 #[.int .i64 z] w fun e w' => e = .returned (.bool (decide (0 ≤ z ∧ z ≤ 281474976710656))) ∧ w = w' := by
  obtain ⟨r, hr⟩ : ∃ r, r = decide (0 ≤ z ∧ z ≤ 281474976710656) := ⟨_, rfl⟩
  rw [← hr]
  by_cases h0 : z < 0
  · have Z := Lib.hid (hr.trans (decide_eq_false (by omega)))
    clear hr
    have h00 : decide (0 ≤ z) = false := decide_eq_false (by omega)
    go_enter Try.func18, Try.ntmps18
    go_wp2
    go_ret
    exact ⟨ret_bool Z.out.symm, rfl⟩
  · by_cases h1 : z ≤ 281474976710656
    · have Z := Lib.hid (hr.trans (decide_eq_true (by omega)))
      clear hr
      have h2 : decide (z ≤ 281474976710656) = true := decide_eq_true h1
      go_enter Try.func18, Try.ntmps18
      go_wp2
      go_ret
      exact ⟨ret_bool Z.out.symm, rfl⟩
    · have Z := Lib.hid (hr.trans (decide_eq_false (by omega)))
      clear hr
      have h2 : decide (z ≤ 281474976710656) = false := decide_eq_false h1
      go_enter Try.func18, Try.ntmps18
      go_wp2
      go_ret
      exact ⟨ret_bool Z.out.symm, rfl⟩
end Go.Proofs.Ytfjgbnnjfapcmaa
namespace Go.Proofs.Ytfjgbnnjfapcmaa
open Go.RowKit
set_option maxRecDepth 100000
set_option linter.unusedVariables false

theorem wordN {n : Nat} (h : n < 18446744073709551616) : word (n : Int) = n := by unfold word; omega
theorem pieces_next {s n k : Nat} {b : List UInt8} (h : k < n) : (pieces s b n).take (k + 1) = (pieces s b n).take k ++ [hdrB k n s ++ chunk b k] := by
  rw [List.take_add_one, pieces_at h]; rfl
/-- A round of part.Split: three numbers, a piece. -/
theorem split_hdr (k n : Nat) (Z : Int) (s : Nat) (hk : k ≤ 1024) (hn : n ≤ 1024) (hZ : leB (word Z) 8 = leB s 8) :
    (((([] : List UInt8) ++ leB (word (k : Int)) (wideN 2)) ++ leB (word (n : Int)) (wideN 2)) ++ leB (word Z) (wideN 8)) = hdrB k n s := by
  rw [show wideN 2 = 2 from rfl, show wideN 8 = 8 from rfl, hZ, wordN (by omega), wordN (by omega)]
  simp [hdrB, List.append_assoc]

theorem src_empty (A : Option Addr) (c : Nat) (W : World) : Src Try.prog 1 29 (.slice A 0 c) 0 (bv []) W := by
  rcases A with _ | a
  · exact Src.ofNil W Try.underlying29 c
  · exact Src.ofSlice W Try.underlying29 a 0 c [] (by simp) (fun j u hu => by simp at hu) (fun u hu => by simp at hu)
theorem chunk_src {W : World} {F : Nat → Prop} {A A' : Option Addr} {len c : Nat} {b : List UInt8} (hv : By W F (.slice A len c) b) (k e : Nat) (he : e = min ((k + 1) * 460) len) (hk : k * 460 ≤ len) (hA : 0 < e - k * 460 → ∀ a, A = some a → A' = some (a.add (k * 460))) (hn : A' = none → e - k * 460 = 0) :
    Src Try.prog 1 29 (.slice A' (e - k * 460) (e - k * 460)) (e - k * 460) (bv (chunk b k)) W := by
  have hl : b.length = len := by obtain ⟨_, _, e, _⟩ := hv; injection e with _ e2 _; exact e2.symm
  have hq : (b.drop (k * 460)).take (e - k * 460) = chunk b k := by
    unfold chunk
    rw [Nat.mul_comm 460 k]
    rcases Nat.lt_or_ge len ((k + 1) * 460) with h | h
    · rw [show e = len by omega, List.take_of_length_le (by rw [List.length_drop]; omega), List.take_of_length_le (by rw [List.length_drop]; omega)]
    · rw [show e - k * 460 = 460 by omega]
  have h := hv.piece (A' := A') (lo := k * 460) (m := e - k * 460) (c' := e - k * 460) (by omega) hA (Nat.le_refl _) (by unfold maxLen; omega) hn
  rw [hq] at h
  have hs := By.src (P := Try.prog) h Try.underlying29
  rw [show (chunk b k).length = e - k * 460 by rw [chunk_len]; omega] at hs
  exact hs
/-- le.Put: what it leaves is its own. -/
def OwnPost (w : World) (l : List UInt8) (e : Ending) (w' : World) : Prop := ∃ A n c, e = .returned (.slice A n c) ∧ Own w' w.heap.size 5 1 (.slice A n c) n (bv l) ∧ Below w.heap.size w w'
theorem putO (l : List UInt8) (v : Value) (F : Nat → Prop) (width n : Int) (w : World) (hv : By w F v l) (hn : l.length ≤ 35184372088832) :
    Calls Try.prog 78 #[v, .int .i64 width, .int .i64 n] w (OwnPost w (l ++ leB (word n) (wideN width))) :=
  (put_any l v F width n w hv hn).mono fun e w' ⟨u, he, ho, hb⟩ => by
    obtain ⟨A, c, rfl, _⟩ := ho.form
    exact ⟨A, _, c, he, ho, hb⟩
set_option maxHeartbeats 4000000 in
theorem psplit_any (z : Int) (b : List UInt8) (v : Value) (F : Nat → Prop) (w : World) (hv : By w F v b) (hb : b.length ≤ 1099511627776) :
    Calls Try.prog 56 #[.int .i64 z, v] w fun e w' => ∃ u, e = .returned u ∧ ListSt w.heap.size w' u (splitL z b) ∧ Below w.heap.size w w' := by
  obtain ⟨ib, hib, hb0, hb1, hb2⟩ := info_parts info_byte
  obtain ⟨is, his, hs0, hs1, hs2⟩ := info_parts info_bytes
  have ND := Lib.hid (need_any b.length w hb)
  have hnl := need_le b.length
  obtain ⟨n, hn⟩ : ∃ n, need b.length = n := ⟨_, rfl⟩
  have NB := Lib.hid (need_bd hn)
  unfold splitL
  rw [hn] at ND hnl ⊢
  by_cases hbig : 1024 < n
  · rw [if_pos hbig]
    obtain ⟨A, c, rfl, _, _, _, _⟩ := hv
    generalize hl : b.length = len at *
    clear hl hn
    rcases (show z < 0 ∨ (0 ≤ z ∧ 281474976710656 < z) ∨ (0 ≤ z ∧ z ≤ 281474976710656) by omega) with h | ⟨h, h'⟩ | ⟨h, h'⟩
    all_goals
      go_enter Try.func56, Try.ntmps56
      go_wp2_with (go_at_call 77; refine ND.out.mono ?_; rintro e w1 ⟨rfl, rfl⟩)
      all_goals
        go_ret
        exact ⟨_, rfl, ListSt.nil _ _, Below.refl _ _⟩
  rw [if_neg hbig]
  have hbig : n ≤ 1024 := by omega
  have hn1 := NB.out.1
  have hb3 : b.length ≤ 460 * n := NB.out.2.1
  have W : ∃ Z : Int, leB (word Z) 8 = leB (clampSeq z) 8 ∧ (z < 0 ∧ Z = 0 ∨ 0 ≤ z ∧ 281474976710656 < z ∧ Z = 281474976710656 ∨ z = 0 ∧ Z = 0 ∨ 0 < z ∧ z ≤ 281474976710656 ∧ Z = z) := by
    unfold clampSeq
    rcases (show z < 0 ∨ (0 ≤ z ∧ 281474976710656 < z) ∨ z = 0 ∨ (0 < z ∧ z ≤ 281474976710656) by omega) with h | ⟨h, h'⟩ | rfl | ⟨h, h'⟩
    · exact ⟨0, by rw [if_pos h]; rfl, .inl ⟨h, rfl⟩⟩
    · exact ⟨281474976710656, by rw [if_neg (by omega), if_pos h']; rfl, .inr (.inl ⟨h, h', rfl⟩)⟩
    · exact ⟨0, rfl, .inr (.inr (.inl ⟨rfl, rfl⟩))⟩
    · exact ⟨z, by rw [if_neg (by omega), if_neg (by omega)]; congr 1; unfold word; omega, .inr (.inr (.inr ⟨h, h', rfl⟩))⟩
  generalize clampSeq z = s at *
  have NXT := Lib.hid (fun k (h : k < n) => @pieces_next s n k b h)
  have FULL := Lib.hid (show (pieces s b n).take n = pieces s b n from List.take_of_length_le (by rw [pieces_len]; exact Nat.le_refl _))
  have CH := Lib.hid (chunk_len b)
  have hv0 := hv
  obtain ⟨A, c, rfl, hlc, hcm, hAn, _⟩ := hv
  unfold maxLen at hcm
  have CSRC := Lib.hid (fun W (hk : Keep (fun _ => False) w W) k e he hke A' hA hn => @chunk_src W F A A' b.length c b (hv0.keep hk (fun _ _ _ h => h)) k e he hke hA hn)
  have AN : Hid (A = none → b.length = 0) := fun h => by have := hAn h; omega
  have TL := Lib.hid (show ∀ k, k ≤ n → ((pieces s b n).take k).length = k from fun k hk => by rw [List.length_take, pieces_len]; omega)
  have HDR := Lib.hid (fun k (hk : k ≤ 1024) Z (hZ : leB (word Z) 8 = leB s 8) => split_hdr k n Z s hk hbig hZ)
  have P1 := Lib.hid (fun (k : Nat) W => putO [] (.slice none 0 0) (fun _ => True) 2 (k : Nat) W (By.nil _ _) (by decide))
  have CK := Lib.hid (fun k => (show bv (hdrB k n s) ++ bv (chunk b k) = bv (hdrB k n s ++ chunk b k) from (bv_append _ _).symm))
  generalize hl : b.length = len at *
  have NZ := Lib.hid (show ∀ k, k < n → (len < k * 460 → False) ∧ (len - k * 460 = 0 → k = 0 ∧ len = 0) from fun k hk => by
    obtain ⟨q1, q2, q3⟩ := NB.out
    have := fun h => q3 h
    rcases Nat.lt_or_ge 1 n with h1 | h1
    · have := q3 h1; omega
    · omega)
  clear hl hn hv0 NB
  obtain ⟨Z, hZ, hcase⟩ := W
  have WZ := Lib.hid hZ
  clear hZ
  rcases hcase with ⟨h, rfl⟩ | ⟨h, h', rfl⟩ | ⟨rfl, rfl⟩ | ⟨h, h', rfl⟩
  all_goals
    go_enter Try.func56, Try.ntmps56
    go_wp2_with (go_at_call 77; refine ND.out.mono ?_; rintro e w1 ⟨rfl, rfl⟩)
  all_goals
    go_loopw [6, 19] (fun u i wr => ∃ k : Nat, k ≤ n ∧ i = .int .i64 k ∧ Hid (ListSt w.heap.size wr u ((pieces s b n).take k) ∧ Below w.heap.size w wr)) (fun _ i _ => n - (intOf i).toNat)
    case atStart => exact ⟨0, by omega, rfl, Lib.hid ⟨ListSt.nil _ _, Below.refl _ _⟩⟩
    case round =>
      obtain ⟨k, hk, rfl, hst⟩ := hrel
      by_cases hlt : k < n
      · have CL := CH.out k
        have f1 : (k : Int) < (n : Int) := by omega
        go_wp2_with fail
        refine (P1.out k _).mono ?_
        rintro e w1 ⟨A1, n1, c1, rfl, ho1, hb1⟩
        have H1 := Lib.hid (And.intro ho1 hb1)
        clear ho1 hb1
        go_wp2_with fail
        refine (putO _ _ _ 2 (n : Nat) _ (sl_by H1.out.1.sl) (by simp only [List.length_append, leB_len]; decide)).mono ?_
        rintro e w2 ⟨A2, n2, c2, rfl, ho2, hb2⟩
        have H2 := Lib.hid (And.intro ho2 hb2)
        clear ho2 hb2
        go_wp2_with fail
        refine (putO _ _ _ 8 _ _ (sl_by H2.out.1.sl) (by simp only [List.length_append, leB_len]; decide)).mono ?_
        rintro e w3 ⟨A3, n3, c3, rfl, ho3, hb3⟩
        rw [HDR.out k (by omega) _ WZ.out] at ho3
        have hn3 : n3 = 12 := by have := ho3.1; rw [bv_len, hdrB_len] at this; omega
        subst hn3
        have H3 := Lib.hid (And.intro ho3 hb3)
        clear ho3 hb3
        obtain ⟨⟨cs, hcs1, hcs2⟩, hbelr⟩ := hst.out
        rw [TL.out k hk] at hcs1
        have KR := Lib.hid (show Keep (fun x => wr.heap.size ≤ x) wr w3 from by
          have h1 := H1.out.2.size
          have h2 := H2.out.2.size
          exact ((Keep.of_below H1.out.2).trans ((Keep.of_below H2.out.2).trans (Keep.of_below H3.out.2) (S := fun x => w1.heap.size ≤ x) (fun x _ h => by omega)) (S := fun x => wr.heap.size ≤ x) (fun x _ h => by omega)))
        have KW := Lib.hid (show Keep (fun _ => False) w w3 from (Keep.of_below' hbelr).trans ((Keep.of_below' H1.out.2).trans ((Keep.of_below' H2.out.2).trans (Keep.of_below' H3.out.2) (fun _ _ h => h)) (fun _ _ h => h)) (fun _ _ h => h))
        by_cases he : (k + 1) * 460 ≤ len
        · have SRC := Lib.hid (CSRC.out w3 KW.out k ((k + 1) * 460) (by omega) (by omega) (Option.map (fun x => x.add (k * 460)) A) (by intro h a ha; rw [ha]; rfl) (by intro hh; rcases A with _ | a; (have := AN.out rfl; omega); (cases hh)))
          go_wp2_with (at_builtin; refine wpList_append_gen _ rfl _ _ _ _ rfl w2.heap.size 5 ib _ 1 1 Try.underlying29 hib hb0 hb1 hb2 rfl _ _ _ rfl H3.out.1 _ _ _ rfl SRC.out ?c1 ?c2 ?c3 ?_)
          case c1 => unfold maxLen; omega
          case c2 => omega
          case c3 => exact H3.out.2.size
          intro v4 w4 ho4 hk4 _
          rw [CK.out k] at ho4
          obtain ⟨A4, c4, rfl, _⟩ := ho4.form
          have OL := Lib.hid (show Own (w4.alloc (.cells #[.slice A4 (12 + ((k + 1) * 460 - k * 460)) c4] 29)) w.heap.size 29 1 _ k cs from by
            have := hcs1.keep (KR.out.trans hk4 (T := fun x => ownB (.slice A3 12 c3) = some x) (S := fun x => wr.heap.size ≤ x) (fun x _ e => by have := (H3.out.1.ownB x e).1; have := H1.out.2.size; have := H2.out.2.size; omega)) (fun x e h => by have := (hcs1.ownB x e).2; omega)
            exact this.alloc _)
          have W4 := Lib.hid (And.intro ho4 hk4)
          clear ho4 hk4
          go_wp2_with (at_builtin; refine wpList_append_gen _ rfl _ _ _ _ rfl w.heap.size 29 is _ 1 24 Try.underlying25 his hs0 hs1 hs2 rfl _ k cs rfl OL.out _ 1 _ rfl (src_one _ _ Try.underlying25 rfl) ?d1 ?d2 ?d3 ?_)
          case d1 => unfold maxLen; omega
          case d2 => omega
          case d3 => have h1 := KR.out.size; have h2 := W4.out.2.size; have h3 := hbelr.size; simp; omega
          intro v5 w5 ho5 hk5 hn5
          have NX := Lib.hid (show ListSt w.heap.size w5 v5 ((pieces s b n).take (k + 1)) ∧ Below w.heap.size w w5 from by
            have hW4 : Keep (fun x => wr.heap.size ≤ x) wr (w4.alloc (.cells #[.slice A4 (12 + ((k + 1) * 460 - k * 460)) c4] 29)) := (KR.out.trans W4.out.2 (T := fun x => ownB (.slice A3 12 c3) = some x) (S := fun x => wr.heap.size ≤ x) (fun x _ e => by have := (H3.out.1.ownB x e).1; have := H1.out.2.size; have := H2.out.2.size; omega)).alloc _
            refine ⟨?_, ?_⟩
            · rw [NXT.out k hlt]
              refine ListSt.push (w := wr) (by rw [TL.out k hk]; exact hcs1) hcs2 hW4 (((sl_by W4.out.1.sl).mono (G := fun x => wr.heap.size ≤ x) (fun x _ h => by have := H1.out.2.size; have := H2.out.2.size; omega)).keep ((Keep.refl (fun _ => False) _).alloc _) (fun _ _ _ h => h)) hbelr.size (by rw [TL.out k hk]; exact ho5) hk5 (by simpa using hn5)
            · have h1 := Keep.trans (S := fun x => w.heap.size ≤ x) (T := fun x => wr.heap.size ≤ x) ((Keep.of_below' hbelr).mono (fun _ _ h => h.elim)) hW4 (fun x _ h => by have := hbelr.size; omega)
              exact (Keep.trans (S := fun x => w.heap.size ≤ x) h1 hk5 (fun x _ e => (hcs1.ownB x e).1)).to_below (Nat.le_refl _))
          clear ho5 hk5 hn5
          go_wp2
          go_roundw
          case rel => exact ⟨k + 1, by omega, by go_num, NX⟩
          case measure => simp [intOf]; omega
        · by_cases h0 : len - k * 460 = 0
          · have hl0 : len = 0 := ((NZ.out k hlt).2 h0).2
            have hk0 : k = 0 := ((NZ.out k hlt).2 h0).1
            subst hl0
            subst hk0
            clear h0 NZ
            have SRC := Lib.hid (show Src Try.prog 1 29 (.slice A 0 0) 0 (bv (chunk b 0)) w3 by rw [show chunk b 0 = [] from List.eq_nil_of_length_eq_zero (by omega)]; exact src_empty A 0 w3)
            go_wp2_with (at_builtin; refine wpList_append_gen _ rfl _ _ _ _ rfl w2.heap.size 5 ib _ 1 1 Try.underlying29 hib hb0 hb1 hb2 rfl _ _ _ rfl H3.out.1 _ _ _ rfl SRC.out ?c1 ?c2 ?c3 ?_)
            case c1 => unfold maxLen; omega
            case c2 => omega
            case c3 => exact H3.out.2.size
            intro v4 w4 ho4 hk4 _
            rw [CK.out 0] at ho4
            obtain ⟨A4, c4, rfl, _⟩ := ho4.form
            have OL := Lib.hid (show Own (w4.alloc (.cells #[.slice A4 12 c4] 29)) w.heap.size 29 1 _ 0 cs from by
              have := hcs1.keep (KR.out.trans hk4 (T := fun x => ownB (.slice A3 12 c3) = some x) (S := fun x => wr.heap.size ≤ x) (fun x _ e => by have := (H3.out.1.ownB x e).1; have := H1.out.2.size; have := H2.out.2.size; omega)) (fun x e h => by have := (hcs1.ownB x e).2; omega)
              exact this.alloc _)
            have W4 := Lib.hid (And.intro ho4 hk4)
            clear ho4 hk4
            go_wp2_with (at_builtin; refine wpList_append_gen _ rfl _ _ _ _ rfl w.heap.size 29 is _ 1 24 Try.underlying25 his hs0 hs1 hs2 rfl _ 0 cs rfl OL.out _ 1 _ rfl (src_one _ _ Try.underlying25 rfl) ?d1 ?d2 ?d3 ?_)
            case d1 => unfold maxLen; omega
            case d2 => omega
            case d3 => have h1 := KR.out.size; have h2 := W4.out.2.size; have h3 := hbelr.size; simp; omega
            intro v5 w5 ho5 hk5 hn5
            have NX := Lib.hid (show ListSt w.heap.size w5 v5 ((pieces s b n).take (0 + 1)) ∧ Below w.heap.size w w5 from by
              have hW4 : Keep (fun x => wr.heap.size ≤ x) wr (w4.alloc (.cells #[.slice A4 12 c4] 29)) := (KR.out.trans W4.out.2 (T := fun x => ownB (.slice A3 12 c3) = some x) (S := fun x => wr.heap.size ≤ x) (fun x _ e => by have := (H3.out.1.ownB x e).1; have := H1.out.2.size; have := H2.out.2.size; omega)).alloc _
              refine ⟨?_, ?_⟩
              · rw [NXT.out 0 hlt]
                refine ListSt.push (w := wr) (by rw [TL.out 0 hk]; exact hcs1) hcs2 hW4 (((sl_by W4.out.1.sl).mono (G := fun x => wr.heap.size ≤ x) (fun x _ h => by have := H1.out.2.size; have := H2.out.2.size; omega)).keep ((Keep.refl (fun _ => False) _).alloc _) (fun _ _ _ h => h)) hbelr.size (by rw [TL.out 0 hk]; exact ho5) hk5 (by simpa using hn5)
              · have h1 := Keep.trans (S := fun x => w.heap.size ≤ x) (T := fun x => wr.heap.size ≤ x) ((Keep.of_below' hbelr).mono (fun _ _ h => h.elim)) hW4 (fun x _ h => by have := hbelr.size; omega)
                exact (Keep.trans (S := fun x => w.heap.size ≤ x) h1 hk5 (fun x _ e => (hcs1.ownB x e).1)).to_below (Nat.le_refl _))
            clear ho5 hk5 hn5
            go_wp2
            go_roundw
            case rel => (repeat apply Exists.intro); exact ⟨⟨0 + 1, by omega, by go_num, NX⟩, rfl⟩
            case measure => simp [intOf]; omega
          · have SRC := Lib.hid (CSRC.out w3 KW.out k (len) (by omega) (by omega) (Option.map (fun x => x.add (k * 460)) A) (by intro h a ha; rw [ha]; rfl) (by intro hh; rcases A with _ | a; (have := AN.out rfl; omega); (cases hh)))
            go_wp2_with (at_builtin; refine wpList_append_gen _ rfl _ _ _ _ rfl w2.heap.size 5 ib _ 1 1 Try.underlying29 hib hb0 hb1 hb2 rfl _ _ _ rfl H3.out.1 _ _ _ rfl SRC.out ?c1 ?c2 ?c3 ?_)
            case c1 => unfold maxLen; omega
            case c2 => omega
            case c3 => exact H3.out.2.size
            intro v4 w4 ho4 hk4 _
            rw [CK.out k] at ho4
            obtain ⟨A4, c4, rfl, _⟩ := ho4.form
            have OL := Lib.hid (show Own (w4.alloc (.cells #[.slice A4 (12 + (len - k * 460)) c4] 29)) w.heap.size 29 1 _ k cs from by
              have := hcs1.keep (KR.out.trans hk4 (T := fun x => ownB (.slice A3 12 c3) = some x) (S := fun x => wr.heap.size ≤ x) (fun x _ e => by have := (H3.out.1.ownB x e).1; have := H1.out.2.size; have := H2.out.2.size; omega)) (fun x e h => by have := (hcs1.ownB x e).2; omega)
              exact this.alloc _)
            have W4 := Lib.hid (And.intro ho4 hk4)
            clear ho4 hk4
            go_wp2_with (at_builtin; refine wpList_append_gen _ rfl _ _ _ _ rfl w.heap.size 29 is _ 1 24 Try.underlying25 his hs0 hs1 hs2 rfl _ k cs rfl OL.out _ 1 _ rfl (src_one _ _ Try.underlying25 rfl) ?d1 ?d2 ?d3 ?_)
            case d1 => unfold maxLen; omega
            case d2 => omega
            case d3 => have h1 := KR.out.size; have h2 := W4.out.2.size; have h3 := hbelr.size; simp; omega
            intro v5 w5 ho5 hk5 hn5
            have NX := Lib.hid (show ListSt w.heap.size w5 v5 ((pieces s b n).take (k + 1)) ∧ Below w.heap.size w w5 from by
              have hW4 : Keep (fun x => wr.heap.size ≤ x) wr (w4.alloc (.cells #[.slice A4 (12 + (len - k * 460)) c4] 29)) := (KR.out.trans W4.out.2 (T := fun x => ownB (.slice A3 12 c3) = some x) (S := fun x => wr.heap.size ≤ x) (fun x _ e => by have := (H3.out.1.ownB x e).1; have := H1.out.2.size; have := H2.out.2.size; omega)).alloc _
              refine ⟨?_, ?_⟩
              · rw [NXT.out k hlt]
                refine ListSt.push (w := wr) (by rw [TL.out k hk]; exact hcs1) hcs2 hW4 (((sl_by W4.out.1.sl).mono (G := fun x => wr.heap.size ≤ x) (fun x _ h => by have := H1.out.2.size; have := H2.out.2.size; omega)).keep ((Keep.refl (fun _ => False) _).alloc _) (fun _ _ _ h => h)) hbelr.size (by rw [TL.out k hk]; exact ho5) hk5 (by simpa using hn5)
              · have h1 := Keep.trans (S := fun x => w.heap.size ≤ x) (T := fun x => wr.heap.size ≤ x) ((Keep.of_below' hbelr).mono (fun _ _ h => h.elim)) hW4 (fun x _ h => by have := hbelr.size; omega)
                exact (Keep.trans (S := fun x => w.heap.size ≤ x) h1 hk5 (fun x _ e => (hcs1.ownB x e).1)).to_below (Nat.le_refl _))
            clear ho5 hk5 hn5
            go_wp2
            go_roundw
            case rel => exact ⟨k + 1, by omega, by go_num, NX⟩
            case measure => simp [intOf]; omega
      · obtain rfl : k = n := by omega
        rw [FULL.out] at hst
        go_wp2
        go_ret
        exact ⟨_, rfl, hst.out.1, hst.out.2⟩
end Go.Proofs.Ytfjgbnnjfapcmaa
namespace Go.Proofs.Ytfjgbnnjfapcmaa
open Go.RowKit
set_option maxRecDepth 100000
set_option linter.unusedVariables false

/-- A slice of its own that is not empty: its block, read and written. -/
theorem Own.cells_ {w : World} {base n c : Nat} {e : TypeId} {A : Option Addr} {xs : List Value} (h : Own w base e 1 (.slice A n c) n xs) (hn : 0 < n) :
    ∃ g, A = some ⟨g, 0, none⟩ ∧ base ≤ g ∧ g < w.heap.size ∧ (∀ i u, xs[i]? = some u → w.cell? ⟨g, i, none⟩ = some u) ∧ (∀ i, w.frozen? ⟨g, i, none⟩ = false) ∧ ∀ i u, Own (w.setCell ⟨g, i, none⟩ u) base e 1 (.slice A n c) n (xs.set i u) := by
  obtain ⟨hl, A', c', hv, hnc, hc, hg⟩ := h
  injection hv with h1 h2 h3
  subst h1 h3
  obtain ⟨g, cur, rfl, hb, hgg, hs, ht⟩ := hg (by omega)
  refine ⟨g, rfl, hb, (Array.getElem?_eq_some_iff.1 hgg).1, fun i u hu => ?_, fun i => frozen_of_row w g i _ _ hgg, fun i u => ⟨by rw [List.length_set]; exact hl, _, c, rfl, hnc, hc, fun _ => ⟨g, _, rfl, hb, heap_setCell_same _ g i _ _ u hgg, by rw [Array.size_setIfInBounds]; exact hs, ?_⟩⟩⟩
  · rw [cell_of_row w g i _ _ _ hgg]
    rw [← ht, List.getElem?_take] at hu
    split at hu
    · simpa using hu
    · cases hu
  · rw [← ht, Array.toList_setIfInBounds, List.take_set]

/-- The cells zs bear the byte slices Z. -/
def Bear (w : World) (F : Nat → Prop) (zs : List Value) (Z : List (List UInt8)) : Prop :=
  zs.length = Z.length ∧ ∀ (i : Nat) (r : List UInt8), Z[i]? = some r → ∃ u, zs[i]? = some u ∧ By w F u r
section
variable {w w' : World} {F S : Nat → Prop} {zs ys : List Value} {Z Y : List (List UInt8)} {v : Value}
theorem Bear.keep (h : Bear w F zs Z) (hk : Keep S w w') (hs : ∀ b, b < w.heap.size → F b → ¬ S b) : Bear w' F zs Z :=
  ⟨h.1, fun i r hr => by obtain ⟨u, h1, h2⟩ := h.2 i r hr; exact ⟨u, h1, h2.keep hk hs⟩⟩
theorem Bear.take (h : Bear w F zs Z) (k : Nat) : Bear w F (zs.take k) (Z.take k) :=
  ⟨by rw [List.length_take, List.length_take, h.1], fun i r hr => by
    rw [List.getElem?_take] at hr ⊢
    split at hr
    · rename_i hi; rw [if_pos hi]; exact h.2 i r hr
    · cases hr⟩
theorem Bear.drop (h : Bear w F zs Z) (k : Nat) : Bear w F (zs.drop k) (Z.drop k) :=
  ⟨by rw [List.length_drop, List.length_drop, h.1], fun i r hr => by
    rw [List.getElem?_drop] at hr ⊢
    exact h.2 _ r hr⟩
theorem Bear.append (h : Bear w F zs Z) (k : Bear w F ys Y) : Bear w F (zs ++ ys) (Z ++ Y) :=
  ⟨by rw [List.length_append, List.length_append, h.1, k.1], fun i r hr => by
    have hl := h.1
    rcases Nat.lt_or_ge i Z.length with hi | hi
    · rw [List.getElem?_append_left hi] at hr
      rw [List.getElem?_append_left (by omega)]
      exact h.2 i r hr
    · rw [List.getElem?_append_right hi] at hr
      rw [List.getElem?_append_right (by omega), hl]
      exact k.2 _ r hr⟩
theorem Bear.set (h : Bear w F zs Z) {u : Value} {r : List UInt8} (hu : By w F u r) (k : Nat) : Bear w F (zs.set k u) (Z.set k r) :=
  ⟨by rw [List.length_set, List.length_set, h.1], fun i q hq => by
    have hl := h.1
    by_cases hi : k = i
    · subst hi
      rcases Nat.lt_or_ge k Z.length with hk | hk
      · rw [List.getElem?_set_self hk] at hq
        injection hq with hq
        subst hq
        exact ⟨u, by rw [List.getElem?_set_self (by omega)], hu⟩
      · rw [List.getElem?_eq_none (by rw [List.length_set]; exact hk)] at hq
        cases hq
    · rw [List.getElem?_set_ne hi] at hq ⊢
      exact h.2 i q hq⟩
theorem Bear.bys (h : Bear w F zs Z) {G : Nat → Prop} (hs : Sl w G 1 v Z.length zs) (hg : ∀ b, b < w.heap.size → G b → F b) : Bys w F v Z := ⟨zs, hs.mono hg, h.2⟩
end
theorem ListSt.open_ {B : Nat} {w : World} {u : Value} {R : List (List UInt8)} (h : ListSt B w u R) : ∃ cs, Own w B 29 1 u R.length cs ∧ Bear w (fun b => B ≤ b) cs R := by
  obtain ⟨cs, h1, h2⟩ := h
  refine ⟨cs, h1, by have := h1.1; omega, fun i r hr => ?_⟩
  obtain ⟨x, hx, hb⟩ := h2 i r hr
  exact ⟨x, hx, hb.mono (fun _ _ h => h.1)⟩
theorem Bear.one {w : World} {F : Nat → Prop} {zs : List Value} {Z : List (List UInt8)} (h : Bear w F zs Z) : ∀ u ∈ zs, u.oneCell' = true := bys_one h.1 h.2

theorem src_take {W : World} {B n c i g : Nat} {w : World} {cs : List Value} {R : List (List UInt8)} {F : Nat → Prop} (h : Own w B 29 1 (.slice (some ⟨g, 0, none⟩) n c) n cs) (hz : Bear w F cs R) (hi : i ≤ n) (hk : Keep (fun _ => False) w W) :
    Src Try.prog 1 25 (.slice (some ⟨g, 0, none⟩) i c) i (cs.take i) W := by
  obtain ⟨A', c', e, hr⟩ := (h.take hi).form
  injection e with e1 e2 e3
  subst e1 e3
  rw [show cs.take (i * 1) = cs.take i by rw [Nat.mul_one]] at hr
  exact (hr.keep hk (fun _ _ _ h => h)).src (n := i) (size := 1) Try.underlying25 (fun u hu => hz.one u (List.mem_of_mem_take hu)) (by omega)
theorem src_all {W : World} {B n c g : Nat} {w : World} {cs : List Value} {R : List (List UInt8)} {F : Nat → Prop} (h : Own w B 29 1 (.slice (some ⟨g, 0, none⟩) n c) n cs) (hz : Bear w F cs R) (hk : Keep (fun _ => False) w W) :
    Src Try.prog 1 25 (.slice (some ⟨g, 0, none⟩) n c) n cs W := by
  have := src_take h hz (Nat.le_refl n) hk
  rwa [List.take_of_length_le (by have := h.1; omega)] at this
theorem src_drop {W : World} {B n c c' i g : Nat} {w : World} {cs : List Value} {R : List (List UInt8)} {F : Nat → Prop} (h : Own w B 29 1 (.slice (some ⟨g, 0, none⟩) n c) n cs) (hz : Bear w F cs R) (hi : i ≤ n) (hk : Keep (fun _ => False) w W) :
    Src Try.prog 1 25 (.slice (some ⟨g, i, none⟩) (n - i) c') (n - i) (cs.drop i) W := by
  obtain ⟨A1, c1, e, hr⟩ := h.form
  injection e with e1 e2 e3
  subst e1 e3
  have hp := hr.piece (size := 1) (lo := i) (hi := n) (A' := some ⟨g, i, none⟩) hi (by omega) (fun b off e _ => by injection e with e; injection e with e1 e2; subst e1 e2; simp)
  rw [List.take_of_length_le (by rw [List.length_drop]; have := h.1; omega), show cs.drop (i * 1) = cs.drop i by rw [Nat.mul_one]] at hp
  exact (hp.keep hk (fun _ _ _ h => h)).src (n := n - i) (size := 1) Try.underlying25 (fun u hu => hz.one u (List.mem_of_mem_drop hu)) (by omega)
theorem src_none {W : World} {A : Option Addr} {c : Nat} : Src Try.prog 1 25 (.slice A 0 c) 0 [] W :=
  Rd.src (F := fun _ => True) (n := 0) (size := 1) (Rd.nil W _ A) Try.underlying25 (fun u hu => by simp at hu) (by omega)

/-- One piece short. -/
theorem less_not {s n i : Nat} {b : List UInt8} (hs : s ≤ 281474976710656) (hi : i < n) (hn : n ≤ 1024) : joinOk ((pieces s b n).take i ++ (pieces s b n).drop (i + 1)) = false := by
  have hl := pieces_len s b n
  rcases Nat.lt_or_ge 1 n with h1 | h1
  · rcases Nat.eq_zero_or_pos i with h0 | h0
    · subst h0
      refine not_joined (i := 0) (k := 1) (n := n) (seq := s) (c := chunk b 1) ?_ (by omega) (by omega) hs (.inl (by omega))
      rw [List.take_zero, List.nil_append, List.getElem?_drop]
      exact pieces_at h1
    · refine not_joined (i := 0) (k := 0) (n := n) (seq := s) (c := chunk b 0) ?_ (by omega) (by omega) hs (.inr ?_)
      · rw [List.getElem?_append_left (by rw [List.length_take, hl]; omega), List.getElem?_take, if_pos h0]
        exact pieces_at (by omega)
      · rw [List.length_append, List.length_take, List.length_drop, hl]; omega
  · obtain rfl : i = 0 := by omega
    obtain rfl : n = 1 := by omega
    rw [List.take_zero, List.nil_append, List.drop_eq_nil_of_le (by rw [hl]; omega)]
    rfl
/-- One piece of another record. -/
theorem mixed_not {s t n m i : Nat} {a b : List UInt8} (hs : s ≤ 281474976710656) (ht : t ≤ 281474976710656) (hi : i < n) (him : i < m) (hn : n ≤ 1024) (hm : m ≤ 1024) (h1 : 1 < n) (h : s ≠ t ∨ n ≠ m) :
    joinOk ((pieces s a n).set i (hdrB i m t ++ chunk b i)) = false := by
  have hl := pieces_len s a n
  have hat : ((pieces s a n).set i (hdrB i m t ++ chunk b i))[i]? = some (hdrB i m t ++ chunk b i) := List.getElem?_set_self (by omega)
  by_cases hnm : n = m
  · have hst : s ≠ t := h.resolve_right (fun h => h hnm)
    obtain ⟨j, hj, hji⟩ : ∃ j, j < n ∧ i ≠ j := by
      rcases Nat.eq_zero_or_pos i with h0 | h0
      · exact ⟨1, h1, by omega⟩
      · exact ⟨0, by omega, by omega⟩
    exact not_joined2 (i := j) (j := i) (k := j) (n := n) (seq := s) (c := chunk a j) (by rw [List.getElem?_set_ne hji]; exact pieces_at hj) hat (by omega) (by omega) (by omega) (by omega) hs ht hst
  · exact not_joined hat (by omega) (by omega) ht (.inr (by rw [List.length_set, hl]; omega))
/-- Two pieces turned. -/
theorem turned_not {s n i j : Nat} {a : List UInt8} (hs : s ≤ 281474976710656) (hi : i < n) (hj : j < n) (hij : i ≠ j) (hn : n ≤ 1024) :
    joinOk (((pieces s a n).set i (hdrB j n s ++ chunk a j)).set j (hdrB i n s ++ chunk a i)) = false := by
  have hl := pieces_len s a n
  refine not_joined (i := j) (k := i) (n := n) (seq := s) (c := chunk a i) (List.getElem?_set_self (by rw [List.length_set]; omega)) (by omega) (by omega) hs (.inl hij)
end Go.Proofs.Ytfjgbnnjfapcmaa
namespace Go.Proofs.Ytfjgbnnjfapcmaa
open Go.RowKit
set_option maxRecDepth 100000
set_option linter.unusedVariables false

theorem res4 {fn : Func} {t u v x : Tmp} (h : fn.results = #[.tmp t, .tmp u, .tmp v, .tmp x]) (tmps : Array Value) (P : Program) (w : World) :
    (results fn tmps).run P w = .ok (.tuple #[tmps.getD t undef, tmps.getD u undef, tmps.getD v undef, tmps.getD x undef]) w := by simp [results, h]
/-- What a head tells. -/
def HeadIs (l : List UInt8) (a b c : Int) (ok : Bool) : Prop := ok = headOk l ∧ a = (if headOk l = true then (hPlace l : Int) else 0) ∧ b = (if headOk l = true then (hCount l : Int) else 0) ∧ c = (if headOk l = true then hSeq l else 0)
def headT (l : List UInt8) : Value := .tuple #[.int .i64 (if headOk l = true then (hPlace l : Int) else 0), .int .i64 (if headOk l = true then (hCount l : Int) else 0), .int .i64 (if headOk l = true then hSeq l else 0), .bool (headOk l)]
theorem headT_no {l : List UInt8} (h : headOk l = false) : headT l = .tuple #[.int .i64 0, .int .i64 0, .int .i64 0, .bool false] := by simp [headT, h]
theorem headT_yes {l : List UInt8} (h : headOk l = true) : headT l = .tuple #[.int .i64 (hPlace l : Int), .int .i64 (hCount l : Int), .int .i64 (hSeq l), .bool true] := by simp [headT, h]
theorem getN_two (l : List UInt8) : getN (l.take 2) < 65536 :=
  Nat.lt_of_lt_of_le (getN_lt _) (Nat.le_trans (Nat.pow_le_pow_right (by decide) (List.length_take_le _ _)) (by decide))
theorem getZ_small {l : List UInt8} {k : Nat} (h : k + 2 ≤ l.length) : getZ l k 2 = (getN ((l.drop k).take 2) : Int) ∧ getOk l k 2 = true := by
  have hok : getOk l k 2 = true := getOk_yes (width := 2) (by have : wideN 2 = 2 := rfl; omega)
  refine ⟨?_, hok⟩
  unfold getZ
  rw [if_pos hok, Int.toNat_natCast, show wideN 2 = 2 from rfl]
  show wrap64 (getN ((l.drop k).take 2)) = _
  exact wrap64_small (Nat.lt_trans (getN_two _) (by decide))
theorem num2 {l : List UInt8} {k : Nat} (h : k + 2 ≤ l.length) : numR l k false 2 = ((getN ((l.drop k).take 2) : Int), k + 2, false) := by
  obtain ⟨h1, h2⟩ := getZ_small h
  unfold numR
  rw [if_neg (by simp), if_pos h2, h1]
  rfl
theorem num8 {l : List UInt8} {k : Nat} (h : k + 8 ≤ l.length) : numR l k false 8 = (wrap64 (getN ((l.drop k).take 8)), k + 8, false) := by
  have hok : getOk l k 8 = true := getOk_yes (width := 8) (by have : wideN 8 = 8 := rfl; omega)
  unfold numR getZ
  rw [if_neg (by simp), if_pos hok, if_pos hok, Int.toNat_natCast]
  rfl
theorem headOk_iff {p : List UInt8} : headOk p = true ↔ 12 ≤ p.length ∧ p.length ≤ 472 ∧ 1 ≤ hCount p ∧ hCount p ≤ 1024 ∧ hPlace p < hCount p ∧ 0 ≤ hSeq p ∧ hSeq p ≤ 281474976710656 := by
  unfold headOk; exact decide_eq_true_iff

set_option maxHeartbeats 4000000 in
theorem phead_any (l : List UInt8) (v : Value) (F : Nat → Prop) (w : World) (hv : By w F v l) (hn : l.length ≤ 1099511627776) :
    Calls Try.prog 32 #[v] w fun e w' => e = .returned (headT l) ∧ Below w.heap.size w w' := by
  have RD := Lib.hid (read_any l v F w hv hn)
  by_cases hlen : l.length < 12 ∨ (12 ≤ l.length ∧ 472 < l.length)
  · rw [headT_no (by rw [Bool.eq_false_iff, Ne, headOk_iff]; omega)]
    obtain ⟨A, c, rfl, _, _, _, _⟩ := hv
    generalize l.length = n at *
    clear hn RD
    rcases hlen with hlen | ⟨hlen, hlen'⟩
    all_goals
      go_enter Try.func32, Try.ntmps32
      go_wp2
      exact bodyPost_ret (res4 rfl _ _ _) rfl ⟨rfl, Below.refl _ _⟩
  have h12 : 12 ≤ l.length := by omega
  have h472 : l.length ≤ 472 := by omega
  clear hlen
  have N1 := Lib.hid (show numR l 0 false 2 = (((hPlace l : Nat) : Int), 2, false) from num2 (k := 0) (by omega))
  have N2 := Lib.hid (show numR l 2 false 2 = (((hCount l : Nat) : Int), 4, false) from num2 (k := 2) (by omega))
  have N3 := Lib.hid (show numR l 4 false 8 = (hSeq l, 12, false) from num8 (k := 4) (by omega))
  have hpl : hPlace l < 65536 := getN_two _
  have hct : hCount l < 65536 := getN_two _
  have HT : Hid ((hCount l = 0 ∨ 1024 < hCount l ∨ hCount l ≤ hPlace l ∨ hSeq l < 0 ∨ 281474976710656 < hSeq l) → headT l = .tuple #[.int .i64 0, .int .i64 0, .int .i64 0, .bool false]) := fun h => headT_no (by rw [Bool.eq_false_iff, Ne, headOk_iff]; omega)
  have HF : Hid (¬ (hCount l = 0 ∨ 1024 < hCount l ∨ hCount l ≤ hPlace l ∨ hSeq l < 0 ∨ 281474976710656 < hSeq l) → headT l = .tuple #[.int .i64 (hPlace l : Int), .int .i64 (hCount l : Int), .int .i64 (hSeq l), .bool true]) := fun h => headT_yes (by rw [headOk_iff]; omega)
  generalize hPlace l = a at *
  generalize hCount l = b at *
  generalize hSeq l = s at *
  obtain ⟨A, c, rfl, _, _, _, _⟩ := hv
  generalize hx : l.length = n at *
  clear hx hn
  rcases (show b = 0 ∨ (0 < b ∧ 1024 < b) ∨ (0 < b ∧ b ≤ 1024 ∧ b ≤ a) ∨ (0 < b ∧ b ≤ 1024 ∧ a < b ∧ s < 0) ∨ (0 < b ∧ b ≤ 1024 ∧ a < b ∧ 0 ≤ s ∧ 281474976710656 < s) ∨ (0 < b ∧ b ≤ 1024 ∧ a < b ∧ 0 ≤ s ∧ s ≤ 281474976710656) by omega) with rfl | ⟨g1, g2⟩ | ⟨g1, g2, g3⟩ | ⟨g1, g2, g3, g4⟩ | ⟨g1, g2, g3, g4, g5⟩ | ⟨g1, g2, g3, g4, g5⟩
  all_goals
    first | rw [HT.out (by omega)] | rw [HF.out (by omega)]
    try have e0 : ((b : Int) == 0) = false := by rw [beq_eq_false_iff_ne]; omega
    go_enter Try.func32, Try.ntmps32
    go_wp2_with fail
    refine RD.out.mono ?_
    rintro e w1 ⟨p, rfl, hr, hp, hb1⟩
    have R1 := Lib.hid (rnum_any hr 2)
    rw [N1.out] at R1
    have B1 := Lib.hid (And.intro hp hb1)
    clear hr hp hb1
    go_wp2_with fail
    refine R1.out.mono ?_
    rintro e w2 ⟨rfl, hr2, hk2⟩
    have R2 := Lib.hid (rnum_any hr2 2)
    rw [N2.out] at R2
    have K2 := Lib.hid hk2
    clear hr2 hk2
    go_wp2_with fail
    refine R2.out.mono ?_
    rintro e w3 ⟨rfl, hr3, hk3⟩
    have R3 := Lib.hid (rnum_any hr3 8)
    rw [N3.out] at R3
    have K3 := Lib.hid hk3
    clear hr3 hk3
    go_wp2_with fail
    refine R3.out.mono ?_
    rintro e w4 ⟨rfl, hr4, hk4⟩
    have BB := Lib.hid (show Below w.heap.size w w4 from B1.out.2.trans ((K2.out.trans (K3.out.trans hk4 (fun _ _ h => h)) (fun _ _ h => h)).below B1.out.2.size (fun x hx e => by have := B1.out.1; omega)))
    clear hr4 hk4
    go_wp2
    exact bodyPost_ret (res4 rfl _ _ _) rfl ⟨rfl, BB.out⟩
end Go.Proofs.Ytfjgbnnjfapcmaa
namespace Go.Proofs.Ytfjgbnnjfapcmaa
open Go.RowKit
set_option maxRecDepth 100000
set_option linter.unusedVariables false

theorem pbequal_any (xs ys : List UInt8) (u v : Value) (F G : Nat → Prop) (w : World) (ha : By w F u xs) (hb : By w G v ys) :
    Calls Try.prog 57 #[u, v] w fun e w' => e = .returned (.bool (decide (xs = ys))) ∧ w = w' := by
  have r1 := run_str (P := Try.prog) ha Try.underlying29 Try.underlying5 Try.underlying9
  have r2 := run_str (P := Try.prog) hb Try.underlying29 Try.underlying5 Try.underlying9
  clear ha hb
  go_enter Try.func57, Try.ntmps57
  go_wp2
  go_ret
  refine ⟨ret_bool ?_, rfl⟩
  show (xs == ys) = _
  rw [Bool.eq_iff_iff, beq_iff_eq, decide_eq_true_iff]

theorem rsame17 (R Q : List (List UInt8)) (u v : Value) (F G : Nat → Prop) (w : World) (ha : Bys w F u R) (hb : Bys w G v Q) :
    Calls Try.prog 29 #[u, v] w fun e w' => e = .returned (.bool (decide (R = Q))) ∧ Keep (fun _ => False) w w' := by
  obtain ⟨A, c, rfl, _, hcm, hat⟩ := ha.form
  obtain ⟨B, d, rfl, _, hdm, hbt⟩ := hb.form
  obtain ⟨r, hr⟩ : ∃ r, r = decide (R = Q) := ⟨_, rfl⟩
  rw [← hr]
  by_cases hl : R.length = Q.length
  · have HL := Lib.hid hl
    have h0 : ((R.length : Int) != (Q.length : Int)) = false := by rw [hl]; simp
    have HA := Lib.hid hat
    have HB := Lib.hid hbt
    clear hat hbt ha hb hl
    unfold maxLen at hcm hdm
    have HR := Lib.hid (show ∀ k, k < R.length → R.getD k [] = Q.getD k [] → R.take k = Q.take k → R.take (k + 1) = Q.take (k + 1) from fun k hk e h => by
      have h2 := HL.out
      rw [List.take_add_one, List.take_add_one, h, List.getElem?_eq_getElem hk, List.getElem?_eq_getElem (by omega)]
      rw [List.getD_eq_getElem?_getD, List.getD_eq_getElem?_getD, List.getElem?_eq_getElem hk, List.getElem?_eq_getElem (by omega)] at e
      simp at e
      rw [e])
    have HE := Lib.hid (show R.take R.length = Q.take R.length → r = true from fun h => by
      rw [hr, decide_eq_true_iff]
      rw [List.take_length, HL.out, List.take_length] at h
      exact h)
    have HN := Lib.hid (show ∀ k, R.getD k [] ≠ Q.getD k [] → r = false from fun k h => by
      rw [hr, decide_eq_false_iff_not]
      rintro rfl
      exact h rfl)
    clear hr
    generalize hn : R.length = n at *
    have HQ := HL.out
    generalize Q.length = m at *
    subst HQ
    clear hn HL
    go_enter Try.func29, Try.ntmps29
    go_wp2
    go_loopw [5] (fun i wr => ∃ (k q : Nat), k ≤ n ∧ i = .int .i64 k ∧ wr = w.drewN q ∧ Hid (R.take k = Q.take k)) (fun i _ => n - (intOf i).toNat)
    case atStart => exact ⟨0, 0, by omega, rfl, rfl, Lib.hid rfl⟩
    case round =>
      obtain ⟨k, q, hk, rfl, rfl, ht⟩ := hrel
      by_cases hlt : k < n
      · obtain ⟨b1, o1, u1, rfl, c1, y1⟩ := HA.out k hlt
        obtain ⟨b2, o2, u2, rfl, c2, y2⟩ := HB.out k hlt
        have SM := Lib.hid (fun W (hk : Keep (fun _ => False) w W) => same_any _ _ u1 u2 _ _ W (y1.keep hk (fun _ _ _ h => h)) (y2.keep hk (fun _ _ _ h => h)))
        obtain ⟨A1, d1, rfl, _⟩ := y1
        obtain ⟨A2, d2, rfl, _⟩ := y2
        generalize (R.getD k []).length = n1 at *
        generalize (Q.getD k []).length = n2 at *
        have f0 : (0 : Int) ≤ (k : Int) := by omega
        have f1 : (k : Int) < (n : Int) := by omega
        have x1 : (w.drewN q).cell? ⟨b1, o1 + k, none⟩ = some (.slice A1 n1 d1) := c1
        have x2 : (w.drewN q).cell? ⟨b2, o2 + k, none⟩ = some (.slice A2 n2 d2) := c2
        by_cases hxy : R.getD k [] = Q.getD k []
        · have NX := Lib.hid (HR.out k hlt hxy ht.out)
          rw [decide_eq_true hxy] at SM
          clear hxy
          go_wp2
          go_region_held3 (fun w' => w'.cell? ⟨b1, o1 + k, none⟩ = some (.slice A1 n1 d1) ∧ w'.cell? ⟨b2, o2 + k, none⟩ = some (.slice A2 n2 d2)) (go_keep) ((go_at_call 14; refine (SM.out _ (by exact (by repeat first | exact Keep.refl _ _ | refine Keep.alloc ?_ _ | refine Keep.drew ?_ | refine Keep.drewN ?_ _))).mono ?_; rintro e w1 ⟨rfl, rfl⟩))
          go_wp2
          go_roundw
          case rel => exact ⟨k + 1, _, by omega, by go_num, World.drewN_drewN w q 1, NX⟩
          case measure => simp [intOf]; omega
        · have Z := Lib.hid (HN.out k hxy)
          rw [decide_eq_false hxy] at SM
          clear hxy
          go_wp2
          go_region_held3 (fun w' => w'.cell? ⟨b1, o1 + k, none⟩ = some (.slice A1 n1 d1) ∧ w'.cell? ⟨b2, o2 + k, none⟩ = some (.slice A2 n2 d2)) (go_keep) ((go_at_call 14; refine (SM.out _ (by exact (by repeat first | exact Keep.refl _ _ | refine Keep.alloc ?_ _ | refine Keep.drew ?_ | refine Keep.drewN ?_ _))).mono ?_; rintro e w1 ⟨rfl, rfl⟩))
          go_wp2
          go_ret
          exact ⟨ret_bool Z.out.symm, (by repeat first | exact Keep.refl _ _ | refine Keep.alloc ?_ _ | refine Keep.drew ?_ | refine Keep.drewN ?_ _)⟩
      · obtain rfl : k = n := by omega
        have Z := Lib.hid (HE.out ht.out)
        go_wp2
        go_ret
        exact ⟨ret_bool Z.out.symm, (by repeat first | exact Keep.refl _ _ | refine Keep.alloc ?_ _ | refine Keep.drew ?_ | refine Keep.drewN ?_ _)⟩
  · have Z := Lib.hid (show r = false by rw [hr, decide_eq_false_iff_not]; rintro rfl; exact hl rfl)
    have h0 : ((R.length : Int) != (Q.length : Int)) = true := by rw [bne_iff_ne]; omega
    clear hat hbt ha hb hr
    go_enter Try.func29, Try.ntmps29
    go_wp2
    go_ret
    exact ⟨ret_bool Z.out.symm, Keep.refl _ _⟩

theorem efun_any (R Q : List (List UInt8)) (u v : Value) (F G : Nat → Prop) (w : World) (ha : Bys w F u R) (hb : Bys w G v Q) :
    Calls Try.prog 55 #[u, v, .func (Fn.func 57) #[] #[]] w fun e w' => e = .returned (.bool (decide (R = Q))) ∧ w = w' := by
  obtain ⟨A, c, rfl, _, hcm, hat⟩ := ha.form
  obtain ⟨B, d, rfl, _, hdm, hbt⟩ := hb.form
  obtain ⟨r, hr⟩ : ∃ r, r = decide (R = Q) := ⟨_, rfl⟩
  rw [← hr]
  by_cases hl : R.length = Q.length
  · have HL := Lib.hid hl
    have h0 : ((R.length : Int) != (Q.length : Int)) = false := by rw [hl]; simp
    have HA := Lib.hid hat
    have HB := Lib.hid hbt
    clear hat hbt ha hb hl
    unfold maxLen at hcm hdm
    have HR := Lib.hid (show ∀ k, k < R.length → R.getD k [] = Q.getD k [] → R.take k = Q.take k → R.take (k + 1) = Q.take (k + 1) from fun k hk e h => by
      have h2 := HL.out
      rw [List.take_add_one, List.take_add_one, h, List.getElem?_eq_getElem hk, List.getElem?_eq_getElem (by omega)]
      rw [List.getD_eq_getElem?_getD, List.getD_eq_getElem?_getD, List.getElem?_eq_getElem hk, List.getElem?_eq_getElem (by omega)] at e
      simp at e
      rw [e])
    have HE := Lib.hid (show R.take R.length = Q.take R.length → r = true from fun h => by
      rw [hr, decide_eq_true_iff]
      rw [List.take_length, HL.out, List.take_length] at h
      exact h)
    have HN := Lib.hid (show ∀ k, R.getD k [] ≠ Q.getD k [] → r = false from fun k h => by
      rw [hr, decide_eq_false_iff_not]
      rintro rfl
      exact h rfl)
    clear hr
    generalize hn : R.length = n at *
    have HQ := HL.out
    generalize Q.length = m at *
    subst HQ
    clear hn HL
    go_enter Try.func55, Try.ntmps55
    go_wp2
    go_loop [17] (fun i => ∃ k : Nat, k ≤ n ∧ i = .int .i64 k ∧ Hid (R.take k = Q.take k)) (fun i => n - (intOf i).toNat)
    case atStart => exact ⟨0, by omega, rfl, Lib.hid rfl⟩
    case round =>
      obtain ⟨k, hk, rfl, ht⟩ := hrel
      by_cases hlt : k < n
      · obtain ⟨b1, o1, u1, rfl, c1, y1⟩ := HA.out k hlt
        obtain ⟨b2, o2, u2, rfl, c2, y2⟩ := HB.out k hlt
        have SM := Lib.hid (fun W (hk : Keep (fun _ => False) w W) => pbequal_any _ _ u1 u2 _ _ W (y1.keep hk (fun _ _ _ h => h)) (y2.keep hk (fun _ _ _ h => h)))
        obtain ⟨A1, d1, rfl, _⟩ := y1
        obtain ⟨A2, d2, rfl, _⟩ := y2
        generalize (R.getD k []).length = n1 at *
        generalize (Q.getD k []).length = n2 at *
        have f0 : (0 : Int) ≤ (k : Int) := by omega
        have f1 : (k : Int) < (n : Int) := by omega
        have x1 : w.cell? ⟨b1, o1 + k, none⟩ = some (.slice A1 n1 d1) := c1
        have x2 : w.cell? ⟨b2, o2 + k, none⟩ = some (.slice A2 n2 d2) := c2
        by_cases hxy : R.getD k [] = Q.getD k []
        · have NX := Lib.hid (HR.out k hlt hxy ht.out)
          rw [decide_eq_true hxy] at SM
          clear hxy
          go_wp2_with (go_at_call 57; refine (SM.out _ (by exact (by repeat first | exact Keep.refl _ _ | refine Keep.alloc ?_ _ | refine Keep.drew ?_ | refine Keep.drewN ?_ _))).mono ?_; rintro e w1 ⟨rfl, rfl⟩)
          go_round
          case rel => exact ⟨k + 1, by omega, by go_num, NX⟩
          case measure => simp [intOf]; omega
        · have Z := Lib.hid (HN.out k hxy)
          rw [decide_eq_false hxy] at SM
          clear hxy
          go_wp2_with (go_at_call 57; refine (SM.out _ (by exact (by repeat first | exact Keep.refl _ _ | refine Keep.alloc ?_ _ | refine Keep.drew ?_ | refine Keep.drewN ?_ _))).mono ?_; rintro e w1 ⟨rfl, rfl⟩)
          go_ret
          exact ⟨ret_bool Z.out.symm, rfl⟩
      · obtain rfl : k = n := by omega
        have Z := Lib.hid (HE.out ht.out)
        go_wp2
        go_ret
        exact ⟨ret_bool Z.out.symm, rfl⟩
  · have Z := Lib.hid (show r = false by rw [hr, decide_eq_false_iff_not]; rintro rfl; exact hl rfl)
    have h0 : ((R.length : Int) != (Q.length : Int)) = true := by rw [bne_iff_ne]; omega
    clear hat hbt ha hb hr
    go_enter Try.func55, Try.ntmps55
    go_wp2
    go_ret
    exact ⟨ret_bool Z.out.symm, rfl⟩
end Go.Proofs.Ytfjgbnnjfapcmaa
namespace Go.Proofs.Ytfjgbnnjfapcmaa
open Go.RowKit
set_option maxRecDepth 100000
set_option linter.unusedVariables false

theorem getZ_8 {l : List UInt8} (h : 12 ≤ l.length) : getZ l 4 8 = hSeq l ∧ getOk l 4 8 = true := by
  have hok : getOk l ((4 : Nat) : Int) 8 = true := getOk_yes (width := 8) (by have : wideN 8 = 8 := rfl; omega)
  refine ⟨?_, hok⟩
  show getZ l ((4 : Nat) : Int) 8 = _
  unfold getZ
  rw [if_pos hok, Int.toNat_natCast]
  rfl
set_option maxHeartbeats 4000000 in
theorem rhead_any (l : List UInt8) (v : Value) (F : Nat → Prop) (w : World) (hv : By w F v l) :
    Calls Try.prog 35 #[v] w fun e w' => e = .returned (headT l) ∧ w = w' := by
  by_cases hlen : l.length < 12 ∨ (12 ≤ l.length ∧ 472 < l.length)
  · rw [headT_no (by rw [Bool.eq_false_iff, Ne, headOk_iff]; omega)]
    obtain ⟨A, c, rfl, _, _, _, _⟩ := hv
    generalize l.length = n at *
    rcases hlen with hlen | ⟨hlen, hlen'⟩
    all_goals
      go_enter Try.func35, Try.ntmps35
      go_wp2
      exact bodyPost_ret (res4 rfl _ _ _) rfl ⟨rfl, rfl⟩
  have h12 : 12 ≤ l.length := by omega
  have h472 : l.length ≤ 472 := by omega
  clear hlen
  have G1 := Lib.hid (refGet_any l v F 0 2 w hv (by omega) (by omega))
  have G2 := Lib.hid (refGet_any l v F 2 2 w hv (by omega) (by omega))
  have G3 := Lib.hid (refGet_any l v F 4 8 w hv (by omega) (by omega))
  rw [show getZ l 0 2 = ((hPlace l : Nat) : Int) from (getZ_small (k := 0) (by omega)).1, show getOk l 0 2 = true from (getZ_small (k := 0) (by omega)).2] at G1
  rw [show getZ l 2 2 = ((hCount l : Nat) : Int) from (getZ_small (k := 2) (by omega)).1, show getOk l 2 2 = true from (getZ_small (k := 2) (by omega)).2] at G2
  rw [(getZ_8 h12).1, (getZ_8 h12).2] at G3
  have hpl : hPlace l < 65536 := getN_two _
  have hct : hCount l < 65536 := getN_two _
  have PLC := Lib.hid (place_any (hSeq l))
  have HT : Hid ((hCount l < 1 ∨ 1024 < hCount l ∨ hCount l ≤ hPlace l ∨ decide (0 ≤ hSeq l ∧ hSeq l ≤ 281474976710656) = false) → headT l = .tuple #[.int .i64 0, .int .i64 0, .int .i64 0, .bool false]) := fun h => headT_no (by
    rw [Bool.eq_false_iff, Ne, headOk_iff]
    intro hh
    rcases h with h | h | h | h
    · omega
    · omega
    · omega
    · have := decide_eq_false_iff_not.1 h; omega)
  have HF : Hid (¬ (hCount l < 1 ∨ 1024 < hCount l ∨ hCount l ≤ hPlace l) → decide (0 ≤ hSeq l ∧ hSeq l ≤ 281474976710656) = true → headT l = .tuple #[.int .i64 (hPlace l : Int), .int .i64 (hCount l : Int), .int .i64 (hSeq l), .bool true]) := fun h hd => headT_yes (by
    have := of_decide_eq_true hd
    rw [headOk_iff]; omega)
  generalize decide (0 ≤ hSeq l ∧ hSeq l ≤ 281474976710656) = r at *
  generalize hPlace l = a at *
  generalize hCount l = b at *
  generalize hSeq l = s at *
  obtain ⟨A, c, rfl, _, _, _, _⟩ := hv
  generalize hx : l.length = n at *
  clear hx
  rcases (show b < 1 ∨ (1 ≤ b ∧ 1024 < b) ∨ (1 ≤ b ∧ b ≤ 1024 ∧ b ≤ a) ∨ (1 ≤ b ∧ b ≤ 1024 ∧ a < b) by omega) with g1 | ⟨g1, g2⟩ | ⟨g1, g2, g3⟩ | ⟨g1, g2, g3⟩
  rotate_right 1
  · rcases Bool.eq_false_or_eq_true r with rfl | rfl
    · rw [HF.out (by omega) rfl]
      go_enter Try.func35, Try.ntmps35
      go_wp2_with fail
      refine G1.out.mono ?_
      rintro e w' ⟨rfl, rfl⟩
      go_wp2_with fail
      refine G2.out.mono ?_
      rintro e w' ⟨rfl, rfl⟩
      go_wp2_with fail
      refine G3.out.mono ?_
      rintro e w' ⟨rfl, rfl⟩
      go_wp2_with (go_at_call 18; refine (PLC.out _).mono ?_; rintro e w' ⟨rfl, rfl⟩)
      exact bodyPost_ret (res4 rfl _ _ _) rfl ⟨rfl, rfl⟩
    · rw [HT.out (.inr (.inr (.inr rfl)))]
      go_enter Try.func35, Try.ntmps35
      go_wp2_with fail
      refine G1.out.mono ?_
      rintro e w' ⟨rfl, rfl⟩
      go_wp2_with fail
      refine G2.out.mono ?_
      rintro e w' ⟨rfl, rfl⟩
      go_wp2_with fail
      refine G3.out.mono ?_
      rintro e w' ⟨rfl, rfl⟩
      go_wp2_with (go_at_call 18; refine (PLC.out _).mono ?_; rintro e w' ⟨rfl, rfl⟩)
      exact bodyPost_ret (res4 rfl _ _ _) rfl ⟨rfl, rfl⟩
  all_goals
    rw [HT.out (by omega)]
    go_enter Try.func35, Try.ntmps35
    go_wp2_with fail
    refine G1.out.mono ?_
    rintro e w' ⟨rfl, rfl⟩
    go_wp2_with fail
    refine G2.out.mono ?_
    rintro e w' ⟨rfl, rfl⟩
    go_wp2_with fail
    refine G3.out.mono ?_
    rintro e w' ⟨rfl, rfl⟩
    go_wp2
    exact bodyPost_ret (res4 rfl _ _ _) rfl ⟨rfl, rfl⟩
end Go.Proofs.Ytfjgbnnjfapcmaa

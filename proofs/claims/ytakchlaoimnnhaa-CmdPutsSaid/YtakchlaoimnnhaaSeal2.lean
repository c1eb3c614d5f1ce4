/- How a seal is built; the contract of seal.made. -/
import Derived.Test.YtakchlaoimnnhaaSeal1
import Derived.Deep.DeepCutAuto
namespace Go.Proofs.Ytakchlaoimnnhaa
open Go.RowKit
set_option maxRecDepth 100000
set_option linter.unusedVariables false

theorem over_skip (a r : List UInt8) (x : List UInt8) {o k : Nat} (h : o = a.length + k) : over (a ++ r) o x = a ++ over r k x := by
  unfold over
  rw [h, List.take_append, List.take_of_length_le (by omega), List.drop_append, List.drop_eq_nil_of_le (by omega), List.nil_append, List.append_assoc, show a.length + k - a.length = k by omega, show a.length + k + x.length - a.length = k + x.length by omega]
theorem over_here (z c x : List UInt8) (h : x.length = z.length) : over (z ++ c) 0 x = x ++ c := by
  unfold over
  rw [List.take_zero, List.nil_append, Nat.zero_add, h, List.drop_left']
  rfl
theorem over_all (z x : List UInt8) (h : x.length = z.length) : over z 0 x = x := by
  unfold over
  rw [List.take_zero, List.nil_append, Nat.zero_add, h, List.drop_length, List.append_nil]
theorem over_cut (b c : List UInt8) (h : b.length ≤ 472) : over (List.replicate 472 0 ++ c) 0 b = cutB b 472 ++ c := by
  unfold over cutB
  rw [List.take_zero, List.nil_append, Nat.zero_add, List.take_of_length_le h, List.drop_append_of_le_length (by simp; omega), List.drop_replicate, List.append_assoc]
def zs (n : Nat) : List UInt8 := List.replicate n 0
theorem zs_len (n : Nat) : (zs n).length = n := by simp [zs]
theorem zs_add (a b : Nat) : zs (a + b) = zs a ++ zs b := by unfold zs; rw [List.replicate_append_replicate]
section
variable (e n k : Nat) (b : List UInt8)
def m1 : List UInt8 := over (zs 512) 0 (leB e 8)
def m2 : List UInt8 := over (m1 e) 8 (leB n 8)
def m3 : List UInt8 := over (m2 e n) 20 (leB k 1)
def m4 : List UInt8 := over (m3 e n k) 22 (leB b.length 2)
def m5 : List UInt8 := over (m4 e n k b) 24 b
def m6 : List UInt8 := over (m5 e n k b) 496 (leB n 8)
def m7 : List UInt8 := over (m6 e n k b) 504 (leB e 8)
def m8 : List UInt8 := over (m7 e n k b) 16 (leB (crcOf ((m7 e n k b).take 16 ++ (m7 e n k b).drop 20)) 4)
theorem zs_512 : zs 512 = zs 8 ++ (zs 8 ++ (zs 4 ++ (zs 1 ++ (zs 1 ++ (zs 2 ++ (zs 472 ++ (zs 8 ++ zs 8))))))) := by
  rw [← zs_add, ← zs_add, ← zs_add, ← zs_add, ← zs_add, ← zs_add, ← zs_add, ← zs_add]
theorem m1_is : m1 e = leB e 8 ++ (zs 8 ++ (zs 4 ++ (zs 1 ++ (zs 1 ++ (zs 2 ++ (zs 472 ++ (zs 8 ++ (zs 8)))))))) := by
  unfold m1
  rw [zs_512, over_here _ _ _ (by rw [leB_len, zs_len])]
theorem m2_is : m2 e n = leB e 8 ++ (leB n 8 ++ (zs 4 ++ (zs 1 ++ (zs 1 ++ (zs 2 ++ (zs 472 ++ (zs 8 ++ (zs 8)))))))) := by
  unfold m2
  rw [m1_is e, over_skip _ _ _ (k := 0) (by rw [leB_len]), over_here _ _ _ (by rw [leB_len, zs_len])]
theorem m3_is : m3 e n k = leB e 8 ++ (leB n 8 ++ (zs 4 ++ (leB k 1 ++ (zs 1 ++ (zs 2 ++ (zs 472 ++ (zs 8 ++ (zs 8)))))))) := by
  unfold m3
  rw [m2_is e n, over_skip _ _ _ (k := 12) (by rw [leB_len]), over_skip _ _ _ (k := 4) (by rw [leB_len]), over_skip _ _ _ (k := 0) (by rw [zs_len]), over_here _ _ _ (by rw [leB_len, zs_len])]
theorem m4_is : m4 e n k b = leB e 8 ++ (leB n 8 ++ (zs 4 ++ (leB k 1 ++ (zs 1 ++ (leB b.length 2 ++ (zs 472 ++ (zs 8 ++ (zs 8)))))))) := by
  unfold m4
  rw [m3_is e n k, over_skip _ _ _ (k := 14) (by rw [leB_len]), over_skip _ _ _ (k := 6) (by rw [leB_len]), over_skip _ _ _ (k := 2) (by rw [zs_len]), over_skip _ _ _ (k := 1) (by rw [leB_len]), over_skip _ _ _ (k := 0) (by rw [zs_len]), over_here _ _ _ (by rw [leB_len, zs_len])]
theorem m5_is (h : b.length ≤ 472) : m5 e n k b = leB e 8 ++ (leB n 8 ++ (zs 4 ++ (leB k 1 ++ (zs 1 ++ (leB b.length 2 ++ (cutB b 472 ++ (zs 8 ++ (zs 8)))))))) := by
  unfold m5
  rw [m4_is e n k b, over_skip _ _ _ (k := 16) (by rw [leB_len]), over_skip _ _ _ (k := 8) (by rw [leB_len]), over_skip _ _ _ (k := 4) (by rw [zs_len]), over_skip _ _ _ (k := 3) (by rw [leB_len]), over_skip _ _ _ (k := 2) (by rw [zs_len]), over_skip _ _ _ (k := 0) (by rw [leB_len]), show zs 472 = List.replicate 472 0 from rfl, over_cut _ _ h]
theorem m6_is (h : b.length ≤ 472) : m6 e n k b = leB e 8 ++ (leB n 8 ++ (zs 4 ++ (leB k 1 ++ (zs 1 ++ (leB b.length 2 ++ (cutB b 472 ++ (leB n 8 ++ (zs 8)))))))) := by
  unfold m6
  rw [m5_is e n k b h, over_skip _ _ _ (k := 488) (by rw [leB_len]), over_skip _ _ _ (k := 480) (by rw [leB_len]), over_skip _ _ _ (k := 476) (by rw [zs_len]), over_skip _ _ _ (k := 475) (by rw [leB_len]), over_skip _ _ _ (k := 474) (by rw [zs_len]), over_skip _ _ _ (k := 472) (by rw [leB_len]), over_skip _ _ _ (k := 0) (by rw [cutB_len]), over_here _ _ _ (by rw [leB_len, zs_len])]
theorem m7_is (h : b.length ≤ 472) : m7 e n k b = leB e 8 ++ (leB n 8 ++ (zs 4 ++ (leB k 1 ++ (zs 1 ++ (leB b.length 2 ++ (cutB b 472 ++ (leB n 8 ++ (leB e 8)))))))) := by
  unfold m7
  rw [m6_is e n k b h, over_skip _ _ _ (k := 496) (by rw [leB_len]), over_skip _ _ _ (k := 488) (by rw [leB_len]), over_skip _ _ _ (k := 484) (by rw [zs_len]), over_skip _ _ _ (k := 483) (by rw [leB_len]), over_skip _ _ _ (k := 482) (by rw [zs_len]), over_skip _ _ _ (k := 480) (by rw [leB_len]), over_skip _ _ _ (k := 8) (by rw [cutB_len]), over_skip _ _ _ (k := 0) (by rw [leB_len]), over_all _ _ (by rw [leB_len, zs_len])]
theorem m8_is (h : b.length ≤ 472) : m8 e n k b = seal0 e n k b := by
  have l := fun u j => leB_len u j
  have e1 : (m7 e n k b).take 16 ++ (m7 e n k b).drop 20 = frontB e n ++ restB e n k b := by
    rw [m7_is e n k b h, ← List.append_assoc (leB e 8) (leB n 8)]
    rw [List.take_left' (by simp [l]), List.drop_append, List.drop_eq_nil_of_le (by simp [l]), List.nil_append, List.length_append, l, l, List.drop_left' (by rw [zs_len])]
    rfl
  unfold m8
  rw [e1, m7_is e n k b h]
  rw [over_skip _ _ _ (k := 8) (by rw [l]), over_skip _ _ _ (k := 0) (by rw [l]), over_here _ _ _ (by rw [l, zs_len])]
  rfl
end

theorem near48 (z : Int) (w : World) : Calls Try.prog 95 #[.int .i64 z, .int .i64 281474976710656] w fun e w' => e = .returned (.int .i64 (nearN z 281474976710656 : Nat)) ∧ w = w' := near_any z 281474976710656 (by decide) w
theorem near255 (z : Int) (w : World) : Calls Try.prog 95 #[.int .i64 z, .int .i64 255] w fun e w' => e = .returned (.int .i64 (nearN z 255 : Nat)) ∧ w = w' := near_any z 255 (by decide) w
/-- A number laid into an array. -/
theorem snum_nat {w : World} {g : Nat} {l : List UInt8} (at_ width n : Nat) (h : Arr w g l) (hw : 1 ≤ width ∧ width ≤ 8) (hat : at_ + width ≤ 512) (hn : n < 18446744073709551616) :
    Calls Try.prog 96 #[.pointer (some ⟨g, 0, none⟩), .int .i64 at_, .int .i64 width, .int .i64 n] w fun e w' => e = .returned (.tuple #[]) ∧ Arr w' g (over l at_ (leB n width)) ∧ Keep (fun b => b = g) w w' := by
  have e : wideN (width : Int) = width := by unfold wideN; rw [if_neg (by omega), if_neg (by omega)]; omega
  have := snum_any at_ (width : Int) (n : Int) h (by rw [e]; exact hat) (by omega)
  rwa [e, wordN hn] at this
theorem snum_at {w : World} {g : Nat} {l : List UInt8} (z wd : Int) (at_ width n : Nat) (hz : z = at_) (hwd : wd = width) (hw : 1 ≤ width ∧ width ≤ 8) (hat : at_ + width ≤ 512) (hn : n < 18446744073709551616) (h : Arr w g l) :
    Calls Try.prog 96 #[.pointer (some ⟨g, 0, none⟩), .int .i64 z, .int .i64 wd, .int .i64 n] w fun e w' => e = .returned (.tuple #[]) ∧ Arr w' g (over l at_ (leB n width)) ∧ Keep (fun b => b = g) w w' := by
  subst hz hwd
  exact snum_nat at_ width n h hw hat hn
theorem under_sector : Try.prog.underlying 99 = some (.array 512 5) := by kernel_rfl
theorem zero_sector : (Try.prog.info? 99).map (fun i => (i.zero, i.size)) = some (some (.agg (bv (zs 512)).toArray), 512) := by kernel_rfl
theorem quiet_same {P : Program} {f : FuncId} {args : Array Value} {w : World} {n : Nat} {v : Value}
    (h : Calls P f args (w.drewN n) fun e w' => e = .returned v ∧ w.drewN n = w') : Calls P f args (w.drewN n) fun e w'' => e = .returned v ∧ ∃ m, w'' = w.drewN m :=
  h.mono fun _ _ ⟨he, hm⟩ => ⟨he, n, hm.symm⟩
/-- Where seal.made stands: the seal's box, the result, the array. -/
def MadeSt (w W : World) (x : SV) (u : Value) (l : List UInt8) : Prop :=
  W.heap[w.heap.size]? = some (.cells #[.int .i64 x.ep, .int .i64 x.no, .int .i64 x.kd, u] 50 (0, 0)) ∧ Arr W (w.heap.size + 1) (zs 512) ∧ Arr W (w.heap.size + 2) l ∧ Below w.heap.size w W
theorem MadeSt.to {w W W' : World} {x : SV} {u : Value} {l l' : List UInt8} (h : MadeSt w W x u l) (ha : Arr W' (w.heap.size + 2) l') (hk : Keep (fun b => b = w.heap.size + 2) W W') : MadeSt w W' x u l' :=
  ⟨(hk.block _ (Array.getElem?_eq_some_iff.1 h.1).1 (by omega)).trans h.1, h.2.1.keep hk (by omega), ha, ((Keep.of_below h.2.2.2).trans (T := fun b => b = w.heap.size + 2) hk (fun b hb e => by omega)).to_below (Nat.le_refl _)⟩
theorem MadeSt.drew {w W : World} {x : SV} {u : Value} {l : List UInt8} (h : MadeSt w W x u l) (n : Nat) : MadeSt w (W.drewN n) x u l := ⟨h.1, h.2.1, h.2.2.1, below_drewN h.2.2.2 n⟩
theorem MadeSt.below {w W W' : World} {x : SV} {u : Value} {l : List UInt8} (h : MadeSt w W x u l) (hb : Below W.heap.size W W') : MadeSt w W' x u l :=
  ⟨(hb.block _ (Array.getElem?_eq_some_iff.1 h.1).1).trans h.1, h.2.1.keep (Keep.of_below' hb) (fun h => h), h.2.2.1.keep (Keep.of_below' hb) (fun h => h), h.2.2.2.trans (hb.mono h.2.2.2.size)⟩
theorem MadeSt.first {w : World} {x : SV} {u : Value} {Z : Array Value} (hZ : Z = (bv (zs 512)).toArray) : MadeSt w (((w.alloc (.cells #[.int .i64 x.ep, .int .i64 x.no, .int .i64 x.kd, u] 50)).alloc (.cells Z 99)).alloc (.cells Z 99)) x u (zs 512) := by
  subst hZ
  refine ⟨?_, ⟨?_, by rw [zs_len]⟩, ⟨?_, by rw [zs_len]⟩, by exact (by repeat first | exact Below.refl _ _ | refine Below.setCell ?_ (by first | omega | (simp; done) | (simp; omega)) _ | refine Below.alloc ?_ (by first | omega | (simp; done) | (simp; omega)) _ | refine Below.drew ?_ | refine below_drewN ?_ _ | assumption)⟩
  · rw [heap_alloc_old _ _ (by simp; omega), heap_alloc_old _ _ (by simp)]; exact heap_alloc_new _ _
  · rw [heap_alloc_old _ _ (by simp)]
    have := heap_alloc_new (w.alloc (.cells #[.int .i64 x.ep, .int .i64 x.no, .int .i64 x.kd, u] 50)) (.cells (bv (zs 512)).toArray 99)
    simpa using this
  · have := heap_alloc_new ((w.alloc (.cells #[.int .i64 x.ep, .int .i64 x.no, .int .i64 x.kd, u] 50)).alloc (.cells (bv (zs 512)).toArray 99)) (.cells (bv (zs 512)).toArray 99)
    simpa using this
set_option maxHeartbeats 4000000 in
theorem made_any (x : SV) (u : Value) (F : Nat → Prop) (w : World) (hb : By w F u x.bd) :
    Calls Try.prog 73 #[.agg #[.int .i64 x.ep, .int .i64 x.no, .int .i64 x.kd, u]] w fun e w' => e = .returned (.agg (bv (sealB x)).toArray) ∧ Below w.heap.size w w' := by
  obtain ⟨ZV, hsz⟩ := zero_of_info zero_sector
  have M8 := Lib.hid (m8_is (nearN x.ep 281474976710656) (nearN x.no 281474976710656) (nearN x.kd 255) (bodyOf x.bd) (bodyOf_len _))
  have HB := Lib.hid hb
  have N1 := Lib.hid (near48 x.ep)
  have N2 := Lib.hid (near48 x.no)
  have N3 := Lib.hid (near255 x.kd)
  obtain ⟨Z, hZ⟩ : ∃ Z, Z = (bv (zs 512)).toArray := ⟨_, rfl⟩
  rw [← hZ] at ZV
  have HZ := Lib.hid hZ
  have HSZ := Lib.hid hsz
  have SB := Lib.hid (show sealB x = seal0 (nearN x.ep 281474976710656) (nearN x.no 281474976710656) (nearN x.kd 255) (bodyOf x.bd) from rfl)
  have he := nearN_le x.ep 281474976710656
  have hn := nearN_le x.no 281474976710656
  have hk := nearN_le x.kd 255
  have hl := bodyOf_len x.bd
  obtain ⟨A, c, rfl, hlc, hcm, hnil, -⟩ := id hb
  have B1 := Lib.hid (show x.bd.length ≤ 472 → By w F (.slice A x.bd.length c) (bodyOf x.bd) ∧ x.bd.length = (bodyOf x.bd).length from fun h => by
    have e : bodyOf x.bd = x.bd := List.take_of_length_le h
    rw [e]; exact ⟨hb, rfl⟩)
  have B2 := Lib.hid (show 472 < x.bd.length → By w F (.slice A 472 c) (bodyOf x.bd) ∧ 472 = (bodyOf x.bd).length from fun h => by
    refine ⟨?_, by unfold bodyOf; rw [List.length_take]; omega⟩
    have := hb.piece (A' := A) (lo := 0) (m := 472) (c' := c) (by omega) (fun _ a ha => by rw [ha]; simp [Addr.add]) (by omega) hcm hnil
    rwa [List.drop_zero] at this)
  clear hZ hsz hnil hb HB
  generalize nearN x.ep 281474976710656 = ee at *
  generalize nearN x.no 281474976710656 = nn at *
  generalize nearN x.kd 255 = kk at *
  generalize bodyOf x.bd = b at *
  generalize hL : x.bd.length = L at *
  clear hL
  go_enter Try.func73, Try.ntmps73
  go_wp2_with fail
  refine wp_world (S := fun W => MadeSt w W x (.slice A L c) (zs 512)) (MadeSt.first HZ.out) ?_
  intro W1 h1
  have H1 := Lib.hid h1
  obtain ⟨x0, x1, x2, x3, xf⟩ := cells4 h1.1
  clear h1 ZV
  generalize hp : w.heap.size = p at *
  go_quiet (first
    | (go_at_call 95; exact quiet_same (N1.out _))
    | (go_at_call 95; exact quiet_same (N2.out _)))
  go_upto_region 3 with fail
  go_cut [6] (fun s6 wx => ∃ A' n' c', s6 = .slice A' n' c' ∧ Hid (By w F (.slice A' n' c') b ∧ n' = b.length) ∧ Hid (MadeSt w wx x (.slice A L c) (zs 512)))
  case first =>
    by_cases hbig : L ≤ 472
    · have hc0 : L ≤ c := by omega
      go_wp2_with fail
      go_meet
      exact ⟨A, L, c, rfl, Lib.hid (B1.out hbig), Lib.hid (H1.out.drew nq)⟩
    · go_wp2_with fail
      go_meet
      exact ⟨A, 472, c, rfl, Lib.hid (B2.out (by omega)), Lib.hid (H1.out.drew nq)⟩
  case rest =>
    obtain ⟨A', n', c', rfl, hby, h1⟩ := hcut
    obtain ⟨hby, rfl⟩ := hby.out
    have BY := Lib.hid hby
    clear hby x0 x1 x2 x3 xf B1 B2 H1 N1 N2 hlc
    subst hp
    have H1 := Lib.hid h1.out
    clear h1
    go_wp2_with fail
    refine (snum_at 0 8 0 8 ee rfl rfl (by omega) (by omega) (by omega) H1.out.2.2.1).mono ?_
    rintro e w2 ⟨rfl, ha, hk2⟩
    have H2 := Lib.hid (H1.out.to ha hk2)
    clear ha hk2 H1
    go_wp2_with fail
    refine (snum_at 8 8 8 8 nn rfl rfl (by omega) (by omega) (by omega) H2.out.2.2.1).mono ?_
    rintro e w3 ⟨rfl, ha, hk2⟩
    have H3 := Lib.hid (H2.out.to ha hk2)
    clear ha hk2 H2
    obtain ⟨x0, x1, x2, x3, xf⟩ := cells4 H3.out.1
    go_wp2_with fail
    refine (N3.out _).mono ?_
    rintro e w4 ⟨rfl, rfl⟩
    go_wp2_with fail
    refine (snum_at 20 1 20 1 kk rfl rfl (by omega) (by omega) (by omega) H3.out.2.2.1).mono ?_
    rintro e w4 ⟨rfl, ha, hk2⟩
    have H4 := Lib.hid (H3.out.to ha hk2)
    clear ha hk2 H3 x0 x1 x2 x3 xf
    go_wp2_with fail
    refine (snum_at 22 2 22 2 b.length rfl rfl (by omega) (by omega) (by omega) H4.out.2.2.1).mono ?_
    rintro e w5 ⟨rfl, ha, hk2⟩
    have H5 := Lib.hid (H4.out.to ha hk2)
    clear ha hk2 H4
    have HS := Lib.hid (show 24 + 488 ≤ (bv (over (over (over (over (zs 512) 0 (leB ee 8)) 8 (leB nn 8)) 20 (leB kk 1)) 22 (leB b.length 2))).toArray.size by rw [List.size_toArray, bv_len, H5.out.2.2.1.2]; omega)
    have BY5 := Lib.hid (BY.out.keep (Keep.of_below' H5.out.2.2.2) (fun _ _ _ h => h))
    go_wp2_with (refine wpList_copy_gen rfl _ _ _ _ rfl 5 Try.underlying22 size_byte _ _ _ (w.heap.size + 1 + 1) 24 _ 99 rfl (fun _ => ⟨rfl, H5.out.2.2.1.1, HS.out⟩) F _ b.length (bv b) rfl BY5.out (bv_one b) ?_)
    intro w6 hl6
    rw [List.take_of_length_le (by rw [bv_len]; omega)] at hl6
    obtain ⟨ha, hk2⟩ := laid_over H5.out.2.2.1 hl6 (by omega)
    have H6 := Lib.hid (H5.out.to ha hk2)
    clear ha hk2 hl6 HS H5 BY5
    go_wp2_with fail
    refine (snum_at 496 8 496 8 nn rfl rfl (by omega) (by omega) (by omega) H6.out.2.2.1).mono ?_
    rintro e w7 ⟨rfl, ha, hk2⟩
    have H7 := Lib.hid (H6.out.to ha hk2)
    clear ha hk2 H6
    go_wp2_with fail
    refine (snum_at 504 8 504 8 ee rfl rfl (by omega) (by omega) (by omega) H7.out.2.2.1).mono ?_
    rintro e w8 ⟨rfl, ha, hk2⟩
    have H8 := Lib.hid (show MadeSt w w8 x (.slice A L c) (m7 ee nn kk b) from H7.out.to ha hk2)
    clear ha hk2 H7
    go_wp2_with fail
    refine (ssum_any H8.out.2.2.1).mono ?_
    rintro e w9 ⟨rfl, hb9⟩
    have H9 := Lib.hid (H8.out.below hb9)
    have hsl := crcOf_lt ((m7 ee nn kk b).take 16 ++ (m7 ee nn kk b).drop 20)
    clear hb9 H8
    go_wp2_with fail
    refine (snum_at 16 4 16 4 _ rfl rfl (by omega) (by omega) (by omega) H9.out.2.2.1).mono ?_
    rintro e w10 ⟨rfl, ha, hk2⟩
    have H10 := Lib.hid (show MadeSt w w10 x (.slice A L c) (m8 ee nn kk b) from H9.out.to ha hk2)
    clear ha hk2 H9
    have CS := Lib.hid (show (Try.prog.info? 99).map (·.size) = some (bv (m8 ee nn kk b)).toArray.size by rw [List.size_toArray, bv_len, H10.out.2.2.1.2]; exact HSZ.out)
    have CZ := Lib.hid (show (bv (zs 512)).toArray.size = (bv (m8 ee nn kk b)).toArray.size by rw [List.size_toArray, List.size_toArray, bv_len, bv_len, H10.out.2.2.1.2, zs_len])
    have C1 := Lib.hid (show (bv (m8 ee nn kk b)).toArray.all (·.oneCell') = true from all_oneCell_toArray (bv_one _))
    go_wp2_with (first
      | (refine wpList_load_row rfl _ _ rfl (w.heap.size + 1 + 1) rfl 99 _ (0, 0) _ H10.out.2.2.1.1 under_sector rfl CS.out ?_)
      | (refine wpList_store_row rfl _ _ _ rfl (w.heap.size + 1) _ rfl rfl 99 _ H10.out.2.1.1 CS.out CZ.out C1.out ?_))
    refine bodyPost_ret (v := .agg (bv (m8 ee nn kk b)).toArray) (results_cell_row Try.results73 _ _ (w.heap.size + 1) 99 _ (0, 0) _ rfl (setRow_heap w10 (w.heap.size + 1) _ _ 99 (0, 0) H10.out.2.1.1) under_sector rfl CS.out) rfl ⟨?_, ?_⟩
    · rw [SB.out, M8.out]
    · exact ((Keep.of_below H10.out.2.2.2).setRow (g := w.heap.size + 1) (.inl (by omega)) _).to_below (Nat.le_refl _)
end Go.Proofs.Ytakchlaoimnnhaa

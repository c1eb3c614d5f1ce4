/- Contract of vivariumref31.SameList. -/
import Derived.Test.YthkgchlndfcmpaaScr8
import Derived.Test.YthkgchlndfcmpaaScrPl
import Derived.Deep.RegionHeld3
namespace Go.Proofs.Ythkgchlndfcmpaa
open Go.RowKit
set_option maxRecDepth 100000
set_option linter.unusedVariables false
set_option linter.unusedSimpArgs false

def sameLA : List Ac → List Ac → Bool
  | [], [] => true
  | x :: l, y :: m => exactA x y && sameLA l m
  | _, _ => false
theorem sameLA_iff : ∀ (l m : List Ac), sameLA l m = true ↔ l = m
  | [], [] => by simp [sameLA]
  | [], y :: m => by simp [sameLA]
  | x :: l, [] => by simp [sameLA]
  | x :: l, y :: m => by simp [sameLA, exactA_iff, sameLA_iff l m]
set_option maxHeartbeats 8000000 in
theorem sameL31 (l m : List Ac) (u v : Value) (F G : Nat → Prop) (w : World) (ha : AS w F u l) (hb : AS w G v m) (hl : ∀ x ∈ l, x.fu.length ≤ 1000000) (hm : ∀ x ∈ m, x.fu.length ≤ 1000000) :
    Calls Try.prog 67 #[u, v] w fun e w' => e = .returned (.bool (sameLA l m)) ∧ Below w.heap.size w w' := by
  have HA := Lib.hid ha
  have HB := Lib.hid hb
  have hll := ha.len
  obtain ⟨A, c, rfl, -⟩ := ha.form
  obtain ⟨B, d, rfl, -⟩ := hb.form
  obtain ⟨r, hr⟩ : ∃ r, r = sameLA l m := ⟨_, rfl⟩
  rw [← hr]
  by_cases hq : l.length = m.length
  · have h0 : ((l.length : Int) != (m.length : Int)) = false := by rw [hq]; simp
    have HE := Lib.hid (show l.take l.length = m.take l.length → r = true from fun h => by
      rw [hr, sameLA_iff]
      rwa [List.take_length, hq, List.take_length] at h)
    have HN := Lib.hid (show ∀ (k : Nat) x y, l[k]? = some x → m[k]? = some y → exactA x y = false → r = false from fun k x y h1 h2 h => by
      rw [hr]
      cases h3 : sameLA l m
      · rfl
      · exfalso
        rw [(sameLA_iff l m).1 h3, h2] at h1
        injection h1 with h1
        subst h1
        rw [exactA_self] at h
        cases h)
    have HR := Lib.hid (show ∀ (k : Nat) x y, l[k]? = some x → m[k]? = some y → exactA x y = true → l.take k = m.take k → l.take (k + 1) = m.take (k + 1) from fun k x y h1 h2 h3 h => by
      rw [List.take_add_one, List.take_add_one, h, h1, h2, exactA_iff.1 h3])
    have HL := Lib.hid (And.intro (show ∀ (k : Nat) x, l[k]? = some x → x.fu.length ≤ 1000000 from fun k x h => hl x (List.mem_of_getElem? h)) (show ∀ (k : Nat) x, m[k]? = some x → x.fu.length ≤ 1000000 from fun k x h => hm x (List.mem_of_getElem? h)))
    clear hr ha hb hl hm
    generalize hn : l.length = n at *
    rw [← hq] at HB h0 ⊢
    have HNQ := Lib.hid (And.intro hn hq)
    clear hn hq
    go_enter Try.func67, Try.ntmps67
    go_wp2
    go_loopw [5] (fun i wr => ∃ k : Nat, k ≤ n ∧ i = .int .i64 k ∧ Hid (l.take k = m.take k ∧ Keep (fun _ => False) w wr)) (fun i _ => n - (intOf i).toNat)
    case atStart => exact ⟨0, by omega, rfl, Lib.hid ⟨rfl, Keep.refl _ _⟩⟩
    case round =>
      obtain ⟨k, hk, rfl, ht⟩ := hrel
      by_cases hlt : k < n
      · have hi : (k : Int) < (n : Int) := by omega
        have h00 : (0 : Int) ≤ (k : Int) := by omega
        obtain ⟨b1, o1, x, u1, u2, u3, rfl, -, hx, hmx, q1⟩ := (HA.out.same ht.out.2).at_ hlt
        obtain ⟨b2, o2, y, v1, v2, v3, rfl, -, hy, hmy, q2⟩ := (HB.out.same ht.out.2).at_ hlt
        obtain ⟨A1, c1, rfl, -⟩ := hmx.1
        obtain ⟨A2, c2, rfl⟩ := hmx.2.1.form
        obtain ⟨A3, c3, rfl⟩ := hmx.2.2.form
        obtain ⟨B1, d1, rfl, -⟩ := hmy.1
        obtain ⟨B2, d2, rfl⟩ := hmy.2.1.form
        obtain ⟨B3, d3, rfl⟩ := hmy.2.2.form
        have E1 := Lib.hid (cells_at12 q1)
        have E2 := Lib.hid (cells_at12 q2)
        have EX := Lib.hid (fun W (hk : Keep (fun _ => False) wr W) => exactA_any x y _ _ _ _ _ _ F G W (hmx.same hk) (hmy.same hk) ⟨HL.out.1 k x hx, HL.out.2 k y hy⟩)
        have NE := Lib.hid (HN.out k x y hx hy)
        have YE := Lib.hid (HR.out k x y hx hy)
        unfold actV at EX
        clear q1 q2 hx hy hmx hmy
        generalize exactA x y = z at *
        obtain ⟨x0, x1, x2, x3, x4, x5, x6, x7, x8, x9, x10, x11⟩ := E1.out
        obtain ⟨y0, y1, y2, y3, y4, y5, y6, y7, y8, y9, y10, y11⟩ := E2.out
        have CE := Lib.hid (show ∀ W', Keep (fun _ => False) wr W' → W'.cell? ⟨b1, o1 + k * 12, none⟩ = some (.int .i64 x.do_) ∧ W'.cell? ⟨b1, o1 + k * 12 + 1, none⟩ = some (.int .i64 x.c.do_) ∧ W'.cell? ⟨b1, o1 + k * 12 + 2, none⟩ = some (.bool x.c.loc) ∧ W'.cell? ⟨b1, o1 + k * 12 + 3, none⟩ = some (.int .i64 x.c.idx) ∧ W'.cell? ⟨b1, o1 + k * 12 + 4, none⟩ = some (.int .i64 x.c.gen) ∧ W'.cell? ⟨b1, o1 + k * 12 + 5, none⟩ = some (.int .i64 x.c.comp) ∧ W'.cell? ⟨b1, o1 + k * 12 + 6, none⟩ = some (.slice A1 x.c.l.length c1) ∧ W'.cell? ⟨b1, o1 + k * 12 + 7, none⟩ = some (.int .i64 x.room) ∧ W'.cell? ⟨b1, o1 + k * 12 + 8, none⟩ = some (.int .i64 x.frames) ∧ W'.cell? ⟨b1, o1 + k * 12 + 9, none⟩ = some (.int .i64 x.n) ∧ W'.cell? ⟨b1, o1 + k * 12 + 10, none⟩ = some (.slice A2 x.fa.length c2) ∧ W'.cell? ⟨b1, o1 + k * 12 + 11, none⟩ = some (.slice A3 x.fu.length c3) ∧ W'.cell? ⟨b2, o2 + k * 12, none⟩ = some (.int .i64 y.do_) ∧ W'.cell? ⟨b2, o2 + k * 12 + 1, none⟩ = some (.int .i64 y.c.do_) ∧ W'.cell? ⟨b2, o2 + k * 12 + 2, none⟩ = some (.bool y.c.loc) ∧ W'.cell? ⟨b2, o2 + k * 12 + 3, none⟩ = some (.int .i64 y.c.idx) ∧ W'.cell? ⟨b2, o2 + k * 12 + 4, none⟩ = some (.int .i64 y.c.gen) ∧ W'.cell? ⟨b2, o2 + k * 12 + 5, none⟩ = some (.int .i64 y.c.comp) ∧ W'.cell? ⟨b2, o2 + k * 12 + 6, none⟩ = some (.slice B1 y.c.l.length d1) ∧ W'.cell? ⟨b2, o2 + k * 12 + 7, none⟩ = some (.int .i64 y.room) ∧ W'.cell? ⟨b2, o2 + k * 12 + 8, none⟩ = some (.int .i64 y.frames) ∧ W'.cell? ⟨b2, o2 + k * 12 + 9, none⟩ = some (.int .i64 y.n) ∧ W'.cell? ⟨b2, o2 + k * 12 + 10, none⟩ = some (.slice B2 y.fa.length d2) ∧ W'.cell? ⟨b2, o2 + k * 12 + 11, none⟩ = some (.slice B3 y.fu.length d3) ∧ Keep (fun _ => False) wr W' from fun W' hk => ⟨hk.cell (fun h => h) x0, hk.cell (fun h => h) x1, hk.cell (fun h => h) x2, hk.cell (fun h => h) x3, hk.cell (fun h => h) x4, hk.cell (fun h => h) x5, hk.cell (fun h => h) x6, hk.cell (fun h => h) x7, hk.cell (fun h => h) x8, hk.cell (fun h => h) x9, hk.cell (fun h => h) x10, hk.cell (fun h => h) x11, hk.cell (fun h => h) y0, hk.cell (fun h => h) y1, hk.cell (fun h => h) y2, hk.cell (fun h => h) y3, hk.cell (fun h => h) y4, hk.cell (fun h => h) y5, hk.cell (fun h => h) y6, hk.cell (fun h => h) y7, hk.cell (fun h => h) y8, hk.cell (fun h => h) y9, hk.cell (fun h => h) y10, hk.cell (fun h => h) y11, hk⟩)
        clear x0 x1 x2 x3 x4 x5 x6 x7 x8 x9 x10 x11 y0 y1 y2 y3 y4 y5 y6 y7 y8 y9 y10 y11
        cases z
        · have Z := Lib.hid (NE.out rfl)
          go_upto_region 6 with fail
          go_region_held3 (fun W' => W'.cell? ⟨b1, o1 + k * 12, none⟩ = some (.int .i64 x.do_) ∧ W'.cell? ⟨b1, o1 + k * 12 + 1, none⟩ = some (.int .i64 x.c.do_) ∧ W'.cell? ⟨b1, o1 + k * 12 + 2, none⟩ = some (.bool x.c.loc) ∧ W'.cell? ⟨b1, o1 + k * 12 + 3, none⟩ = some (.int .i64 x.c.idx) ∧ W'.cell? ⟨b1, o1 + k * 12 + 4, none⟩ = some (.int .i64 x.c.gen) ∧ W'.cell? ⟨b1, o1 + k * 12 + 5, none⟩ = some (.int .i64 x.c.comp) ∧ W'.cell? ⟨b1, o1 + k * 12 + 6, none⟩ = some (.slice A1 x.c.l.length c1) ∧ W'.cell? ⟨b1, o1 + k * 12 + 7, none⟩ = some (.int .i64 x.room) ∧ W'.cell? ⟨b1, o1 + k * 12 + 8, none⟩ = some (.int .i64 x.frames) ∧ W'.cell? ⟨b1, o1 + k * 12 + 9, none⟩ = some (.int .i64 x.n) ∧ W'.cell? ⟨b1, o1 + k * 12 + 10, none⟩ = some (.slice A2 x.fa.length c2) ∧ W'.cell? ⟨b1, o1 + k * 12 + 11, none⟩ = some (.slice A3 x.fu.length c3) ∧ W'.cell? ⟨b2, o2 + k * 12, none⟩ = some (.int .i64 y.do_) ∧ W'.cell? ⟨b2, o2 + k * 12 + 1, none⟩ = some (.int .i64 y.c.do_) ∧ W'.cell? ⟨b2, o2 + k * 12 + 2, none⟩ = some (.bool y.c.loc) ∧ W'.cell? ⟨b2, o2 + k * 12 + 3, none⟩ = some (.int .i64 y.c.idx) ∧ W'.cell? ⟨b2, o2 + k * 12 + 4, none⟩ = some (.int .i64 y.c.gen) ∧ W'.cell? ⟨b2, o2 + k * 12 + 5, none⟩ = some (.int .i64 y.c.comp) ∧ W'.cell? ⟨b2, o2 + k * 12 + 6, none⟩ = some (.slice B1 y.c.l.length d1) ∧ W'.cell? ⟨b2, o2 + k * 12 + 7, none⟩ = some (.int .i64 y.room) ∧ W'.cell? ⟨b2, o2 + k * 12 + 8, none⟩ = some (.int .i64 y.frames) ∧ W'.cell? ⟨b2, o2 + k * 12 + 9, none⟩ = some (.int .i64 y.n) ∧ W'.cell? ⟨b2, o2 + k * 12 + 10, none⟩ = some (.slice B2 y.fa.length d2) ∧ W'.cell? ⟨b2, o2 + k * 12 + 11, none⟩ = some (.slice B3 y.fu.length d3) ∧ Keep (fun _ => False) wr W') (with_reducible exact CE.out _ (by exact (by repeat first | (with_reducible assumption) | (with_reducible exact Keep.refl _ _) | (with_reducible refine Keep.alloc ?_ _) | (with_reducible refine Keep.drew ?_) | (with_reducible refine Keep.drewN ?_ _) | (with_reducible refine Keep.setCell ?_ (.inl (by first | omega | (simp; done) | (simp; omega) | fail)) _)))) (first
            | (go_at_call 27; (with_reducible refine (EX.out _ (by exact (by repeat first | (with_reducible assumption) | (with_reducible exact Keep.refl _ _) | (with_reducible refine Keep.alloc ?_ _) | (with_reducible refine Keep.drew ?_) | (with_reducible refine Keep.drewN ?_ _) | (with_reducible refine Keep.setCell ?_ (.inl (by first | omega | (simp; done) | (simp; omega) | fail)) _)))).mono ?_); rintro e w3 ⟨rfl, hb3⟩; have hk3 : Keep (fun _ => False) wr w3 := Keep.trans (T := fun _ => False) (by exact (by repeat first | (with_reducible assumption) | (with_reducible exact Keep.refl _ _) | (with_reducible refine Keep.alloc ?_ _) | (with_reducible refine Keep.drew ?_) | (with_reducible refine Keep.drewN ?_ _) | (with_reducible refine Keep.setCell ?_ (.inl (by first | omega | (simp; done) | (simp; omega) | fail)) _))) (Keep.of_below' hb3) (fun _ _ h => h))
            | fail)
          go_wp2
          go_ret
          exact ⟨ret_bool Z.out.symm, (ht.out.2.trans hk3 (fun _ _ h => h)).to_below'⟩
        · have NX := Lib.hid (YE.out rfl ht.out.1)
          go_upto_region 6 with fail
          go_region_held3 (fun W' => W'.cell? ⟨b1, o1 + k * 12, none⟩ = some (.int .i64 x.do_) ∧ W'.cell? ⟨b1, o1 + k * 12 + 1, none⟩ = some (.int .i64 x.c.do_) ∧ W'.cell? ⟨b1, o1 + k * 12 + 2, none⟩ = some (.bool x.c.loc) ∧ W'.cell? ⟨b1, o1 + k * 12 + 3, none⟩ = some (.int .i64 x.c.idx) ∧ W'.cell? ⟨b1, o1 + k * 12 + 4, none⟩ = some (.int .i64 x.c.gen) ∧ W'.cell? ⟨b1, o1 + k * 12 + 5, none⟩ = some (.int .i64 x.c.comp) ∧ W'.cell? ⟨b1, o1 + k * 12 + 6, none⟩ = some (.slice A1 x.c.l.length c1) ∧ W'.cell? ⟨b1, o1 + k * 12 + 7, none⟩ = some (.int .i64 x.room) ∧ W'.cell? ⟨b1, o1 + k * 12 + 8, none⟩ = some (.int .i64 x.frames) ∧ W'.cell? ⟨b1, o1 + k * 12 + 9, none⟩ = some (.int .i64 x.n) ∧ W'.cell? ⟨b1, o1 + k * 12 + 10, none⟩ = some (.slice A2 x.fa.length c2) ∧ W'.cell? ⟨b1, o1 + k * 12 + 11, none⟩ = some (.slice A3 x.fu.length c3) ∧ W'.cell? ⟨b2, o2 + k * 12, none⟩ = some (.int .i64 y.do_) ∧ W'.cell? ⟨b2, o2 + k * 12 + 1, none⟩ = some (.int .i64 y.c.do_) ∧ W'.cell? ⟨b2, o2 + k * 12 + 2, none⟩ = some (.bool y.c.loc) ∧ W'.cell? ⟨b2, o2 + k * 12 + 3, none⟩ = some (.int .i64 y.c.idx) ∧ W'.cell? ⟨b2, o2 + k * 12 + 4, none⟩ = some (.int .i64 y.c.gen) ∧ W'.cell? ⟨b2, o2 + k * 12 + 5, none⟩ = some (.int .i64 y.c.comp) ∧ W'.cell? ⟨b2, o2 + k * 12 + 6, none⟩ = some (.slice B1 y.c.l.length d1) ∧ W'.cell? ⟨b2, o2 + k * 12 + 7, none⟩ = some (.int .i64 y.room) ∧ W'.cell? ⟨b2, o2 + k * 12 + 8, none⟩ = some (.int .i64 y.frames) ∧ W'.cell? ⟨b2, o2 + k * 12 + 9, none⟩ = some (.int .i64 y.n) ∧ W'.cell? ⟨b2, o2 + k * 12 + 10, none⟩ = some (.slice B2 y.fa.length d2) ∧ W'.cell? ⟨b2, o2 + k * 12 + 11, none⟩ = some (.slice B3 y.fu.length d3) ∧ Keep (fun _ => False) wr W') (with_reducible exact CE.out _ (by exact (by repeat first | (with_reducible assumption) | (with_reducible exact Keep.refl _ _) | (with_reducible refine Keep.alloc ?_ _) | (with_reducible refine Keep.drew ?_) | (with_reducible refine Keep.drewN ?_ _) | (with_reducible refine Keep.setCell ?_ (.inl (by first | omega | (simp; done) | (simp; omega) | fail)) _)))) (first
            | (go_at_call 27; (with_reducible refine (EX.out _ (by exact (by repeat first | (with_reducible assumption) | (with_reducible exact Keep.refl _ _) | (with_reducible refine Keep.alloc ?_ _) | (with_reducible refine Keep.drew ?_) | (with_reducible refine Keep.drewN ?_ _) | (with_reducible refine Keep.setCell ?_ (.inl (by first | omega | (simp; done) | (simp; omega) | fail)) _)))).mono ?_); rintro e w3 ⟨rfl, hb3⟩; have hk3 : Keep (fun _ => False) wr w3 := Keep.trans (T := fun _ => False) (by exact (by repeat first | (with_reducible assumption) | (with_reducible exact Keep.refl _ _) | (with_reducible refine Keep.alloc ?_ _) | (with_reducible refine Keep.drew ?_) | (with_reducible refine Keep.drewN ?_ _) | (with_reducible refine Keep.setCell ?_ (.inl (by first | omega | (simp; done) | (simp; omega) | fail)) _))) (Keep.of_below' hb3) (fun _ _ h => h))
            | fail)
          have NT := Lib.hid (And.intro NX.out (ht.out.2.trans hk3 (fun _ _ h => h)))
          go_wp2
          go_roundw
          case rel => exact ⟨k + 1, by omega, by go_num, NT⟩
          case measure => simp [intOf]; omega
      · have hi : ¬ (k : Int) < (n : Int) := by omega
        have hf := Lib.hid (HE.out (by rw [show n = k by omega]; exact ht.out.1))
        go_wp2
        go_ret
        exact ⟨ret_bool hf.out.symm, ht.out.2.to_below'⟩
  · have h0 : ((l.length : Int) != (m.length : Int)) = true := by rw [bne_iff_ne]; omega
    have hf : Hid (r = false) := by
      show r = false
      rw [hr]
      cases h3 : sameLA l m
      · rfl
      · exact absurd (by rw [(sameLA_iff l m).1 h3]) hq
    clear hr ha hb hl hm
    go_enter Try.func67, Try.ntmps67
    go_wp2
    go_ret
    exact ⟨ret_bool hf.out.symm, Below.refl _ _⟩
end Go.Proofs.Ythkgchlndfcmpaa

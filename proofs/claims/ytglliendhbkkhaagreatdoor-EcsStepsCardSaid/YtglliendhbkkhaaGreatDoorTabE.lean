/- Rows in memory; vivariumref09.SameIDs, SameParts, SameTold of two alike. -/
import Derived.Test.YtglliendhbkkhaaGreatDoorTabA
import Derived.Test.YtglliendhbkkhaaGreatDoorSame
namespace Go.Proofs.YtglliendhbkkhaaGreatDoor
open Go.RowKit
set_option maxRecDepth 100000
set_option linter.unusedVariables false
set_option linter.unusedSimpArgs false

/-- A row: whose, and its parts. -/
structure EnZ where
  id : IdZ
  parts : List PtZ
deriving DecidableEq, Inhabited
def entN : Nst EnZ Value where
  cells p := [.int .i64 p.1.id.ix, .int .i64 p.1.id.gen, p.2]
  m := 3
  pos := by decide
  len _ := rfl
  inn w F x u := NS parN w F u x.parts
  one h u hu := by
    obtain ⟨A, c, rfl, -⟩ := h.form
    simp only [List.mem_cons, List.not_mem_nil, or_false] at hu
    rcases hu with rfl | rfl | rfl <;> rfl
  keep h hk hs := NS.keep h hk hs
  mono h hf := NS.mono h hf
theorem info_ent : (Tryz.prog.info? 89).map (fun i => (i.zero, i.size, i.bytes)) = some (some (.agg #[.int .i64 0, .int .i64 0, .slice none 0 0]), 3, 40) := by kernel_rfl
/-- A name of a list of names. -/
theorem ids_at {w : World} {F : Nat → Prop} {A : Option Addr} {n c k : Nat} {l : List IdZ} (h : Sl w F 2 (.slice A n c) n (l.flatMap idC)) (hl : l.length = n) (hk : k < n) :
    ∃ b off, A = some ⟨b, off, none⟩ ∧ F b ∧ w.cell? ⟨b, off + k * 2, none⟩ = some (.int .i64 (l.getD k default).ix) ∧ w.cell? ⟨b, off + k * 2 + 1, none⟩ = some (.int .i64 (l.getD k default).gen) := by
  obtain ⟨A9, c9, e9, _, _, _, hr⟩ := h
  injection e9 with e91 e92 e93
  subst e91
  obtain ⟨b, o, rfl, hF, hc⟩ := hr.2 (by omega)
  obtain ⟨h1, h2⟩ := flat_atId (l := l) (k := k) (by omega)
  exact ⟨b, o, rfl, hF, hc _ _ h1, by have := hc _ _ h2; rwa [← Nat.add_assoc] at this⟩
theorem same_ids (l : List IdZ) (u v : Value) (F G : Nat → Prop) (w : World) (hu : Sl w F 2 u l.length (l.flatMap idC)) (hv : Sl w G 2 v l.length (l.flatMap idC)) :
    Calls Tryz.prog 27 #[u, v] w fun e w' => e = .returned (.bool true) ∧ Keep (fun _ => False) w w' := by
  have HU := Lib.hid hu
  have HV := Lib.hid hv
  obtain ⟨A, c, rfl, h1, h2, -⟩ := hu
  obtain ⟨B, d, rfl, h3, h4, -⟩ := hv
  unfold maxLen at h2 h4
  obtain ⟨n, hn⟩ : ∃ n, l.length = n := ⟨_, rfl⟩
  have HN := Lib.hid hn
  rw [hn] at HU HV h1 h3 ⊢
  clear hn
  have e1 : ((n : Int) != (n : Int)) = false := by simp
  go_enter Tryz.func27, Tryz.ntmps27
  go_wp2
  go_loopw [5] (fun i wr => ∃ (k : Nat), k ≤ n ∧ i = .int .i64 k ∧ Hid (Keep (fun _ => False) w wr)) (fun i _ => n - (intOf i).toNat)
  case atStart => exact ⟨0, by omega, rfl, Lib.hid (Keep.refl _ _)⟩
  case round =>
    obtain ⟨k, hk, rfl, hkw⟩ := hrel
    by_cases hlt : k < n
    · have hi : (k : Int) < (n : Int) := by omega
      obtain ⟨b, off, rfl, -, f1, f2⟩ := ids_at (HU.out.keep hkw.out (fun _ _ _ h => h)) HN.out hlt
      obtain ⟨b2, off2, rfl, -, g1, g2⟩ := ids_at (HV.out.keep hkw.out (fun _ _ _ h => h)) HN.out hlt
      generalize (l.getD k default).ix = x at *
      generalize (l.getD k default).gen = y at *
      have ex : (x == x) = true := by simp
      have ey : (y == y) = true := by simp
      go_wp2
      go_quiet (fail)
      go_wp2
      go_roundw
      case rel => exact ⟨k + 1, by omega, by go_num, Lib.hid (Keep.trans hkw.out (by exact (by repeat first | (with_reducible assumption) | (with_reducible exact Keep.refl _ _) | (with_reducible refine Keep.alloc ?_ _) | (with_reducible refine Keep.drew ?_) | (with_reducible refine Keep.drewN ?_ _) | (with_reducible refine Keep.setCell ?_ (.inl (by first | omega | (simp; done) | (simp; omega) | fail)) _))) (fun _ _ h => h))⟩
      case measure => simp [intOf]; omega
    · have hi : ¬ (k : Int) < (n : Int) := by omega
      go_wp2
      go_ret
      exact ⟨rfl, hkw.out⟩
theorem same_parts (P : List PtZ) (u v : Value) (F G : Nat → Prop) (w : World) (hu : NS parN w F u P) (hv : NS parN w G v P) :
    Calls Tryz.prog 46 #[u, v] w fun e w' => e = .returned (.bool true) ∧ Keep (fun _ => False) w w' := by
  have HU := Lib.hid hu
  have HV := Lib.hid hv
  obtain ⟨A, c, rfl, h2, h1⟩ := hu.form
  obtain ⟨B, d, rfl, h4, h3⟩ := hv.form
  unfold maxLen at h2 h4
  obtain ⟨n, hn⟩ : ∃ n, P.length = n := ⟨_, rfl⟩
  have HN := Lib.hid hn
  rw [hn] at HU HV h1 h3 ⊢
  clear hn hu hv
  have e1 : ((n : Int) != (n : Int)) = false := by simp
  go_enter Tryz.func46, Tryz.ntmps46
  go_wp2
  go_loopw [5] (fun i wr => ∃ (k : Nat), k ≤ n ∧ i = .int .i64 k ∧ Hid (Keep (fun _ => False) w wr)) (fun i _ => n - (intOf i).toNat)
  case atStart => exact ⟨0, by omega, rfl, Lib.hid (Keep.refl _ _)⟩
  case round =>
    obtain ⟨k, hk, rfl, hkw⟩ := hrel
    by_cases hlt : k < n
    · have hi : (k : Int) < (n : Int) := by omega
      obtain ⟨b, off, x, q, rfl, -, hx, hin, hc⟩ := NS.at_ (HU.out.same hkw.out) hlt
      obtain ⟨b2, off2, x2, q2, rfl, -, hx2, hin2, hc2⟩ := NS.at_ (HV.out.same hkw.out) hlt
      have exx : x2 = x := Option.some.inj (hx2.symm.trans hx)
      subst exx
      have f0 := hc 0 _ rfl
      have f1 := hc 1 _ rfl
      have g0 := hc2 0 _ rfl
      have g1 := hc2 1 _ rfl
      simp only [show parN.m = 2 from rfl, Nat.add_zero] at f0 f1 g0 g1
      have SM := Lib.hid (fun W (hk : Keep (fun _ => False) wr W) => same_any x2.data x2.data q q2 F G W (By.keep hin hk (fun _ _ _ h => h)) (By.keep hin2 hk (fun _ _ _ h => h)))
      have SM2 := Lib.hid (fun W (hk : Keep (fun _ => False) wr W) => by have := SM.out W hk; rw [decide_eq_true rfl] at this; exact this)
      obtain ⟨A1, c1, rfl, -⟩ := hin
      obtain ⟨A2, c2, rfl, -⟩ := hin2
      clear hc hc2 hx hx2 SM
      generalize x2.comp = cc at *
      generalize x2.data.length = nd at *
      have ex : (cc != cc) = false := by simp
      have CE := Lib.hid (show ∀ W', Keep (fun _ => False) wr W' → (W'.cell? ⟨b, off + k * 2, none⟩ = some (.int .i64 cc) ∧ W'.cell? ⟨b2, off2 + k * 2, none⟩ = some (.int .i64 cc) ∧ W'.cell? ⟨b, off + k * 2 + 1, none⟩ = some (.slice A1 nd c1) ∧ W'.cell? ⟨b2, off2 + k * 2 + 1, none⟩ = some (.slice A2 nd c2)) from fun W' hk => ⟨hk.cell (fun h => h) f0, hk.cell (fun h => h) g0, hk.cell (fun h => h) f1, hk.cell (fun h => h) g1⟩)
      go_upto_region 6 with fail
      go_region_held3 (fun W' => W'.cell? ⟨b, off + k * 2, none⟩ = some (.int .i64 cc) ∧ W'.cell? ⟨b2, off2 + k * 2, none⟩ = some (.int .i64 cc) ∧ W'.cell? ⟨b, off + k * 2 + 1, none⟩ = some (.slice A1 nd c1) ∧ W'.cell? ⟨b2, off2 + k * 2 + 1, none⟩ = some (.slice A2 nd c2)) (exact CE.out _ (by exact (by repeat first | (with_reducible assumption) | (with_reducible exact Keep.refl _ _) | (with_reducible refine Keep.alloc ?_ _) | (with_reducible refine Keep.drew ?_) | (with_reducible refine Keep.drewN ?_ _) | (with_reducible refine Keep.setCell ?_ (.inl (by first | omega | (simp; done) | (simp; omega) | fail)) _)))) (first
        | (go_at_call 24; (with_reducible refine (SM2.out _ (by exact (by repeat first | (with_reducible assumption) | (with_reducible exact Keep.refl _ _) | (with_reducible refine Keep.alloc ?_ _) | (with_reducible refine Keep.drew ?_) | (with_reducible refine Keep.drewN ?_ _) | (with_reducible refine Keep.setCell ?_ (.inl (by first | omega | (simp; done) | (simp; omega) | fail)) _)))).mono ?_); rintro e w4 ⟨rfl, rfl⟩)
        | fail)
      go_wp2
      go_roundw
      case rel => exact ⟨k + 1, by omega, by go_num, Lib.hid (Keep.trans hkw.out (by exact (by repeat first | (with_reducible assumption) | (with_reducible exact Keep.refl _ _) | (with_reducible refine Keep.alloc ?_ _) | (with_reducible refine Keep.drew ?_) | (with_reducible refine Keep.drewN ?_ _) | (with_reducible refine Keep.setCell ?_ (.inl (by first | omega | (simp; done) | (simp; omega) | fail)) _))) (fun _ _ h => h))⟩
      case measure => simp [intOf]; omega
    · have hi : ¬ (k : Int) < (n : Int) := by omega
      go_wp2
      go_ret
      exact ⟨rfl, hkw.out⟩
end Go.Proofs.YtglliendhbkkhaaGreatDoor

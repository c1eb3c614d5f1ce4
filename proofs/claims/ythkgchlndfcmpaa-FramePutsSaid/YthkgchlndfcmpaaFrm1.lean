/- Lists of commands in memory; contracts of frame.Check, vivariumref14.Check, Plain, Same, vivariumref13.Much. -/
import Derived.Test.YthkgchlndfcmpaaNest
import Derived.Test.YthkgchlndfcmpaaCmdZ
import Derived.Test.YthkgchlndfcmpaaCmdA
import Derived.Test.YthkgchlndfcmpaaCmdX
import Derived.Deep.RegionHeld3
import Derived.OwnWalk
import Derived.Deep.Cut
namespace Go.Proofs.Ythkgchlndfcmpaa
open Go.ChangeShapes Go.WideShapes Go.ChangeAt Go.RowKit
set_option maxRecDepth 100000
set_option linter.unusedVariables false
set_option linter.unusedSimpArgs false

/-- Commands, each with its data's slice. -/
def cmN : Nst Cmd Value where
  cells p := [.int .i64 p.1.do_, .bool p.1.loc, .int .i64 p.1.idx, .int .i64 p.1.gen, .int .i64 p.1.comp, p.2]
  m := 6
  pos := by decide
  len _ := rfl
  inn w F x u := By w F u x.l
  one h u hu := by
    obtain ⟨A, c, rfl, -⟩ := h
    simp only [List.mem_cons, List.not_mem_nil, or_false] at hu
    rcases hu with rfl | rfl | rfl | rfl | rfl | rfl <;> rfl
  keep h hk hs := h.keep hk hs
  mono h hf := h.mono hf
theorem info_cmd : (Try.prog.info? 39).map (fun i => (i.zero, i.size, i.bytes)) = some (some (.agg #[.int .i64 0, .bool false, .int .i64 0, .int .i64 0, .int .i64 0, .slice none 0 0]), 6, 64) := by kernel_rfl
theorem cells_at6 {w : World} {b o : Nat} {x : Cmd} {u : Value} (h : ∀ j q, (cmN.cells (x, u))[j]? = some q → w.cell? ⟨b, o + j, none⟩ = some q) :
    w.cell? ⟨b, o, none⟩ = some (.int .i64 x.do_) ∧ w.cell? ⟨b, o + 1, none⟩ = some (.bool x.loc) ∧ w.cell? ⟨b, o + 2, none⟩ = some (.int .i64 x.idx) ∧ w.cell? ⟨b, o + 3, none⟩ = some (.int .i64 x.gen) ∧ w.cell? ⟨b, o + 4, none⟩ = some (.int .i64 x.comp) ∧ w.cell? ⟨b, o + 5, none⟩ = some u :=
  ⟨h 0 _ rfl, h 1 _ rfl, h 2 _ rfl, h 3 _ rfl, h 4 _ rfl, h 5 _ rfl⟩
theorem cmAt {w : World} {F : Nat → Prop} {A : Option Addr} {n c k : Nat} {l : List Cmd} (h : NS cmN w F (.slice A n c) l) (hk : k < n) :
    ∃ b off x A1 c1, A = some ⟨b, off, none⟩ ∧ F b ∧ l[k]? = some x ∧ By w F (.slice A1 x.l.length c1) x.l ∧ ∀ j q, (cmN.cells (x, .slice A1 x.l.length c1))[j]? = some q → w.cell? ⟨b, off + k * 6 + j, none⟩ = some q := by
  obtain ⟨b, off, x, v, h1, h2, h3, h4, h5⟩ := h.at_ hk
  obtain ⟨A1, c1, rfl, -⟩ := id (show By w F v x.l from h4)
  exact ⟨b, off, x, A1, c1, h1, h2, h3, h4, h5⟩
/-- Commands that came in. -/
theorem argCmds {H : Type} {enc : TypeId × Value → H} {w : World} {base : Nat} {spare : Nat → Bool} {held : Bool} {A : Option Addr} {len cap : Nat} {d : DataW H} {p : List MemPlace}
    (h : DataW.Trod enc Try.prog w base spare held 69 (.slice A len cap) d p) : ∃ l, NS cmN w (fun _ => True) (.slice A len cap) l ∧ ∀ x ∈ l, ((Lit.int .i64 x.do_).wf = true ∧ (Lit.int .i64 x.idx).wf = true ∧ (Lit.int .i64 x.gen).wf = true ∧ (Lit.int .i64 x.comp).wf = true) := by
  haveI : Inhabited (Cmd × Value) := ⟨(⟨0, false, 0, 0, 0, []⟩, undef)⟩
  obtain ⟨l, g1, g2, g3, rfl, g5, g6⟩ := argSt (f := cmN.cells) (ok := fun y => By w (fun _ => True) y.2 y.1.l ∧ ((Lit.int .i64 y.1.do_).wf = true ∧ (Lit.int .i64 y.1.idx).wf = true ∧ (Lit.int .i64 y.1.gen).wf = true ∧ (Lit.int .i64 y.1.comp).wf = true)) cmN.len (by decide) Try.underlying69 cellsCmd (fun n cs x hl hx => by
    obtain ⟨y, u, e, hb, hr⟩ := trod_cmd hl hx
    exact ⟨(y, u), e, hb, hr⟩) h
  have hz : (l.map Prod.fst).zip (l.map Prod.snd) = l := by
    clear g1 g3 g5 h
    induction l with
    | nil => rfl
    | cons y l ih => simp [ih]
  refine ⟨l.map Prod.fst, ⟨l.map Prod.snd, by simp, ?_, fun i x u hx hu => ?_⟩, fun x hx => ?_⟩
  · rw [hz]; exact ⟨A, cap, rfl, g1, g2, g3, g6⟩
  · have h2 : l[i]? = some (x, u) := by rw [← hz]; exact List.getElem?_zip_eq_some.2 ⟨hx, hu⟩
    exact (g5 _ (List.mem_of_getElem? h2)).1
  · obtain ⟨y, hy, rfl⟩ := List.mem_map.1 hx
    exact (g5 y hy).2
/-- The first error. -/
def firstE : List Cmd → Int
  | [] => 0
  | x :: l => if checkC x ≠ 0 then checkC x else firstE l
def checksF (l : List Cmd) : Int := if 64 < l.length then 13 else firstE l
theorem firstE_at {l : List Cmd} {k : Nat} {x : Cmd} (hx : l[k]? = some x) : firstE (l.drop k) = if checkC x ≠ 0 then checkC x else firstE (l.drop (k + 1)) := by
  have hk : k < l.length := (List.getElem?_eq_some_iff.1 hx).1
  have : l.drop k = x :: l.drop (k + 1) := by
    rw [List.drop_eq_getElem_cons hk]
    rw [List.getElem?_eq_getElem hk] at hx
    injection hx with hx
    rw [hx]
  rw [this, firstE]
set_option maxHeartbeats 4000000 in
theorem fcheck_any (l : List Cmd) (v : Value) (F : Nat → Prop) (w : World) (h : NS cmN w F v l) :
    Calls Try.prog 60 #[v] w fun e w' => e = .returned (.int .i64 (checksF l)) ∧ Below w.heap.size w w' := by
  have HA := Lib.hid h
  obtain ⟨A, c, rfl, -, -⟩ := h.form
  clear h
  by_cases hbig : 64 < l.length
  · rw [show checksF l = 13 by unfold checksF; rw [if_pos hbig]]
    have h1 : (64 : Int) < (l.length : Int) := by omega
    generalize l.length = n at *
    go_enter Try.func60, Try.ntmps60
    go_wp2
    go_ret
    exact ⟨rfl, Below.refl _ _⟩
  have h1 : ¬ (64 : Int) < (l.length : Int) := by omega
  rw [show checksF l = firstE l by unfold checksF; rw [if_neg hbig]]
  obtain ⟨r, hr⟩ : ∃ r, r = firstE l := ⟨_, rfl⟩
  rw [← hr]
  have F0 := Lib.hid (show firstE (l.drop 0) = r from hr.symm)
  have FE := Lib.hid (fun k x (hx : l[k]? = some x) => firstE_at hx)
  have FD := Lib.hid (show ∀ k, l.length ≤ k → firstE (l.drop k) = 0 from fun k hk => by rw [List.drop_eq_nil_of_le hk]; rfl)
  generalize hn : l.length = n at *
  clear hr hn hbig
  go_enter Try.func60, Try.ntmps60
  go_wp2
  go_loopw [11] (fun i wr => ∃ k : Nat, k ≤ n ∧ i = .int .i64 k ∧ Hid (firstE (l.drop k) = r ∧ Keep (fun _ => False) w wr)) (fun i _ => n - (intOf i).toNat)
  case atStart => exact ⟨0, by omega, rfl, Lib.hid ⟨F0.out, Keep.refl _ _⟩⟩
  case round =>
    obtain ⟨k, hk, rfl, ht⟩ := hrel
    by_cases hlt : k < n
    · have hi : (k : Int) < (n : Int) := by omega
      have h00 : (0 : Int) ≤ (k : Int) := by omega
      obtain ⟨b, off, x, A1, c1, rfl, -, hx, hin, hcs⟩ := cmAt (HA.out.same ht.out.2) hlt
      obtain ⟨y0, y1, y2, y3, y4, y5⟩ := cells_at6 hcs
      have CK := Lib.hid (fun W (hk : Keep (fun _ => False) wr W) => ccheck_any x _ _ W (hin.keep hk (fun _ _ _ h => h)))
      have FX := Lib.hid (FE.out k x hx)
      clear hx hin hcs
      generalize checkC x = z at *
      unfold cmdV at CK
      go_wp2_with fail
      with_reducible refine (CK.out _ (by exact (by repeat first | assumption | exact Keep.refl _ _ | refine Keep.alloc ?_ _ | refine Keep.drew ?_ | refine Keep.drewN ?_ _ | refine Keep.setCell ?_ (.inl (by first | omega | (simp; done) | (simp; omega))) _))).mono ?_
      rintro e w1 ⟨rfl, hb⟩
      have K1 := Lib.hid ((ht.out.2.alloc _).trans (Keep.of_below' hb) (fun _ _ h => h))
      clear hb CK
      by_cases hz : z = 0
      · have e1 : (z != 0) = false := by simp [hz]
        have FY := Lib.hid (show firstE (l.drop (k + 1)) = r by rw [← ht.out.1, FX.out, if_neg (by simp [hz])])
        clear hz
        go_wp2
        go_roundw
        case rel => exact ⟨k + 1, by omega, by go_num, Lib.hid ⟨FY.out, K1.out⟩⟩
        case measure => simp [intOf]; omega
      · have e1 : (z != 0) = true := by simp [hz]
        have FY := Lib.hid (show r = z by rw [← ht.out.1, FX.out, if_pos hz])
        clear hz
        go_wp2
        go_ret
        exact ⟨ret_int FY.out.symm, K1.out.to_below'⟩
    · have hi : ¬ (k : Int) < (n : Int) := by omega
      have FY := Lib.hid (show r = 0 by rw [← ht.out.1, FD.out k (by omega)])
      go_wp2
      go_ret
      exact ⟨ret_int FY.out.symm, ht.out.2.to_below'⟩
set_option maxHeartbeats 4000000 in
theorem rfcheck_any (l : List Cmd) (v : Value) (F : Nat → Prop) (w : World) (h : NS cmN w F v l) :
    Calls Try.prog 59 #[v] w fun e w' => e = .returned (.int .i64 (checksF l)) ∧ Below w.heap.size w w' := by
  have HA := Lib.hid h
  obtain ⟨A, c, rfl, -, -⟩ := h.form
  clear h
  by_cases hbig : 64 < l.length
  · rw [show checksF l = 13 by unfold checksF; rw [if_pos hbig]]
    have h1 : (64 : Int) < (l.length : Int) := by omega
    generalize l.length = n at *
    go_enter Try.func59, Try.ntmps59
    go_wp2
    go_ret
    exact ⟨rfl, Below.refl _ _⟩
  have h1 : ¬ (64 : Int) < (l.length : Int) := by omega
  rw [show checksF l = firstE l by unfold checksF; rw [if_neg hbig]]
  obtain ⟨r, hr⟩ : ∃ r, r = firstE l := ⟨_, rfl⟩
  rw [← hr]
  have F0 := Lib.hid (show firstE (l.drop 0) = r from hr.symm)
  have FE := Lib.hid (fun k x (hx : l[k]? = some x) => firstE_at hx)
  have FD := Lib.hid (show ∀ k, l.length ≤ k → firstE (l.drop k) = 0 from fun k hk => by rw [List.drop_eq_nil_of_le hk]; rfl)
  generalize hn : l.length = n at *
  clear hr hn hbig
  go_enter Try.func59, Try.ntmps59
  go_wp2
  go_loopw [3] (fun i wr => ∃ k : Nat, k ≤ n ∧ i = .int .i64 k ∧ Hid (firstE (l.drop k) = r ∧ Keep (fun _ => False) w wr)) (fun i _ => n - (intOf i).toNat)
  case atStart => exact ⟨0, by omega, rfl, Lib.hid ⟨F0.out, Keep.refl _ _⟩⟩
  case round =>
    obtain ⟨k, hk, rfl, ht⟩ := hrel
    by_cases hlt : k < n
    · have hi : (k : Int) < (n : Int) := by omega
      have h00 : (0 : Int) ≤ (k : Int) := by omega
      obtain ⟨b, off, x, A1, c1, rfl, -, hx, hin, hcs⟩ := cmAt (HA.out.same ht.out.2) hlt
      obtain ⟨y0, y1, y2, y3, y4, y5⟩ := cells_at6 hcs
      have CK := Lib.hid (fun W (hk : Keep (fun _ => False) wr W) => rcheck_any x _ _ W (hin.keep hk (fun _ _ _ h => h)))
      have CC := Lib.hid (fun W (hk : Keep (fun _ => False) wr W) => cells_at6 (fun j q hq => hk.cell (fun h => h) (hcs j q hq)))
      have FX := Lib.hid (FE.out k x hx)
      clear hx hin hcs
      generalize checkC x = z at *
      unfold cmdV at CK
      go_wp2_with fail
      with_reducible refine (CK.out _ (by exact (by repeat first | assumption | exact Keep.refl _ _ | refine Keep.alloc ?_ _ | refine Keep.drew ?_ | refine Keep.drewN ?_ _ | refine Keep.setCell ?_ (.inl (by first | omega | (simp; done) | (simp; omega))) _))).mono ?_
      rintro e w1 ⟨rfl, hb⟩
      have KB := Lib.hid (Keep.of_below' hb)
      have K1 := Lib.hid (ht.out.2.trans KB.out (fun _ _ h => h))
      clear hb y0 y1 y2 y3 y4 y5
      by_cases hz : z = 0
      · have e1 : (z != 0) = false := by simp [hz]
        have FY := Lib.hid (show firstE (l.drop (k + 1)) = r by rw [← ht.out.1, FX.out, if_neg (by simp [hz])])
        clear hz
        go_wp2
        go_roundw
        case rel => exact ⟨k + 1, by omega, by go_num, Lib.hid ⟨FY.out, K1.out⟩⟩
        case measure => simp [intOf]; omega
      · have e1 : (z != 0) = true := by simp [hz]
        have FY := Lib.hid (show r = z by rw [← ht.out.1, FX.out, if_pos hz])
        clear hz
        obtain ⟨y0, y1, y2, y3, y4, y5⟩ := CC.out _ KB.out
        go_wp2_with fail
        with_reducible refine (CK.out _ (by exact KB.out)).mono ?_
        rintro e w2 ⟨rfl, hb2⟩
        have K2 := Lib.hid (K1.out.trans (Keep.of_below' hb2) (fun _ _ h => h))
        clear hb2
        go_wp2
        go_ret
        exact ⟨ret_int FY.out.symm, K2.out.to_below'⟩
    · have hi : ¬ (k : Int) < (n : Int) := by omega
      have FY := Lib.hid (show r = 0 by rw [← ht.out.1, FD.out k (by omega)])
      go_wp2
      go_ret
      exact ⟨ret_int FY.out.symm, ht.out.2.to_below'⟩
end Go.Proofs.Ythkgchlndfcmpaa
namespace Go.Proofs.Ythkgchlndfcmpaa
open Go.RowKit
set_option maxRecDepth 100000
set_option linter.unusedVariables false
set_option linter.unusedSimpArgs false

instance decCmd : DecidableEq Cmd := fun a b => decidable_of_iff (exactC a b = true) exactC_iff
set_option maxHeartbeats 8000000 in
theorem fsame_any (l m : List Cmd) (u v : Value) (F G : Nat → Prop) (w : World) (ha : NS cmN w F u l) (hb : NS cmN w G v m) :
    Calls Try.prog 53 #[u, v] w fun e w' => e = .returned (.bool (decide (l = m))) ∧ Below w.heap.size w w' := by
  have HA := Lib.hid ha
  have HB := Lib.hid hb
  have hll := ha.len
  obtain ⟨A, c, rfl, -⟩ := ha.form
  obtain ⟨B, d, rfl, -⟩ := hb.form
  obtain ⟨r, hr⟩ : ∃ r, r = decide (l = m) := ⟨_, rfl⟩
  rw [← hr]
  by_cases hq : l.length = m.length
  · have HE := Lib.hid (show l.take l.length = m.take l.length → r = true from fun h => by
      rw [hr, decide_eq_true_iff]
      rwa [List.take_length, hq, List.take_length] at h)
    have HT := Lib.hid (show ∀ (k : Nat) x y, l[k]? = some x → m[k]? = some y → exactC x y = true → l.take k = m.take k → l.take (k + 1) = m.take (k + 1) from fun k x y h1 h2 h3 h => by
      rw [List.take_add_one, List.take_add_one, h, h1, h2, exactC_iff.1 h3])
    have h0 : ((l.length : Int) != (m.length : Int)) = false := by rw [hq]; simp
    clear ha hb
    have HX := Lib.hid (show ∀ (k : Nat) x y, l[k]? = some x → m[k]? = some y → exactC x y = false → r = false from fun k x y h1 h2 h3 => by
      rw [hr, decide_eq_false_iff_not]
      intro e
      rw [e, h2] at h1
      injection h1 with h1
      rw [h1, exactC_self] at h3
      cases h3)
    generalize hn : l.length = n at *
    rw [← hq] at HB h0 ⊢
    clear hn hq hr
    go_enter Try.func53, Try.ntmps53
    go_wp2
    go_loopw [5] (fun i wr => ∃ k : Nat, k ≤ n ∧ i = .int .i64 k ∧ Hid (l.take k = m.take k ∧ Keep (fun _ => False) w wr)) (fun i _ => n - (intOf i).toNat)
    case atStart => exact ⟨0, by omega, rfl, Lib.hid ⟨rfl, Keep.refl _ _⟩⟩
    case round =>
      obtain ⟨k, hk, rfl, ht⟩ := hrel
      by_cases hlt : k < n
      · have hi : (k : Int) < (n : Int) := by omega
        have h00 : (0 : Int) ≤ (k : Int) := by omega
        obtain ⟨b1, o1, x, A1, c1, rfl, -, hx, hmx, q1⟩ := cmAt (HA.out.same ht.out.2) hlt
        obtain ⟨b2, o2, y, B1, d1, rfl, -, hy, hmy, q2⟩ := cmAt (HB.out.same ht.out.2) hlt
        have EX := Lib.hid (fun W (hk : Keep (fun _ => False) wr W) => exact_any x y _ _ _ _ W (hmx.keep hk (fun _ _ _ h => h)) (hmy.keep hk (fun _ _ _ h => h)))
        have NE := Lib.hid (HX.out k x y hx hy)
        have YE := Lib.hid (HT.out k x y hx hy)
        unfold cmdV at EX
        obtain ⟨x0, x1, x2, x3, x4, x5⟩ := cells_at6 q1
        obtain ⟨y0, y1, y2, y3, y4, y5⟩ := cells_at6 q2
        have CE := Lib.hid (show ∀ W', Keep (fun _ => False) wr W' → W'.cell? ⟨b1, o1 + k * 6, none⟩ = some (.int .i64 x.do_) ∧ W'.cell? ⟨b1, o1 + k * 6 + 1, none⟩ = some (.bool x.loc) ∧ W'.cell? ⟨b1, o1 + k * 6 + 2, none⟩ = some (.int .i64 x.idx) ∧ W'.cell? ⟨b1, o1 + k * 6 + 3, none⟩ = some (.int .i64 x.gen) ∧ W'.cell? ⟨b1, o1 + k * 6 + 4, none⟩ = some (.int .i64 x.comp) ∧ W'.cell? ⟨b1, o1 + k * 6 + 5, none⟩ = some (.slice A1 x.l.length c1) ∧ W'.cell? ⟨b2, o2 + k * 6, none⟩ = some (.int .i64 y.do_) ∧ W'.cell? ⟨b2, o2 + k * 6 + 1, none⟩ = some (.bool y.loc) ∧ W'.cell? ⟨b2, o2 + k * 6 + 2, none⟩ = some (.int .i64 y.idx) ∧ W'.cell? ⟨b2, o2 + k * 6 + 3, none⟩ = some (.int .i64 y.gen) ∧ W'.cell? ⟨b2, o2 + k * 6 + 4, none⟩ = some (.int .i64 y.comp) ∧ W'.cell? ⟨b2, o2 + k * 6 + 5, none⟩ = some (.slice B1 y.l.length d1) ∧ Keep (fun _ => False) wr W' from fun W' hk => ⟨hk.cell (fun h => h) x0, hk.cell (fun h => h) x1, hk.cell (fun h => h) x2, hk.cell (fun h => h) x3, hk.cell (fun h => h) x4, hk.cell (fun h => h) x5, hk.cell (fun h => h) y0, hk.cell (fun h => h) y1, hk.cell (fun h => h) y2, hk.cell (fun h => h) y3, hk.cell (fun h => h) y4, hk.cell (fun h => h) y5, hk⟩)
        clear q1 q2 hx hy hmx hmy x0 x1 x2 x3 x4 x5 y0 y1 y2 y3 y4 y5
        generalize exactC x y = z at *
        cases z
        · have Z := Lib.hid (NE.out rfl)
          go_upto_region 6 with fail
          go_region_held3 (fun W' => W'.cell? ⟨b1, o1 + k * 6, none⟩ = some (.int .i64 x.do_) ∧ W'.cell? ⟨b1, o1 + k * 6 + 1, none⟩ = some (.bool x.loc) ∧ W'.cell? ⟨b1, o1 + k * 6 + 2, none⟩ = some (.int .i64 x.idx) ∧ W'.cell? ⟨b1, o1 + k * 6 + 3, none⟩ = some (.int .i64 x.gen) ∧ W'.cell? ⟨b1, o1 + k * 6 + 4, none⟩ = some (.int .i64 x.comp) ∧ W'.cell? ⟨b1, o1 + k * 6 + 5, none⟩ = some (.slice A1 x.l.length c1) ∧ W'.cell? ⟨b2, o2 + k * 6, none⟩ = some (.int .i64 y.do_) ∧ W'.cell? ⟨b2, o2 + k * 6 + 1, none⟩ = some (.bool y.loc) ∧ W'.cell? ⟨b2, o2 + k * 6 + 2, none⟩ = some (.int .i64 y.idx) ∧ W'.cell? ⟨b2, o2 + k * 6 + 3, none⟩ = some (.int .i64 y.gen) ∧ W'.cell? ⟨b2, o2 + k * 6 + 4, none⟩ = some (.int .i64 y.comp) ∧ W'.cell? ⟨b2, o2 + k * 6 + 5, none⟩ = some (.slice B1 y.l.length d1) ∧ Keep (fun _ => False) wr W') (exact CE.out _ (by exact (by repeat first | (with_reducible assumption) | (with_reducible exact Keep.refl _ _) | (with_reducible refine Keep.alloc ?_ _) | (with_reducible refine Keep.drew ?_) | (with_reducible refine Keep.drewN ?_ _) | (with_reducible refine Keep.setCell ?_ (.inl (by first | omega | (simp; done) | (simp; omega) | fail)) _)))) (first
            | (go_at_call 75; (with_reducible refine (EX.out _ (by exact (by repeat first | (with_reducible assumption) | (with_reducible exact Keep.refl _ _) | (with_reducible refine Keep.alloc ?_ _) | (with_reducible refine Keep.drew ?_) | (with_reducible refine Keep.drewN ?_ _) | (with_reducible refine Keep.setCell ?_ (.inl (by first | omega | (simp; done) | (simp; omega) | fail)) _)))).mono ?_); rintro e w3 ⟨rfl, hb3⟩; have hk3 : Keep (fun _ => False) wr w3 := Keep.trans (T := fun _ => False) (by exact (by repeat first | (with_reducible assumption) | (with_reducible exact Keep.refl _ _) | (with_reducible refine Keep.alloc ?_ _) | (with_reducible refine Keep.drew ?_) | (with_reducible refine Keep.drewN ?_ _) | (with_reducible refine Keep.setCell ?_ (.inl (by first | omega | (simp; done) | (simp; omega) | fail)) _))) (Keep.of_below' hb3) (fun _ _ h => h))
            | fail)
          go_wp2
          go_ret
          exact ⟨ret_bool Z.out.symm, (ht.out.2.trans hk3 (fun _ _ h => h)).to_below'⟩
        · have NX := Lib.hid (YE.out rfl ht.out.1)
          clear NE
          go_upto_region 6 with fail
          go_region_held3 (fun W' => W'.cell? ⟨b1, o1 + k * 6, none⟩ = some (.int .i64 x.do_) ∧ W'.cell? ⟨b1, o1 + k * 6 + 1, none⟩ = some (.bool x.loc) ∧ W'.cell? ⟨b1, o1 + k * 6 + 2, none⟩ = some (.int .i64 x.idx) ∧ W'.cell? ⟨b1, o1 + k * 6 + 3, none⟩ = some (.int .i64 x.gen) ∧ W'.cell? ⟨b1, o1 + k * 6 + 4, none⟩ = some (.int .i64 x.comp) ∧ W'.cell? ⟨b1, o1 + k * 6 + 5, none⟩ = some (.slice A1 x.l.length c1) ∧ W'.cell? ⟨b2, o2 + k * 6, none⟩ = some (.int .i64 y.do_) ∧ W'.cell? ⟨b2, o2 + k * 6 + 1, none⟩ = some (.bool y.loc) ∧ W'.cell? ⟨b2, o2 + k * 6 + 2, none⟩ = some (.int .i64 y.idx) ∧ W'.cell? ⟨b2, o2 + k * 6 + 3, none⟩ = some (.int .i64 y.gen) ∧ W'.cell? ⟨b2, o2 + k * 6 + 4, none⟩ = some (.int .i64 y.comp) ∧ W'.cell? ⟨b2, o2 + k * 6 + 5, none⟩ = some (.slice B1 y.l.length d1) ∧ Keep (fun _ => False) wr W') (exact CE.out _ (by exact (by repeat first | (with_reducible assumption) | (with_reducible exact Keep.refl _ _) | (with_reducible refine Keep.alloc ?_ _) | (with_reducible refine Keep.drew ?_) | (with_reducible refine Keep.drewN ?_ _) | (with_reducible refine Keep.setCell ?_ (.inl (by first | omega | (simp; done) | (simp; omega) | fail)) _)))) (first
            | (go_at_call 75; (with_reducible refine (EX.out _ (by exact (by repeat first | (with_reducible assumption) | (with_reducible exact Keep.refl _ _) | (with_reducible refine Keep.alloc ?_ _) | (with_reducible refine Keep.drew ?_) | (with_reducible refine Keep.drewN ?_ _) | (with_reducible refine Keep.setCell ?_ (.inl (by first | omega | (simp; done) | (simp; omega) | fail)) _)))).mono ?_); rintro e w3 ⟨rfl, hb3⟩; have hk3 : Keep (fun _ => False) wr w3 := Keep.trans (T := fun _ => False) (by exact (by repeat first | (with_reducible assumption) | (with_reducible exact Keep.refl _ _) | (with_reducible refine Keep.alloc ?_ _) | (with_reducible refine Keep.drew ?_) | (with_reducible refine Keep.drewN ?_ _) | (with_reducible refine Keep.setCell ?_ (.inl (by first | omega | (simp; done) | (simp; omega) | fail)) _))) (Keep.of_below' hb3) (fun _ _ h => h))
            | fail)
          have NT := Lib.hid (And.intro NX.out (ht.out.2.trans hk3 (fun _ _ h => h)))
          go_wp2
          go_roundw
          case rel => exact ⟨k + 1, by omega, by go_num, NT⟩
          case measure => simp [intOf]; omega
      · have hi : ¬ (k : Int) < (n : Int) := by omega
        have hf := Lib.hid (HE.out (by rw [show n = k by omega]; exact ht.out.1))
        go_wp2
        go_ret
        exact ⟨ret_bool hf.out.symm, ht.out.2.to_below'⟩
  · have h0 : ((l.length : Int) != (m.length : Int)) = true := by rw [bne_iff_ne]; omega
    have hf := Lib.hid (show r = false by rw [hr, decide_eq_false_iff_not]; exact fun e => hq (by rw [e]))
    clear hq ha hb hr
    generalize l.length = n at *
    generalize m.length = n2 at *
    go_enter Try.func53, Try.ntmps53
    go_wp2
    go_ret
    exact ⟨ret_bool hf.out.symm, Below.refl _ _⟩
/-- A list of commands that a call hands back. -/
def CsPost (w : World) (l : List Cmd) (e : Ending) (w' : World) : Prop := ∃ A c, e = .returned (.slice A l.length c) ∧ NS cmN w' (fun _ => True) (.slice A l.length c) l ∧ Below w.heap.size w w'
theorem map_next {l : List Cmd} {k : Nat} {x : Cmd} (f : Cmd → Cmd) (hx : l[k]? = some x) : (l.take (k + 1)).map f = (l.take k).map f ++ [f x] := by
  rw [List.take_add_one, hx, List.map_append]; rfl
set_option maxHeartbeats 8000000 in
theorem fplain_any (l : List Cmd) (v : Value) (F : Nat → Prop) (w : World) (h : NS cmN w F v l) (hl : l.length ≤ 1000000) :
    Calls Try.prog 63 #[v] w (CsPost w (l.map plainC)) := by
  obtain ⟨i0, hi0, hz0, hz1, hz2⟩ := info_parts info_cmd
  have HA := Lib.hid ((h.mono (G := fun b => b < w.heap.size) (fun b hb _ => hb)))
  obtain ⟨A, c, rfl, -, -⟩ := h.form
  have MN := Lib.hid (fun k x (hx : l[k]? = some x) => map_next plainC hx)
  have ME := Lib.hid (show ∀ k, l.length ≤ k → (l.take k).map plainC = l.map plainC from fun k hk => by rw [List.take_of_length_le hk])
  have ML0 := Lib.hid (show ∀ k, ((l.take k).map plainC).length ≤ k from fun k => by rw [List.length_map, List.length_take]; omega)
  obtain ⟨g, hg⟩ : ∃ g : Nat → List Cmd, g = fun k => (l.take k).map plainC := ⟨_, rfl⟩
  have G0 := Lib.hid (show g 0 = [] by rw [hg]; rfl)
  have GN := Lib.hid (show ∀ k x, l[k]? = some x → g (k + 1) = g k ++ [plainC x] by rw [hg]; exact MN.out)
  have GE := Lib.hid (show ∀ k, l.length ≤ k → g k = l.map plainC by rw [hg]; exact ME.out)
  have GL := Lib.hid (show ∀ k, (g k).length ≤ k by rw [hg]; exact ML0.out)
  clear MN ME ML0 hg h
  obtain ⟨R, hR⟩ : ∃ R, R = l.map plainC := ⟨_, rfl⟩
  rw [← hR] at GE ⊢
  clear hR
  generalize hn : l.length = n at *
  clear hn
  go_enter Try.func63, Try.ntmps63
  go_wp2
  go_loopw [3, 4] (fun t i wr => ∃ (k q : Nat) (B : Option Addr) (d : Nat), k ≤ n ∧ i = .int .i64 k ∧ q ≤ k ∧ t = .slice B q d ∧ Hid (NB cmN w.heap.size 39 wr (.slice B q d) (g k) ∧ q = (g k).length ∧ Keep (fun _ => False) w wr)) (fun _ i _ => n - (intOf i).toNat)
  case atStart => exact ⟨0, 0, none, 0, by omega, rfl, Nat.le_refl _, rfl, Lib.hid ⟨by rw [G0.out]; exact NB.nil _ _ _ _, by rw [G0.out]; rfl, Keep.refl _ _⟩⟩
  case round =>
    obtain ⟨k, q, B, d, hk, rfl, hqk, rfl, ht⟩ := hrel
    by_cases hlt : k < n
    · have hi : (k : Int) < (n : Int) := by omega
      have h00 : (0 : Int) ≤ (k : Int) := by omega
      obtain ⟨b, off, x, A1, c1, rfl, -, hx, hin, hcs⟩ := cmAt (HA.out.same ht.out.2.2) hlt
      obtain ⟨y0, y1, y2, y3, y4, y5⟩ := cells_at6 hcs
      have PC := rplain_any x _ _ wr hin
      have GN1 := Lib.hid (GN.out k x hx)
      have GL1 := Lib.hid (GL.out (k + 1))
      clear hx hcs hin
      generalize plainC x = y at *
      unfold CmdPost cmdV at PC
      go_wp2_with fail
      with_reducible refine PC.mono ?_
      rintro e w1 ⟨A2, c2, rfl, hy, hb⟩
      have K1 := Lib.hid (ht.out.2.2.trans (Keep.of_below' hb) (fun _ _ h => h))
      have HY := Lib.hid (hy.mono (G := fun b => ownB (.slice B q d) ≠ some b) (fun b _ h e => by have := ht.out.1.own_lt e; rcases h with h | h <;> omega))
      have HN := Lib.hid (ht.out.1.same (Keep.of_below' hb))
      have NQ := Lib.hid ht.out.2.1
      have hsz := K1.out.size
      clear hb hy PC ht y0 y1 y2 y3 y4 y5
      go_wp2_with (at_builtin; refine wpList_push rfl _ _ _ rfl cmN w.heap.size 39 i0 _ 64 Try.underlying69 hi0 hz0 hz1 hz2 rfl _ (g k) q NQ.out.symm rfl (HN.out.same ((Keep.refl _ w1).alloc _)) w1.heap.size 1 y (.slice A2 y.l.length c2) rfl (lit_cells w1 _ _) (HY.out.keep ((Keep.refl (fun _ => False) w1).alloc _) (fun _ _ _ h => h)) ?c1 ?c2 ?c3 ?_)
      case c1 => unfold maxLen; omega
      case c2 => omega
      case c3 => simp; omega
      intro A5 c5 w5 hp hk5
      rw [← GN1.out] at hp
      have NT := Lib.hid (And.intro hp (And.intro (show q + 1 = (g (k + 1)).length by rw [GN1.out, List.length_append, ← NQ.out]; rfl) ((K1.out.alloc _).trans hk5 (fun b hb e => by have := HN.out.own_lt e; omega))))
      clear hp hk5
      go_wp2
      go_roundw
      case rel => exact ⟨k + 1, q + 1, A5, c5, by omega, by first | rfl | go_num, by omega, rfl, NT⟩
      case measure => simp [intOf]; omega
    · have hi : ¬ (k : Int) < (n : Int) := by omega
      have RE := Lib.hid (GE.out k (by omega))
      have NQ := Lib.hid ht.out.2.1
      go_wp2
      go_ret
      rw [← RE.out]
      exact ⟨B, d, by rw [← NQ.out]; rfl, by rw [← NQ.out]; exact ht.out.1.ns, ht.out.2.2.to_below'⟩
/-- More than is asked? -/
def bigC (x : Cmd) : Bool := decide (200 < x.l.length)
def muchC (l : List Cmd) : Bool := (l.take 100).any bigC || decide (70 < l.length)
set_option maxHeartbeats 4000000 in
theorem much13 (l : List Cmd) (v : Value) (F : Nat → Prop) (w : World) (h : NS cmN w F v l) :
    Calls Try.prog 58 #[v] w fun e w' => e = .returned (.bool (muchC l)) ∧ w = w' := by
  have HA := Lib.hid h
  have hlen := h.len
  obtain ⟨A, c, rfl, -, -⟩ := h.form
  clear h
  obtain ⟨z, hz⟩ : ∃ z, z = muchC l := ⟨_, rfl⟩
  rw [← hz]
  obtain ⟨n, hn⟩ : ∃ n, n = l.length := ⟨_, rfl⟩
  rw [← hn] at HA hlen ⊢
  have HB := Lib.hid (show ∀ k x, k < n → k < 100 → l[k]? = some x → bigC x = true → z = true from fun k x h1 h2 h3 h4 => by
    rw [hz, muchC, Bool.or_eq_true]
    exact .inl (List.any_eq_true.2 ⟨x, List.mem_of_getElem? (by rw [List.getElem?_take, if_pos h2]; exact h3), h4⟩))
  have HE := Lib.hid (show ∀ k, (n ≤ k ∨ 100 ≤ k) → (l.take k).any bigC = false → z = decide (70 < n) from fun k h1 h2 => by
    rw [hz, muchC, ← hn]
    have : (l.take 100).any bigC = false := by
      rw [List.any_eq_false] at h2 ⊢
      intro x hx
      apply h2
      rcases h1 with h1 | h1
      · rw [List.take_of_length_le (by omega)]
        exact List.mem_of_mem_take hx
      · have : (l.take k).take 100 = l.take 100 := by rw [List.take_take, Nat.min_eq_left h1]
        rw [← this] at hx
        exact List.mem_of_mem_take hx
    rw [this, Bool.false_or])
  have HR := Lib.hid (show ∀ k x, l[k]? = some x → bigC x = false → (l.take k).any bigC = false → (l.take (k + 1)).any bigC = false from fun k x h1 h2 h3 => by
    rw [List.take_add_one, List.any_append, h3, h1]
    simp [h2])
  clear hz hn
  go_enter Try.func58, Try.ntmps58
  go_wp2
  go_loopw [3] (fun i wr => ∃ k : Nat, k ≤ n ∧ i = .int .i64 k ∧ w = wr ∧ Hid ((l.take k).any bigC = false)) (fun i _ => n - (intOf i).toNat)
  case atStart => exact ⟨0, by omega, rfl, rfl, Lib.hid rfl⟩
  case round =>
    obtain ⟨k, hk, rfl, rfl, ht⟩ := hrel
    by_cases hlt : k < n
    · have hi : (k : Int) < (n : Int) := by omega
      by_cases hh : k < 100
      · have hi2 : (k : Int) < 100 := by omega
        have h00 : (0 : Int) ≤ (k : Int) := by omega
        obtain ⟨b, off, x, A1, c1, rfl, -, hx, hin, hcs⟩ := cmAt HA.out hlt
        obtain ⟨y0, y1, y2, y3, y4, y5⟩ := cells_at6 hcs
        have B1 := HB.out k x hlt hh hx
        have R1 := HR.out k x hx
        clear hcs hx hin
        unfold bigC at B1 R1
        generalize x.l.length = q1 at *
        by_cases c1 : 200 < q1
        · have Z := Lib.hid (B1 (decide_eq_true (by omega)))
          have t1 : (200 : Int) < (q1 : Int) := by omega
          clear B1 R1
          go_wp2
          go_ret
          exact ⟨ret_bool Z.out.symm, rfl⟩
        have NT := Lib.hid (R1 (decide_eq_false (by omega)) ht.out)
        have t1 : ¬ (200 : Int) < (q1 : Int) := by omega
        clear B1 R1
        go_wp2
        go_roundw
        case rel => exact ⟨k + 1, by omega, by first | rfl | trivial | go_num, by first | rfl | trivial, NT⟩
        case measure => simp [intOf]; omega
      · have hi2 : ¬ (k : Int) < 100 := by omega
        have Z := Lib.hid (HE.out k (by omega) ht.out)
        have t4 : (70 : Int) < (n : Int) := by omega
        have Z2 := Lib.hid (show z = true by rw [Z.out]; exact decide_eq_true (by omega))
        go_wp2
        go_ret
        exact ⟨ret_bool Z2.out.symm, rfl⟩
    · have hi : ¬ (k : Int) < (n : Int) := by omega
      have Z := Lib.hid (HE.out k (by omega) ht.out)
      by_cases h80 : 70 < n
      · have t4 : (70 : Int) < (n : Int) := by omega
        have Z2 := Lib.hid (show z = true by rw [Z.out]; exact decide_eq_true (by omega))
        go_wp2
        go_ret
        exact ⟨ret_bool Z2.out.symm, rfl⟩
      · have t4 : ¬ (70 : Int) < (n : Int) := by omega
        have Z2 := Lib.hid (show z = false by rw [Z.out]; exact decide_eq_false (by omega))
        go_wp2
        go_ret
        exact ⟨ret_bool Z2.out.symm, rfl⟩
end Go.Proofs.Ythkgchlndfcmpaa

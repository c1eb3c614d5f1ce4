/- Contract of flush.all over whatever does a command. -/
import Derived.Test.YtglliendhbkkhaaDoorFl2
namespace Go.Proofs.YtglliendhbkkhaaDoor
open Go.ChangeShapes Go.WideShapes Go.ChangeAt Go.RowKit
set_option maxRecDepth 100000
set_option linter.unusedVariables false
set_option linter.unusedSimpArgs false

theorem NS.take {α β : Type} {N : Nst α β} {w : World} {F : Nat → Prop} {A : Option Addr} {n c j : Nat} {l : List α} (h : NS N w F (.slice A n c) l) (hj : j ≤ l.length) : NS N w F (.slice A j c) (l.take j) := by
  obtain ⟨us, h1, ⟨A', c', e, h2, h3, h4, h5⟩, h6⟩ := h
  injection e with e1 e2 e3
  subst e1 e3
  have hz : (l.take j).zip (us.take j) = (l.zip us).take j := (List.take_zipWith ..).symm
  have hlz : (l.zip us).length = l.length := by simp [h1]
  have hlt : ((l.zip us).take j).length = j := by rw [List.length_take, hlz]; omega
  refine ⟨us.take j, by rw [List.length_take, List.length_take, h1], ?_, fun i x v hx hv => ?_⟩
  · rw [hz]
    refine ⟨A, c, by rw [hlt], by rw [hlt]; rw [hlz] at h2; omega, h3, ?_, h5⟩
    obtain ⟨r1, r2⟩ := h4
    have hsp : (l.zip us).flatMap N.cells = ((l.zip us).take j).flatMap N.cells ++ ((l.zip us).drop j).flatMap N.cells := by
      rw [← List.flatMap_append, List.take_append_drop]
    have hln : (((l.zip us).take j).flatMap N.cells).length = ((l.zip us).take j).length * N.m := by
      have : ∀ L : List (α × β), (L.flatMap N.cells).length = L.length * N.m := fun L => by
        induction L with
        | nil => simp
        | cons y L ih => rw [List.flatMap_cons, List.length_append, ih, N.len, List.length_cons, Nat.succ_mul, Nat.add_comm]
      exact this _
    refine ⟨hln, fun hp => ?_⟩
    have hp2 : 0 < j * N.m := by rw [hlt] at hp; exact hp
    have hj0 : 0 < j := by
      rcases Nat.eq_zero_or_pos j with h | h
      · rw [h, Nat.zero_mul] at hp2; omega
      · exact h
    obtain ⟨b, off, hA, hF, hc⟩ := r2 (by rw [hlz]; exact Nat.mul_pos (by omega) N.pos)
    refine ⟨b, off, hA, hF, fun i u hu => hc i u ?_⟩
    rw [hsp, List.getElem?_append_left (List.getElem?_eq_some_iff.1 hu).1]
    exact hu
  · rw [List.getElem?_take] at hx hv
    split at hx
    · rename_i hij
      rw [if_pos hij] at hv
      exact h6 i x v hx hv
    · cases hx
/-- Whose name a command means. -/
def idOf (ahead : List Cmd) (done : List RsZ) (x : Cmd) : IdZ × Bool := if x.loc = true ∧ x.do_ ≠ 0 then findF ahead done x.idx else (⟨x.idx, x.gen⟩, true)
section
variable {S : Type} (step : S → Cmd → IdZ → S × RsZ)
/-- One after the other. -/
def allT (s : S) (l : List Cmd) : Nat → S × List RsZ
  | 0 => (s, [])
  | j + 1 => match l[j]? with
    | none => allT s l j
    | some x => if (idOf (l.take j) (allT s l j).2 x).2 = false ∧ 0 ≤ x.do_ ∧ x.do_ ≤ 3 then ((allT s l j).1, (allT s l j).2 ++ [⟨10, ⟨0, 0⟩⟩]) else ((step (allT s l j).1 x (idOf (l.take j) (allT s l j).2 x).1).1, (allT s l j).2 ++ [(step (allT s l j).1 x (idOf (l.take j) (allT s l j).2 x).1).2])
theorem allT_next {s : S} {l : List Cmd} {j : Nat} {x : Cmd} (h : l[j]? = some x) : allT step s l (j + 1) = if (idOf (l.take j) (allT step s l j).2 x).2 = false ∧ 0 ≤ x.do_ ∧ x.do_ ≤ 3 then ((allT step s l j).1, (allT step s l j).2 ++ [⟨10, ⟨0, 0⟩⟩]) else ((step (allT step s l j).1 x (idOf (l.take j) (allT step s l j).2 x).1).1, (allT step s l j).2 ++ [(step (allT step s l j).1 x (idOf (l.take j) (allT step s l j).2 x).1).2]) := by
  show (match l[j]? with | none => _ | some x => _) = _
  rw [h]
theorem allT_len {s : S} {l : List Cmd} : ∀ j, j ≤ l.length → (allT step s l j).2.length = j
  | 0, _ => rfl
  | j + 1, h => by
    have hx : l[j]? = some l[j] := List.getElem?_eq_getElem (by omega)
    rw [allT_next step hx]
    have ih := allT_len (s := s) (l := l) j (by omega)
    split <;> simp [ih]
def cmV (x : Cmd) (d : Value) : Value := .agg #[.int .i64 x.do_, .bool x.loc, .int .i64 x.idx, .int .i64 x.gen, .int .i64 x.comp, d]
/-- What does commands: a value behind an interface, states, what they own. -/
structure Doer (iv : Value) (lo : Nat) (inv : S → (Nat → Prop) → World → Prop) (pre : S → Cmd → IdZ → Prop) : Prop where
  lt : ∀ s F w, inv s F w → ∀ b, F b → b < w.heap.size
  keep : ∀ s F w w' T, inv s F w → Keep T w w' → (∀ b, F b → ¬ T b) → (∀ b, T b → lo ≤ b) → inv s F w'
  one : ∀ s F w x d (y : IdZ) G, inv s F w → pre s x y → By w G d x.l → (∀ b, G b → ¬ F b) → Calls Tryd.prog 18 #[iv, cmV x d, .agg #[.int .i64 y.ix, .int .i64 y.gen]] w fun e w' => e = .returned (.agg #[.int .i64 (step s x y).2.err, .int .i64 (step s x y).2.id.ix, .int .i64 (step s x y).2.id.gen]) ∧ ∃ F', inv (step s x y).1 F' w' ∧ Keep F w w' ∧ ∀ b, F' b → F b ∨ w.heap.size ≤ b
def AllPost (inv : S → (Nat → Prop) → World → Prop) (w : World) (F : Nat → Prop) (n : Nat) (r : S × List RsZ) (e : Ending) (w' : World) : Prop :=
  ∃ A c F', e = .returned (.slice A n c) ∧ Own w' w.heap.size 33 3 (.slice A n c) n (r.2.flatMap rsC) ∧ inv r.1 F' w' ∧ Keep F w w' ∧ (∀ b, F' b → F b ∨ w.heap.size ≤ b) ∧ ∀ b, ownB (.slice A n c) = some b → ¬ F' b
set_option maxHeartbeats 4000000 in
theorem fl_all {iv : Value} {lo : Nat} {inv : S → (Nat → Prop) → World → Prop} {pre : S → Cmd → IdZ → Prop} (D : Doer step iv lo inv pre) (s : S) (F : Nat → Prop) (w : World) (hlo : lo ≤ w.heap.size) (hi : inv s F w) (l : List Cmd) (v : Value) (G : Nat → Prop) (hl : NS cmN w G v l) (hG : ∀ b, G b → ¬ F b) (h100 : l.length ≤ 100000)
    (hR : ∀ x ∈ l, -9223372036854775808 ≤ x.idx ∧ x.idx ≤ 9223372036854775807) (hpre : ∀ j x, l[j]? = some x → ¬ ((idOf (l.take j) (allT step s l j).2 x).2 = false ∧ 0 ≤ x.do_ ∧ x.do_ ≤ 3) → pre (allT step s l j).1 x (idOf (l.take j) (allT step s l j).2 x).1) :
    Calls Tryd.prog 12 #[iv, v] w (AllPost inv w F l.length (allT step s l l.length)) := by
  have HA := Lib.hid (hl.mono (G := fun b => G b ∧ b < w.heap.size) (fun b hb h => ⟨h, hb⟩))
  have HD := Lib.hid D
  have HI := Lib.hid hi
  have HG := Lib.hid (And.intro hG (And.intro hR hpre))
  have LT0 := Lib.hid (D.lt s F w hi)
  obtain ⟨A, c, rfl, hcm, hnc⟩ := hl.form
  unfold maxLen at hcm
  obtain ⟨n, hn⟩ : ∃ n, l.length = n := ⟨_, rfl⟩
  have HN := Lib.hid hn
  rw [hn] at HA h100 hnc ⊢
  clear hl hi hG hR hpre D hn
  go_enter Tryd.func12, Tryd.ntmps12
  go_wp2
  go_loopw [5, 12] (fun y i wr => ∃ (j : Nat) (A2 : Option Addr) (c2 : Nat) (F1 : Nat → Prop), j ≤ n ∧ i = .int .i64 (j : Int) ∧ y = .slice A2 j c2 ∧ Hid (Own wr w.heap.size 33 3 (.slice A2 j c2) j ((allT step s l j).2.flatMap rsC)) ∧ Hid (inv (allT step s l j).1 F1 wr) ∧ Hid (Keep F w wr) ∧ Hid (∀ b, F1 b → F b ∨ w.heap.size ≤ b) ∧ Hid (∀ b, ownB (.slice A2 j c2) = some b → ¬ F1 b)) (fun _ i _ => n - (intOf i).toNat)
  case atStart => exact ⟨0, none, 0, F, by omega, rfl, rfl, Lib.hid (Own.none_ _ _ _ _ _), HI, Lib.hid (Keep.refl _ _), Lib.hid (fun b h => .inl h), Lib.hid (fun b h => by cases h)⟩
  case round =>
    obtain ⟨j, A2, c2, F1, hj, rfl, rfl, ho, hin, hkw, hF1, hoF⟩ := hrel
    have hzw := hkw.out.size
    by_cases hlt : j < n
    · have hi : (j : Int) < (n : Int) := by omega
      have hi0 : (0 : Int) ≤ (j : Int) := by omega
      obtain ⟨b, off, x, A1, c1, rfl, hbF, hx, hin1, hcs⟩ := cmAt (NS.keep HA.out hkw.out (fun b _ h e => HG.out.1 b h.1 e)) hlt
      obtain ⟨y0, y1, y2, y3, y4, y5⟩ := cells_at6 hcs
      have HX := Lib.hid hx
      have HDT := Lib.hid hin1
      clear hcs hin1 hx
      go_upto_region 6 with fail
      refine wp_world (S := fun X => X.heap[wr.heap.size]? = some (.cells #[.int .i64 x.do_, .bool x.loc, .int .i64 x.idx, .int .i64 x.gen, .int .i64 x.comp, .slice A1 x.l.length c1] 37 (0, 0)) ∧ X.heap[wr.heap.size + 1]? = some (.cells #[.int .i64 x.idx, .int .i64 x.gen] 27 (0, 0)) ∧ Keep (fun _ => False) wr X) ⟨by first | (exact heap_alloc_at _ _ _ (by first | rfl | (simp; done))) | (rw [Below.heap_alloc _ _ _ (by simp)]; exact heap_alloc_at _ _ _ (by first | rfl | (simp; done))) | (rw [heap_drew', Below.heap_alloc _ _ _ (by simp)]; exact heap_alloc_at _ _ _ (by first | rfl | (simp; done))) | (rw [heap_drew']; exact heap_alloc_at _ _ _ (by first | rfl | (simp; done))) | fail, by first | (exact heap_alloc_at _ _ _ (by first | rfl | (simp; done))) | (rw [Below.heap_alloc _ _ _ (by simp)]; exact heap_alloc_at _ _ _ (by first | rfl | (simp; done))) | (rw [heap_drew', Below.heap_alloc _ _ _ (by simp)]; exact heap_alloc_at _ _ _ (by first | rfl | (simp; done))) | (rw [heap_drew']; exact heap_alloc_at _ _ _ (by first | rfl | (simp; done))) | fail, by exact (by repeat first | (with_reducible assumption) | (with_reducible exact Keep.refl _ _) | (with_reducible refine Keep.alloc ?_ _) | (with_reducible refine Keep.drew ?_) | (with_reducible refine Keep.drewN ?_ _) | (with_reducible refine Keep.setCell ?_ (.inl (by first | omega | (simp; done) | (simp; omega) | fail)) _))⟩ ?_
      rintro w2 ⟨hw21, hw22, hw23⟩
      have H2 := Lib.hid (And.intro hw21 (And.intro hw22 hw23))
      clear hw21 hw22 hw23 y0 y1 y2 y3 y4 y5
      obtain ⟨y0, y1, y2, y3, y4, y5, yf⟩ := cells6 H2.out.1
      obtain ⟨z0, z1, zf⟩ := cells2 H2.out.2.1
      by_cases hloc : x.loc = true ∧ x.do_ ≠ 0
      · have l1 : x.loc = true := hloc.1
        have l2 : (x.do_ != 0) = true := by simpa using hloc.2
        obtain ⟨⟨y, ok⟩, hyo⟩ : ∃ r, findF (l.take j) (allT step s l j).2 x.idx = r := ⟨_, rfl⟩
        have YO := Lib.hid (show idOf (l.take j) (allT step s l j).2 x = (y, ok) from by unfold idOf; rw [if_pos hloc]; exact hyo)
        have FD := Lib.hid (show ∀ X, Keep (fun _ => False) w2 X → Calls Tryd.prog 6 #[.slice (some ⟨b, off, none⟩) j c, .slice A2 j c2, .int .i64 x.idx] X fun e w' => e = .returned (.tuple #[.agg #[.int .i64 y.ix, .int .i64 y.gen], .bool ok]) ∧ Keep (fun _ => False) X w' from fun X hk => by
          have hk2 := H2.out.2.2.trans hk (fun _ _ h => h)
          have hj2 : (allT step s l j).2.length = j := allT_len step j (by rw [HN.out]; omega)
          have := fl_find (l.take j) (.slice (some ⟨b, off, none⟩) j c) (fun b => G b ∧ b < w.heap.size) (allT step s l j).2 (.slice A2 j c2) (fun _ => True) x.idx (HG.out.2.1 x (List.mem_of_getElem? HX.out)) X (NS.take (NS.same (NS.keep HA.out hkw.out (fun b _ h e => HG.out.1 b h.1 e)) hk2) (by rw [HN.out]; omega)) (by rw [hj2]; exact (ho.out.keep hk2 (fun _ _ h => h)).sl.mono (fun _ _ _ => trivial)) (by rw [List.length_take]; omega)
          rw [hyo] at this
          exact this)
        have SX := Lib.hid (show ∀ W', Keep (fun _ => False) w2 W' → W'.heap[wr.heap.size]? = some (.cells #[.int .i64 x.do_, .bool x.loc, .int .i64 x.idx, .int .i64 x.gen, .int .i64 x.comp, .slice A1 x.l.length c1] 37 (0, 0)) ∧ W'.heap[wr.heap.size + 1]? = some (.cells #[.int .i64 x.idx, .int .i64 x.gen] 27 (0, 0)) from fun W' hk => ⟨(hk.block _ (Array.getElem?_eq_some_iff.1 H2.out.1).1 (fun h => h)).trans H2.out.1, (hk.block _ (Array.getElem?_eq_some_iff.1 H2.out.2.1).1 (fun h => h)).trans H2.out.2.1⟩)
        have jc1 : (j : Int) ≤ (c : Int) := by omega
        have jc2 : ¬ (c : Int) < (j : Int) := by omega
        go_upto_region 7 with fail
        go_cut [9] (fun t9 wx => t9 = .bool ok ∧ Hid (wx.heap[wr.heap.size]? = some (.cells #[.int .i64 x.do_, .bool x.loc, .int .i64 x.idx, .int .i64 x.gen, .int .i64 x.comp, .slice A1 x.l.length c1] 37 (0, 0)) ∧ wx.heap[wr.heap.size + 1]? = some (.cells #[.int .i64 y.ix, .int .i64 y.gen] 27 (0, 0)) ∧ Keep (fun _ => False) wr wx))
        case first =>
          go_region_law (first
            | (go_simp; go_at_call 6; (with_reducible refine (FD.out _ (by exact (by repeat first | (with_reducible assumption) | (with_reducible exact Keep.refl _ _) | (with_reducible refine Keep.alloc ?_ _) | (with_reducible refine Keep.drew ?_) | (with_reducible refine Keep.drewN ?_ _) | (with_reducible refine Keep.setCell ?_ (.inl (by first | omega | (simp; done) | (simp; omega) | fail)) _)))).mono ?_); rintro e w4 ⟨rfl, hk4⟩; have k4 : Keep (fun _ => False) w2 w4 := Keep.trans (T := fun _ => False) (by exact (by repeat first | (with_reducible assumption) | (with_reducible exact Keep.refl _ _) | (with_reducible refine Keep.alloc ?_ _) | (with_reducible refine Keep.drew ?_) | (with_reducible refine Keep.drewN ?_ _) | (with_reducible refine Keep.setCell ?_ (.inl (by first | omega | (simp; done) | (simp; omega) | fail)) _))) hk4 (fun _ _ h => h); have sx := SX.out w4 k4; have SX4 := Lib.hid (And.intro sx (H2.out.2.2.trans k4 (fun _ _ h => h))); have cc := cells2 sx.2; obtain ⟨q0, q1, qf⟩ := cc; clear hk4 sx)
            | fail)
          all_goals
            go_wp2_with fail
            go_meet
            exact ⟨rfl, Lib.hid ⟨((Keep.setCell (p := ⟨wr.heap.size + 1, 1, none⟩) (Keep.setCell (p := ⟨wr.heap.size + 1, 0, none⟩) (Keep.refl (fun b => b = wr.heap.size + 1) w4) (.inr rfl) _) (.inr rfl) _).block wr.heap.size (Array.getElem?_eq_some_iff.1 SX4.out.1.1).1 (fun h => by omega)).trans SX4.out.1.1, heap_twoJ SX4.out.1.2 _ _, Keep.setCell (Keep.setCell SX4.out.2 (.inl (by simp)) _) (.inl (by simp)) _⟩⟩
        case rest =>
          obtain ⟨rfl, hwx⟩ := hcut
          go_upto_region 8 with fail
          refine wp_world (S := fun X => X.heap[wr.heap.size]? = some (.cells #[.int .i64 x.do_, .bool x.loc, .int .i64 x.idx, .int .i64 x.gen, .int .i64 x.comp, .slice A1 x.l.length c1] 37 (0, 0)) ∧ X.heap[wr.heap.size + 1]? = some (.cells #[.int .i64 y.ix, .int .i64 y.gen] 27 (0, 0)) ∧ Keep (fun _ => False) wr X) hwx.out ?_
          rintro wx hwx2
          clear hwx
          have hwx := Lib.hid hwx2
          clear hwx2
          have KX := Lib.hid hwx.out.2.2
          clear y0 y1 y2 y3 y4 y5 yf z0 z1 zf
          obtain ⟨y0, y1, y2, y3, y4, y5, yf⟩ := cells6 hwx.out.1
          obtain ⟨z0, z1, zf⟩ := cells2 hwx.out.2.1
          clear hloc
          cases ok with
          | true =>
            have NP := Lib.hid (show pre (allT step s l j).1 x y from by
              have h := HG.out.2.2 j x HX.out
              rw [YO.out] at h
              exact h (fun e => by cases e.1))
            have ON := Lib.hid (show ∀ X, Keep (fun _ => False) wr X → Calls Tryd.prog 18 #[iv, .agg #[.int .i64 x.do_, .bool x.loc, .int .i64 x.idx, .int .i64 x.gen, .int .i64 x.comp, .slice A1 x.l.length c1], .agg #[.int .i64 y.ix, .int .i64 y.gen]] X fun e w' => e = .returned (.agg #[.int .i64 (step (allT step s l j).1 x y).2.err, .int .i64 (step (allT step s l j).1 x y).2.id.ix, .int .i64 (step (allT step s l j).1 x y).2.id.gen]) ∧ ∃ F', inv (step (allT step s l j).1 x y).1 F' w' ∧ Keep F1 X w' ∧ ∀ b, F' b → F1 b ∨ X.heap.size ≤ b from fun X hk => HD.out.one _ F1 X x _ y (fun b => G b ∧ b < w.heap.size) (HD.out.keep _ _ _ _ _ hin.out hk (fun _ _ h => h) (fun _ h => h.elim)) NP.out (By.keep HDT.out hk (fun _ _ _ h => h)) (fun b h e => by
              rcases hF1.out b e with e | e
              · exact HG.out.1 b h.1 e
              · have := h.2; omega))
            rw [l1] at ON
            have NX := Lib.hid (show allT step s l (j + 1) = ((step (allT step s l j).1 x y).1, (allT step s l j).2 ++ [(step (allT step s l j).1 x y).2]) from by
              rw [allT_next step HX.out, YO.out]
              exact if_neg (fun h => by cases h.1))
            have kx := KX.out
            go_wp2_with fail
            with_reducible refine (ON.out _ (by exact (by repeat first | (with_reducible assumption) | (with_reducible exact Keep.refl _ _) | (with_reducible refine Keep.alloc ?_ _) | (with_reducible refine Keep.drew ?_) | (with_reducible refine Keep.drewN ?_ _) | (with_reducible refine Keep.setCell ?_ (.inl (by first | omega | (simp; done) | (simp; omega) | fail)) _)))).mono ?_
            rintro e w5 ⟨rfl, F2, hi5, hk5, hf5⟩
            have k5 : Keep F1 wr w5 := Keep.trans (T := F1) (S := F1) ((show Keep (fun _ => False) wr wx from kx).mono (fun _ _ h => h.elim)) (by exact hk5) (fun _ _ h => h)
            have hf5' : ∀ b, F2 b → F1 b ∨ wr.heap.size ≤ b := fun b h => (hf5 b h).imp_right (fun h => Nat.le_trans kx.size h)
            have O5 := Lib.hid (ho.out.keep k5 (fun b e h => hoF.out b e h))
            have I5 := Lib.hid hi5
            have L5 := Lib.hid (HD.out.lt _ _ _ hi5)
            have NO5 := Lib.hid (show ∀ b, ownB (Value.slice A2 j c2) = some b → ¬ F2 b from fun b e h => by
              rcases hf5' b h with h | h
              · exact hoF.out b e h
              · have := (ho.out.ownB b e).2; omega)
            have K5 := Lib.hid (show Keep F w w5 from hkw.out.trans k5 (fun b hb h => (hF1.out b h).elim id (fun h => by omega)))
            have F5 := Lib.hid (show ∀ b, F2 b → F b ∨ w.heap.size ≤ b from fun b h => (hf5' b h).elim (hF1.out b) (fun h => .inr (by omega)))
            have zz5 := K5.out.size
            clear hi5 hk5 hf5 hf5' k5
            generalize hel : (step (allT step s l j).1 x y).2 = el at *
            go_wp2_with (first
              | (at_builtin; refine wpList_rs2 (by rfl) _ _ (by rfl) w.heap.size _ j (allT step s l j).2 (allT_len step j (by rw [HN.out]; omega)) (by rfl) (O5.out.keep (S := fun _ => False) (by exact (by repeat first | (with_reducible assumption) | (with_reducible exact Keep.refl _ _) | (with_reducible refine Keep.alloc ?_ _) | (with_reducible refine Keep.drew ?_) | (with_reducible refine Keep.drewN ?_ _) | (with_reducible refine Keep.setCell ?_ (.inl (by first | omega | (simp; done) | (simp; omega) | fail)) _))) (fun _ _ h => h)) w5.heap.size 1 el (by rfl) (by first | with_reducible rfl | simp) (by first | with_reducible rfl | simp) (by first | with_reducible rfl | simp) (by omega) (by simp; omega) ?_)
              | fail)
            intro A6 c6 w6 ho6 hk6 hn6
            have k56 : Keep (fun b => ownB (Value.slice A2 j c2) = some b) w5 w6 := Keep.trans (T := fun b => ownB (Value.slice A2 j c2) = some b) (S := fun b => ownB (Value.slice A2 j c2) = some b) (by exact (by repeat first | (with_reducible assumption) | (with_reducible exact Keep.refl _ _) | (with_reducible refine Keep.alloc ?_ _) | (with_reducible refine Keep.drew ?_) | (with_reducible refine Keep.drewN ?_ _) | (with_reducible refine Keep.setCell ?_ (.inl (by first | omega | (simp; done) | (simp; omega) | fail)) _))) hk6 (fun _ _ h => h)
            have R1 := Lib.hid (show Own w6 w.heap.size 33 3 (.slice A6 (j + 1) c6) (j + 1) ((allT step s l (j + 1)).2.flatMap rsC) from by rw [NX.out]; show Own w6 w.heap.size 33 3 (.slice A6 (j + 1) c6) (j + 1) (List.flatMap rsC ((allT step s l j).2 ++ [_])); rw [List.flatMap_append]; simpa using ho6)
            have R2 := Lib.hid (show inv (allT step s l (j + 1)).1 F2 w6 from by rw [NX.out]; exact HD.out.keep _ _ _ _ _ I5.out k56 (fun b h e => NO5.out b e h) (fun b e => Nat.le_trans hlo (O5.out.ownB b e).1))
            have R3 := Lib.hid (show Keep F w w6 from K5.out.trans k56 (fun b hb e => by have := (O5.out.ownB b e).1; omega))
            have R4 := Lib.hid (show ∀ b, ownB (Value.slice A6 (j + 1) c6) = some b → ¬ F2 b from fun b e h => by
              rcases hn6 b e with e2 | e2
              · exact NO5.out b e2 h
              · have := L5.out b h
                (try simp at e2); omega)
            clear ho6 hk6 hn6 k56
            go_wp2
            go_roundw
            case rel => exact ⟨j + 1, A6, c6, F2, by omega, by go_num, rfl, R1, R2, R3, F5, R4⟩
            case measure => simp [intOf]; omega
          | false =>
            by_cases hbad : 0 ≤ x.do_ ∧ x.do_ ≤ 3
            · have d1 : (0 : Int) ≤ x.do_ := hbad.1
              have d2 : x.do_ ≤ (3 : Int) := hbad.2
              have NX := Lib.hid (show allT step s l (j + 1) = ((allT step s l j).1, (allT step s l j).2 ++ [⟨10, ⟨0, 0⟩⟩]) from by
                rw [allT_next step HX.out, YO.out]
                exact if_pos ⟨rfl, hbad⟩)
              have kx := KX.out
              have O5 := Lib.hid (show Own wx w.heap.size 33 3 (.slice A2 j c2) j ((allT step s l j).2.flatMap rsC) from ho.out.keep kx (fun _ _ h => h))
              have hzx := kx.size
              go_wp2_with (first
                | (at_builtin; refine wpList_rs2 (by rfl) _ _ (by rfl) w.heap.size _ j (allT step s l j).2 (allT_len step j (by rw [HN.out]; omega)) (by rfl) (O5.out.keep (S := fun _ => False) (by exact (by repeat first | (with_reducible assumption) | (with_reducible exact Keep.refl _ _) | (with_reducible refine Keep.alloc ?_ _) | (with_reducible refine Keep.drew ?_) | (with_reducible refine Keep.drewN ?_ _) | (with_reducible refine Keep.setCell ?_ (.inl (by first | omega | (simp; done) | (simp; omega) | fail)) _))) (fun _ _ h => h)) wx.heap.size 1 ⟨10, ⟨0, 0⟩⟩ (by rfl) (by first | with_reducible rfl | simp) (by first | with_reducible rfl | simp) (by first | with_reducible rfl | simp) (by omega) (by simp; omega) ?_)
                | fail)
              intro A6 c6 w6 ho6 hk6 hn6
              have k56 : Keep (fun b => ownB (Value.slice A2 j c2) = some b) wr w6 := Keep.trans (T := fun b => ownB (Value.slice A2 j c2) = some b) (S := fun b => ownB (Value.slice A2 j c2) = some b) (by exact (show Keep (fun _ => False) wr wx from kx).mono (fun _ _ h => h.elim)) (Keep.trans (T := fun b => ownB (Value.slice A2 j c2) = some b) (S := fun b => ownB (Value.slice A2 j c2) = some b) (by exact (by repeat first | (with_reducible assumption) | (with_reducible exact Keep.refl _ _) | (with_reducible refine Keep.alloc ?_ _) | (with_reducible refine Keep.drew ?_) | (with_reducible refine Keep.drewN ?_ _) | (with_reducible refine Keep.setCell ?_ (.inl (by first | omega | (simp; done) | (simp; omega) | fail)) _))) hk6 (fun _ _ h => h)) (fun _ _ h => h)
              have R1 := Lib.hid (show Own w6 w.heap.size 33 3 (.slice A6 (j + 1) c6) (j + 1) ((allT step s l (j + 1)).2.flatMap rsC) from by rw [NX.out]; show Own w6 w.heap.size 33 3 (.slice A6 (j + 1) c6) (j + 1) (List.flatMap rsC ((allT step s l j).2 ++ [_])); rw [List.flatMap_append]; simpa using ho6)
              have R2 := Lib.hid (show inv (allT step s l (j + 1)).1 F1 w6 from by rw [NX.out]; exact HD.out.keep _ _ _ _ _ hin.out k56 (fun b h e => hoF.out b e h) (fun b e => Nat.le_trans hlo (ho.out.ownB b e).1))
              have R3 := Lib.hid (show Keep F w w6 from hkw.out.trans k56 (fun b hb e => by have := (ho.out.ownB b e).1; omega))
              have R4 := Lib.hid (show ∀ b, ownB (Value.slice A6 (j + 1) c6) = some b → ¬ F1 b from fun b e h => by
                rcases hn6 b e with e2 | e2
                · exact hoF.out b e2 h
                · have := HD.out.lt _ _ _ hin.out b h
                  (try simp at e2); omega)
              clear ho6 hk6 hn6 k56
              go_wp2
              go_roundw
              case rel => exact ⟨j + 1, A6, c6, F1, by omega, by go_num, rfl, R1, R2, R3, hF1, R4⟩
              case measure => simp [intOf]; omega
            · have NP := Lib.hid (show pre (allT step s l j).1 x y from by
                have h := HG.out.2.2 j x HX.out
                rw [YO.out] at h
                exact h (fun e => hbad e.2))
              have ON := Lib.hid (show ∀ X, Keep (fun _ => False) wr X → Calls Tryd.prog 18 #[iv, .agg #[.int .i64 x.do_, .bool x.loc, .int .i64 x.idx, .int .i64 x.gen, .int .i64 x.comp, .slice A1 x.l.length c1], .agg #[.int .i64 y.ix, .int .i64 y.gen]] X fun e w' => e = .returned (.agg #[.int .i64 (step (allT step s l j).1 x y).2.err, .int .i64 (step (allT step s l j).1 x y).2.id.ix, .int .i64 (step (allT step s l j).1 x y).2.id.gen]) ∧ ∃ F', inv (step (allT step s l j).1 x y).1 F' w' ∧ Keep F1 X w' ∧ ∀ b, F' b → F1 b ∨ X.heap.size ≤ b from fun X hk => HD.out.one _ F1 X x _ y (fun b => G b ∧ b < w.heap.size) (HD.out.keep _ _ _ _ _ hin.out hk (fun _ _ h => h) (fun _ h => h.elim)) NP.out (By.keep HDT.out hk (fun _ _ _ h => h)) (fun b h e => by
                rcases hF1.out b e with e | e
                · exact HG.out.1 b h.1 e
                · have := h.2; omega))
              rw [l1] at ON
              have NX := Lib.hid (show allT step s l (j + 1) = ((step (allT step s l j).1 x y).1, (allT step s l j).2 ++ [(step (allT step s l j).1 x y).2]) from by
                rw [allT_next step HX.out, YO.out]
                exact if_neg (fun h => hbad h.2))
              by_cases d1 : (0 : Int) ≤ x.do_
              · have d2 : ¬ x.do_ ≤ (3 : Int) := fun h => hbad ⟨d1, h⟩

                have kx := KX.out
                go_wp2_with fail
                with_reducible refine (ON.out _ (by exact (by repeat first | (with_reducible assumption) | (with_reducible exact Keep.refl _ _) | (with_reducible refine Keep.alloc ?_ _) | (with_reducible refine Keep.drew ?_) | (with_reducible refine Keep.drewN ?_ _) | (with_reducible refine Keep.setCell ?_ (.inl (by first | omega | (simp; done) | (simp; omega) | fail)) _)))).mono ?_
                rintro e w5 ⟨rfl, F2, hi5, hk5, hf5⟩
                have k5 : Keep F1 wr w5 := Keep.trans (T := F1) (S := F1) ((show Keep (fun _ => False) wr wx from kx).mono (fun _ _ h => h.elim)) (by exact hk5) (fun _ _ h => h)
                have hf5' : ∀ b, F2 b → F1 b ∨ wr.heap.size ≤ b := fun b h => (hf5 b h).imp_right (fun h => Nat.le_trans kx.size h)
                have O5 := Lib.hid (ho.out.keep k5 (fun b e h => hoF.out b e h))
                have I5 := Lib.hid hi5
                have L5 := Lib.hid (HD.out.lt _ _ _ hi5)
                have NO5 := Lib.hid (show ∀ b, ownB (Value.slice A2 j c2) = some b → ¬ F2 b from fun b e h => by
                  rcases hf5' b h with h | h
                  · exact hoF.out b e h
                  · have := (ho.out.ownB b e).2; omega)
                have K5 := Lib.hid (show Keep F w w5 from hkw.out.trans k5 (fun b hb h => (hF1.out b h).elim id (fun h => by omega)))
                have F5 := Lib.hid (show ∀ b, F2 b → F b ∨ w.heap.size ≤ b from fun b h => (hf5' b h).elim (hF1.out b) (fun h => .inr (by omega)))
                have zz5 := K5.out.size
                clear hi5 hk5 hf5 hf5' k5
                generalize hel : (step (allT step s l j).1 x y).2 = el at *
                go_wp2_with (first
                  | (at_builtin; refine wpList_rs2 (by rfl) _ _ (by rfl) w.heap.size _ j (allT step s l j).2 (allT_len step j (by rw [HN.out]; omega)) (by rfl) (O5.out.keep (S := fun _ => False) (by exact (by repeat first | (with_reducible assumption) | (with_reducible exact Keep.refl _ _) | (with_reducible refine Keep.alloc ?_ _) | (with_reducible refine Keep.drew ?_) | (with_reducible refine Keep.drewN ?_ _) | (with_reducible refine Keep.setCell ?_ (.inl (by first | omega | (simp; done) | (simp; omega) | fail)) _))) (fun _ _ h => h)) w5.heap.size 1 el (by rfl) (by first | with_reducible rfl | simp) (by first | with_reducible rfl | simp) (by first | with_reducible rfl | simp) (by omega) (by simp; omega) ?_)
                  | fail)
                intro A6 c6 w6 ho6 hk6 hn6
                have k56 : Keep (fun b => ownB (Value.slice A2 j c2) = some b) w5 w6 := Keep.trans (T := fun b => ownB (Value.slice A2 j c2) = some b) (S := fun b => ownB (Value.slice A2 j c2) = some b) (by exact (by repeat first | (with_reducible assumption) | (with_reducible exact Keep.refl _ _) | (with_reducible refine Keep.alloc ?_ _) | (with_reducible refine Keep.drew ?_) | (with_reducible refine Keep.drewN ?_ _) | (with_reducible refine Keep.setCell ?_ (.inl (by first | omega | (simp; done) | (simp; omega) | fail)) _))) hk6 (fun _ _ h => h)
                have R1 := Lib.hid (show Own w6 w.heap.size 33 3 (.slice A6 (j + 1) c6) (j + 1) ((allT step s l (j + 1)).2.flatMap rsC) from by rw [NX.out]; show Own w6 w.heap.size 33 3 (.slice A6 (j + 1) c6) (j + 1) (List.flatMap rsC ((allT step s l j).2 ++ [_])); rw [List.flatMap_append]; simpa using ho6)
                have R2 := Lib.hid (show inv (allT step s l (j + 1)).1 F2 w6 from by rw [NX.out]; exact HD.out.keep _ _ _ _ _ I5.out k56 (fun b h e => NO5.out b e h) (fun b e => Nat.le_trans hlo (O5.out.ownB b e).1))
                have R3 := Lib.hid (show Keep F w w6 from K5.out.trans k56 (fun b hb e => by have := (O5.out.ownB b e).1; omega))
                have R4 := Lib.hid (show ∀ b, ownB (Value.slice A6 (j + 1) c6) = some b → ¬ F2 b from fun b e h => by
                  rcases hn6 b e with e2 | e2
                  · exact NO5.out b e2 h
                  · have := L5.out b h
                    (try simp at e2); omega)
                clear ho6 hk6 hn6 k56
                go_wp2
                go_roundw
                case rel => exact ⟨j + 1, A6, c6, F2, by omega, by go_num, rfl, R1, R2, R3, F5, R4⟩
                case measure => simp [intOf]; omega
              · have kx := KX.out
                go_wp2_with fail
                with_reducible refine (ON.out _ (by exact (by repeat first | (with_reducible assumption) | (with_reducible exact Keep.refl _ _) | (with_reducible refine Keep.alloc ?_ _) | (with_reducible refine Keep.drew ?_) | (with_reducible refine Keep.drewN ?_ _) | (with_reducible refine Keep.setCell ?_ (.inl (by first | omega | (simp; done) | (simp; omega) | fail)) _)))).mono ?_
                rintro e w5 ⟨rfl, F2, hi5, hk5, hf5⟩
                have k5 : Keep F1 wr w5 := Keep.trans (T := F1) (S := F1) ((show Keep (fun _ => False) wr wx from kx).mono (fun _ _ h => h.elim)) (by exact hk5) (fun _ _ h => h)
                have hf5' : ∀ b, F2 b → F1 b ∨ wr.heap.size ≤ b := fun b h => (hf5 b h).imp_right (fun h => Nat.le_trans kx.size h)
                have O5 := Lib.hid (ho.out.keep k5 (fun b e h => hoF.out b e h))
                have I5 := Lib.hid hi5
                have L5 := Lib.hid (HD.out.lt _ _ _ hi5)
                have NO5 := Lib.hid (show ∀ b, ownB (Value.slice A2 j c2) = some b → ¬ F2 b from fun b e h => by
                  rcases hf5' b h with h | h
                  · exact hoF.out b e h
                  · have := (ho.out.ownB b e).2; omega)
                have K5 := Lib.hid (show Keep F w w5 from hkw.out.trans k5 (fun b hb h => (hF1.out b h).elim id (fun h => by omega)))
                have F5 := Lib.hid (show ∀ b, F2 b → F b ∨ w.heap.size ≤ b from fun b h => (hf5' b h).elim (hF1.out b) (fun h => .inr (by omega)))
                have zz5 := K5.out.size
                clear hi5 hk5 hf5 hf5' k5
                generalize hel : (step (allT step s l j).1 x y).2 = el at *
                go_wp2_with (first
                  | (at_builtin; refine wpList_rs2 (by rfl) _ _ (by rfl) w.heap.size _ j (allT step s l j).2 (allT_len step j (by rw [HN.out]; omega)) (by rfl) (O5.out.keep (S := fun _ => False) (by exact (by repeat first | (with_reducible assumption) | (with_reducible exact Keep.refl _ _) | (with_reducible refine Keep.alloc ?_ _) | (with_reducible refine Keep.drew ?_) | (with_reducible refine Keep.drewN ?_ _) | (with_reducible refine Keep.setCell ?_ (.inl (by first | omega | (simp; done) | (simp; omega) | fail)) _))) (fun _ _ h => h)) w5.heap.size 1 el (by rfl) (by first | with_reducible rfl | simp) (by first | with_reducible rfl | simp) (by first | with_reducible rfl | simp) (by omega) (by simp; omega) ?_)
                  | fail)
                intro A6 c6 w6 ho6 hk6 hn6
                have k56 : Keep (fun b => ownB (Value.slice A2 j c2) = some b) w5 w6 := Keep.trans (T := fun b => ownB (Value.slice A2 j c2) = some b) (S := fun b => ownB (Value.slice A2 j c2) = some b) (by exact (by repeat first | (with_reducible assumption) | (with_reducible exact Keep.refl _ _) | (with_reducible refine Keep.alloc ?_ _) | (with_reducible refine Keep.drew ?_) | (with_reducible refine Keep.drewN ?_ _) | (with_reducible refine Keep.setCell ?_ (.inl (by first | omega | (simp; done) | (simp; omega) | fail)) _))) hk6 (fun _ _ h => h)
                have R1 := Lib.hid (show Own w6 w.heap.size 33 3 (.slice A6 (j + 1) c6) (j + 1) ((allT step s l (j + 1)).2.flatMap rsC) from by rw [NX.out]; show Own w6 w.heap.size 33 3 (.slice A6 (j + 1) c6) (j + 1) (List.flatMap rsC ((allT step s l j).2 ++ [_])); rw [List.flatMap_append]; simpa using ho6)
                have R2 := Lib.hid (show inv (allT step s l (j + 1)).1 F2 w6 from by rw [NX.out]; exact HD.out.keep _ _ _ _ _ I5.out k56 (fun b h e => NO5.out b e h) (fun b e => Nat.le_trans hlo (O5.out.ownB b e).1))
                have R3 := Lib.hid (show Keep F w w6 from K5.out.trans k56 (fun b hb e => by have := (O5.out.ownB b e).1; omega))
                have R4 := Lib.hid (show ∀ b, ownB (Value.slice A6 (j + 1) c6) = some b → ¬ F2 b from fun b e h => by
                  rcases hn6 b e with e2 | e2
                  · exact NO5.out b e2 h
                  · have := L5.out b h
                    (try simp at e2); omega)
                clear ho6 hk6 hn6 k56
                go_wp2
                go_roundw
                case rel => exact ⟨j + 1, A6, c6, F2, by omega, by go_num, rfl, R1, R2, R3, F5, R4⟩
                case measure => simp [intOf]; omega
      · have YO := Lib.hid (show idOf (l.take j) (allT step s l j).2 x = (⟨x.idx, x.gen⟩, true) from by unfold idOf; rw [if_neg hloc])
        obtain ⟨wx, hwx⟩ : ∃ wx, wx = w2 := ⟨_, rfl⟩
        have KX := Lib.hid (show Keep (fun _ => False) wr wx from by rw [hwx]; exact H2.out.2.2)
        obtain ⟨y, hy⟩ : ∃ y : IdZ, y = ⟨x.idx, x.gen⟩ := ⟨_, rfl⟩
        rw [← hy] at YO
        have hy1 : x.idx = y.ix := by rw [hy]
        have hy2 : x.gen = y.gen := by rw [hy]
        rw [hy1] at z0
        rw [hy2] at z1
        rw [← hwx] at y0 y1 y2 y3 y4 y5 z0 z1 yf zf ⊢
        clear hy hy1 hy2 hwx
        have L0 : (x.loc && (x.do_ != 0)) = false := by
          cases hx1 : x.loc with
          | false => rfl
          | true => simpa [hx1] using fun h => hloc ⟨hx1, h⟩
        by_cases hl0 : x.loc = true
        · have l1 : x.loc = true := hl0
          have l2 : (x.do_ != 0) = false := by simpa [hl0] using L0
          clear hloc L0 hl0
          have NP := Lib.hid (show pre (allT step s l j).1 x y from by
            have h := HG.out.2.2 j x HX.out
            rw [YO.out] at h
            exact h (fun e => by cases e.1))
          have ON := Lib.hid (show ∀ X, Keep (fun _ => False) wr X → Calls Tryd.prog 18 #[iv, .agg #[.int .i64 x.do_, .bool x.loc, .int .i64 x.idx, .int .i64 x.gen, .int .i64 x.comp, .slice A1 x.l.length c1], .agg #[.int .i64 y.ix, .int .i64 y.gen]] X fun e w' => e = .returned (.agg #[.int .i64 (step (allT step s l j).1 x y).2.err, .int .i64 (step (allT step s l j).1 x y).2.id.ix, .int .i64 (step (allT step s l j).1 x y).2.id.gen]) ∧ ∃ F', inv (step (allT step s l j).1 x y).1 F' w' ∧ Keep F1 X w' ∧ ∀ b, F' b → F1 b ∨ X.heap.size ≤ b from fun X hk => HD.out.one _ F1 X x _ y (fun b => G b ∧ b < w.heap.size) (HD.out.keep _ _ _ _ _ hin.out hk (fun _ _ h => h) (fun _ h => h.elim)) NP.out (By.keep HDT.out hk (fun _ _ _ h => h)) (fun b h e => by
            rcases hF1.out b e with e | e
            · exact HG.out.1 b h.1 e
            · have := h.2; omega))
          rw [l1] at ON
          have NX := Lib.hid (show allT step s l (j + 1) = ((step (allT step s l j).1 x y).1, (allT step s l j).2 ++ [(step (allT step s l j).1 x y).2]) from by
            rw [allT_next step HX.out, YO.out]
            exact if_neg (fun h => by cases h.1))
          have kx := KX.out
          go_wp2_with fail
          with_reducible refine (ON.out _ (by exact (by repeat first | (with_reducible assumption) | (with_reducible exact Keep.refl _ _) | (with_reducible refine Keep.alloc ?_ _) | (with_reducible refine Keep.drew ?_) | (with_reducible refine Keep.drewN ?_ _) | (with_reducible refine Keep.setCell ?_ (.inl (by first | omega | (simp; done) | (simp; omega) | fail)) _)))).mono ?_
          rintro e w5 ⟨rfl, F2, hi5, hk5, hf5⟩
          have k5 : Keep F1 wr w5 := Keep.trans (T := F1) (S := F1) ((show Keep (fun _ => False) wr wx from kx).mono (fun _ _ h => h.elim)) (by exact hk5) (fun _ _ h => h)
          have hf5' : ∀ b, F2 b → F1 b ∨ wr.heap.size ≤ b := fun b h => (hf5 b h).imp_right (fun h => Nat.le_trans kx.size h)
          have O5 := Lib.hid (ho.out.keep k5 (fun b e h => hoF.out b e h))
          have I5 := Lib.hid hi5
          have L5 := Lib.hid (HD.out.lt _ _ _ hi5)
          have NO5 := Lib.hid (show ∀ b, ownB (Value.slice A2 j c2) = some b → ¬ F2 b from fun b e h => by
            rcases hf5' b h with h | h
            · exact hoF.out b e h
            · have := (ho.out.ownB b e).2; omega)
          have K5 := Lib.hid (show Keep F w w5 from hkw.out.trans k5 (fun b hb h => (hF1.out b h).elim id (fun h => by omega)))
          have F5 := Lib.hid (show ∀ b, F2 b → F b ∨ w.heap.size ≤ b from fun b h => (hf5' b h).elim (hF1.out b) (fun h => .inr (by omega)))
          have zz5 := K5.out.size
          clear hi5 hk5 hf5 hf5' k5
          generalize hel : (step (allT step s l j).1 x y).2 = el at *
          go_wp2_with (first
            | (at_builtin; refine wpList_rs2 (by rfl) _ _ (by rfl) w.heap.size _ j (allT step s l j).2 (allT_len step j (by rw [HN.out]; omega)) (by rfl) (O5.out.keep (S := fun _ => False) (by exact (by repeat first | (with_reducible assumption) | (with_reducible exact Keep.refl _ _) | (with_reducible refine Keep.alloc ?_ _) | (with_reducible refine Keep.drew ?_) | (with_reducible refine Keep.drewN ?_ _) | (with_reducible refine Keep.setCell ?_ (.inl (by first | omega | (simp; done) | (simp; omega) | fail)) _))) (fun _ _ h => h)) w5.heap.size 1 el (by rfl) (by first | with_reducible rfl | simp) (by first | with_reducible rfl | simp) (by first | with_reducible rfl | simp) (by omega) (by simp; omega) ?_)
            | fail)
          intro A6 c6 w6 ho6 hk6 hn6
          have k56 : Keep (fun b => ownB (Value.slice A2 j c2) = some b) w5 w6 := Keep.trans (T := fun b => ownB (Value.slice A2 j c2) = some b) (S := fun b => ownB (Value.slice A2 j c2) = some b) (by exact (by repeat first | (with_reducible assumption) | (with_reducible exact Keep.refl _ _) | (with_reducible refine Keep.alloc ?_ _) | (with_reducible refine Keep.drew ?_) | (with_reducible refine Keep.drewN ?_ _) | (with_reducible refine Keep.setCell ?_ (.inl (by first | omega | (simp; done) | (simp; omega) | fail)) _))) hk6 (fun _ _ h => h)
          have R1 := Lib.hid (show Own w6 w.heap.size 33 3 (.slice A6 (j + 1) c6) (j + 1) ((allT step s l (j + 1)).2.flatMap rsC) from by rw [NX.out]; show Own w6 w.heap.size 33 3 (.slice A6 (j + 1) c6) (j + 1) (List.flatMap rsC ((allT step s l j).2 ++ [_])); rw [List.flatMap_append]; simpa using ho6)
          have R2 := Lib.hid (show inv (allT step s l (j + 1)).1 F2 w6 from by rw [NX.out]; exact HD.out.keep _ _ _ _ _ I5.out k56 (fun b h e => NO5.out b e h) (fun b e => Nat.le_trans hlo (O5.out.ownB b e).1))
          have R3 := Lib.hid (show Keep F w w6 from K5.out.trans k56 (fun b hb e => by have := (O5.out.ownB b e).1; omega))
          have R4 := Lib.hid (show ∀ b, ownB (Value.slice A6 (j + 1) c6) = some b → ¬ F2 b from fun b e h => by
            rcases hn6 b e with e2 | e2
            · exact NO5.out b e2 h
            · have := L5.out b h
              (try simp at e2); omega)
          clear ho6 hk6 hn6 k56
          go_wp2
          go_roundw
          case rel => exact ⟨j + 1, A6, c6, F2, by omega, by go_num, rfl, R1, R2, R3, F5, R4⟩
          case measure => simp [intOf]; omega
        · have l1 : x.loc = false := by simpa using hl0
          clear hloc L0 hl0
          have NP := Lib.hid (show pre (allT step s l j).1 x y from by
            have h := HG.out.2.2 j x HX.out
            rw [YO.out] at h
            exact h (fun e => by cases e.1))
          have ON := Lib.hid (show ∀ X, Keep (fun _ => False) wr X → Calls Tryd.prog 18 #[iv, .agg #[.int .i64 x.do_, .bool x.loc, .int .i64 x.idx, .int .i64 x.gen, .int .i64 x.comp, .slice A1 x.l.length c1], .agg #[.int .i64 y.ix, .int .i64 y.gen]] X fun e w' => e = .returned (.agg #[.int .i64 (step (allT step s l j).1 x y).2.err, .int .i64 (step (allT step s l j).1 x y).2.id.ix, .int .i64 (step (allT step s l j).1 x y).2.id.gen]) ∧ ∃ F', inv (step (allT step s l j).1 x y).1 F' w' ∧ Keep F1 X w' ∧ ∀ b, F' b → F1 b ∨ X.heap.size ≤ b from fun X hk => HD.out.one _ F1 X x _ y (fun b => G b ∧ b < w.heap.size) (HD.out.keep _ _ _ _ _ hin.out hk (fun _ _ h => h) (fun _ h => h.elim)) NP.out (By.keep HDT.out hk (fun _ _ _ h => h)) (fun b h e => by
            rcases hF1.out b e with e | e
            · exact HG.out.1 b h.1 e
            · have := h.2; omega))
          rw [l1] at ON
          have NX := Lib.hid (show allT step s l (j + 1) = ((step (allT step s l j).1 x y).1, (allT step s l j).2 ++ [(step (allT step s l j).1 x y).2]) from by
            rw [allT_next step HX.out, YO.out]
            exact if_neg (fun h => by cases h.1))
          have kx := KX.out
          go_wp2_with fail
          with_reducible refine (ON.out _ (by exact (by repeat first | (with_reducible assumption) | (with_reducible exact Keep.refl _ _) | (with_reducible refine Keep.alloc ?_ _) | (with_reducible refine Keep.drew ?_) | (with_reducible refine Keep.drewN ?_ _) | (with_reducible refine Keep.setCell ?_ (.inl (by first | omega | (simp; done) | (simp; omega) | fail)) _)))).mono ?_
          rintro e w5 ⟨rfl, F2, hi5, hk5, hf5⟩
          have k5 : Keep F1 wr w5 := Keep.trans (T := F1) (S := F1) ((show Keep (fun _ => False) wr wx from kx).mono (fun _ _ h => h.elim)) (by exact hk5) (fun _ _ h => h)
          have hf5' : ∀ b, F2 b → F1 b ∨ wr.heap.size ≤ b := fun b h => (hf5 b h).imp_right (fun h => Nat.le_trans kx.size h)
          have O5 := Lib.hid (ho.out.keep k5 (fun b e h => hoF.out b e h))
          have I5 := Lib.hid hi5
          have L5 := Lib.hid (HD.out.lt _ _ _ hi5)
          have NO5 := Lib.hid (show ∀ b, ownB (Value.slice A2 j c2) = some b → ¬ F2 b from fun b e h => by
            rcases hf5' b h with h | h
            · exact hoF.out b e h
            · have := (ho.out.ownB b e).2; omega)
          have K5 := Lib.hid (show Keep F w w5 from hkw.out.trans k5 (fun b hb h => (hF1.out b h).elim id (fun h => by omega)))
          have F5 := Lib.hid (show ∀ b, F2 b → F b ∨ w.heap.size ≤ b from fun b h => (hf5' b h).elim (hF1.out b) (fun h => .inr (by omega)))
          have zz5 := K5.out.size
          clear hi5 hk5 hf5 hf5' k5
          generalize hel : (step (allT step s l j).1 x y).2 = el at *
          go_wp2_with (first
            | (at_builtin; refine wpList_rs2 (by rfl) _ _ (by rfl) w.heap.size _ j (allT step s l j).2 (allT_len step j (by rw [HN.out]; omega)) (by rfl) (O5.out.keep (S := fun _ => False) (by exact (by repeat first | (with_reducible assumption) | (with_reducible exact Keep.refl _ _) | (with_reducible refine Keep.alloc ?_ _) | (with_reducible refine Keep.drew ?_) | (with_reducible refine Keep.drewN ?_ _) | (with_reducible refine Keep.setCell ?_ (.inl (by first | omega | (simp; done) | (simp; omega) | fail)) _))) (fun _ _ h => h)) w5.heap.size 1 el (by rfl) (by first | with_reducible rfl | simp) (by first | with_reducible rfl | simp) (by first | with_reducible rfl | simp) (by omega) (by simp; omega) ?_)
            | fail)
          intro A6 c6 w6 ho6 hk6 hn6
          have k56 : Keep (fun b => ownB (Value.slice A2 j c2) = some b) w5 w6 := Keep.trans (T := fun b => ownB (Value.slice A2 j c2) = some b) (S := fun b => ownB (Value.slice A2 j c2) = some b) (by exact (by repeat first | (with_reducible assumption) | (with_reducible exact Keep.refl _ _) | (with_reducible refine Keep.alloc ?_ _) | (with_reducible refine Keep.drew ?_) | (with_reducible refine Keep.drewN ?_ _) | (with_reducible refine Keep.setCell ?_ (.inl (by first | omega | (simp; done) | (simp; omega) | fail)) _))) hk6 (fun _ _ h => h)
          have R1 := Lib.hid (show Own w6 w.heap.size 33 3 (.slice A6 (j + 1) c6) (j + 1) ((allT step s l (j + 1)).2.flatMap rsC) from by rw [NX.out]; show Own w6 w.heap.size 33 3 (.slice A6 (j + 1) c6) (j + 1) (List.flatMap rsC ((allT step s l j).2 ++ [_])); rw [List.flatMap_append]; simpa using ho6)
          have R2 := Lib.hid (show inv (allT step s l (j + 1)).1 F2 w6 from by rw [NX.out]; exact HD.out.keep _ _ _ _ _ I5.out k56 (fun b h e => NO5.out b e h) (fun b e => Nat.le_trans hlo (O5.out.ownB b e).1))
          have R3 := Lib.hid (show Keep F w w6 from K5.out.trans k56 (fun b hb e => by have := (O5.out.ownB b e).1; omega))
          have R4 := Lib.hid (show ∀ b, ownB (Value.slice A6 (j + 1) c6) = some b → ¬ F2 b from fun b e h => by
            rcases hn6 b e with e2 | e2
            · exact NO5.out b e2 h
            · have := L5.out b h
              (try simp at e2); omega)
          clear ho6 hk6 hn6 k56
          go_wp2
          go_roundw
          case rel => exact ⟨j + 1, A6, c6, F2, by omega, by go_num, rfl, R1, R2, R3, F5, R4⟩
          case measure => simp [intOf]; omega
    · obtain rfl : j = n := by omega
      have f1 : ¬ (j : Int) < (j : Int) := by omega
      go_wp2
      go_ret
      exact ⟨A2, c2, F1, rfl, ho.out, hin.out, hkw.out, hF1.out, hoF.out⟩
end
end Go.Proofs.YtglliendhbkkhaaDoor

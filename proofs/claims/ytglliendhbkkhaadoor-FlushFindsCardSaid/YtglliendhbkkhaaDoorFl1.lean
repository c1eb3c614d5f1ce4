/- Results in memory; contracts of flush.Find, vivariumref15.Find, flush.Core of a core that is nil. -/
import Derived.Test.YtglliendhbkkhaaDoorFrm1
import Derived.Test.YtglliendhbkkhaaDoorIds1
namespace Go.Proofs.YtglliendhbkkhaaDoor
open Go.ChangeShapes Go.WideShapes Go.ChangeAt Go.RowKit
set_option maxRecDepth 100000
set_option linter.unusedVariables false
set_option linter.unusedSimpArgs false

/-- What came of a command. -/
structure RsZ where
  err : Int
  id : IdZ
deriving DecidableEq, Inhabited
def rsC (x : RsZ) : List Value := [.int .i64 x.err, .int .i64 x.id.ix, .int .i64 x.id.gen]
theorem rsC_len (x : RsZ) : (rsC x).length = 3 := rfl
theorem rsC_one (l : List RsZ) : ∀ u ∈ l.flatMap rsC, u.oneCell' = true := fun u hu => by
  obtain ⟨x, _, hx⟩ := List.mem_flatMap.1 hu
  simp only [rsC, List.mem_cons, List.not_mem_nil, or_false] at hx
  rcases hx with rfl | rfl | rfl <;> rfl
theorem argRss {H : Type} {enc : TypeId × Value → H} {w : World} {base : Nat} {spare : Nat → Bool} {held : Bool} {A : Option Addr} {len cap : Nat} {d : DataW H} {p : List MemPlace}
    (h : DataW.Trod enc Tryd.prog w base spare held 23 (.slice A len cap) d p) : ∃ l : List RsZ, l.length = len ∧ Sl w (fun _ => True) 3 (.slice A len cap) l.length (l.flatMap rsC) := by
  haveI : Inhabited RsZ := ⟨⟨0, ⟨0, 0⟩⟩⟩
  have cl : Tryd.prog.cellsOf 33 = 3 := by kernel_rfl
  have ci : Tryd.prog.cellsOf 3 = 1 := by kernel_rfl
  have ce : Tryd.prog.cellsOf 31 = 1 := by kernel_rfl
  have cd : Tryd.prog.cellsOf 27 = 2 := by kernel_rfl
  obtain ⟨l, g1, g2, g3, rfl, g5, g6⟩ := argSt (f := rsC) (ok := fun _ => True) rsC_len (by decide) Tryd.underlying23 cl (fun n cs x hl hx => by
    match cs, hl with
    | [c0, c1, c2], _ =>
      obtain ⟨xs, m, _, _, _, hlen, hf⟩ := DataW.trod_struct Tryd.underlying33 hx
      match xs, hlen with
      | [y0, y1], _ =>
        have h0 : DataW.trod enc Tryd.prog w base spare held m 31 [c0] = some y0 := by simpa [ce] using hf 0 _ rfl
        have h1 : DataW.trod enc Tryd.prog w base spare held m 27 [c1, c2] = some y1 := by simpa [cd] using hf 1 _ rfl
        obtain ⟨a0, e0, _, w0⟩ := DataW.trod_int Tryd.underlying31 h0
        obtain ⟨xs2, m2, _, _, _, hlen2, hf2⟩ := DataW.trod_struct Tryd.underlying27 h1
        match xs2, hlen2 with
        | [z0, z1], _ =>
          have k0 : DataW.trod enc Tryd.prog w base spare held m2 3 [c1] = some z0 := by simpa [ci] using hf2 0 _ rfl
          have k1 : DataW.trod enc Tryd.prog w base spare held m2 3 [c2] = some z1 := by simpa [ci] using hf2 1 _ rfl
          obtain ⟨a1, e1, _, w1⟩ := DataW.trod_int Tryd.underlying3 k0
          obtain ⟨a2, e2, _, w2⟩ := DataW.trod_int Tryd.underlying3 k1
          simp at e0 e1 e2
          subst e0 e1 e2
          exact ⟨⟨a0, ⟨a1, a2⟩⟩, rfl, trivial⟩) h
  exact ⟨l, rfl, A, cap, rfl, g1, g2, g6, g3⟩
theorem flat_atRs {l : List RsZ} {k : Nat} (h : k < l.length) : (l.flatMap rsC)[k * 3]? = some (.int .i64 (l.getD k default).err) ∧ (l.flatMap rsC)[k * 3 + 1]? = some (.int .i64 (l.getD k default).id.ix) ∧ (l.flatMap rsC)[k * 3 + 2]? = some (.int .i64 (l.getD k default).id.gen) := by
  have hx : l[k]? = some (l.getD k default) := by rw [List.getD_eq_getElem?_getD, List.getElem?_eq_getElem h]; rfl
  exact ⟨flat_at (f := rsC) (m := 3) (j := 0) rsC_len hx rfl, flat_at (f := rsC) (m := 3) (j := 1) rsC_len hx rfl, flat_at (f := rsC) (m := 3) (j := 2) rsC_len hx rfl⟩
theorem rs_at {w : World} {F : Nat → Prop} {A : Option Addr} {n c k : Nat} {l : List RsZ} (h : Sl w F 3 (.slice A n c) n (l.flatMap rsC)) (hl : l.length = n) (hk : k < n) :
    ∃ b off, A = some ⟨b, off, none⟩ ∧ F b ∧ w.cell? ⟨b, off + k * 3, none⟩ = some (.int .i64 (l.getD k default).err) ∧ w.cell? ⟨b, off + k * 3 + 1, none⟩ = some (.int .i64 (l.getD k default).id.ix) ∧ w.cell? ⟨b, off + k * 3 + 2, none⟩ = some (.int .i64 (l.getD k default).id.gen) := by
  obtain ⟨A9, c9, e9, _, _, _, hr⟩ := h
  injection e9 with e91 e92 e93
  subst e91
  obtain ⟨b, o, rfl, hF, hc⟩ := hr.2 (by omega)
  obtain ⟨h1, h2, h3⟩ := flat_atRs (l := l) (k := k) (by omega)
  exact ⟨b, o, rfl, hF, hc _ _ h1, by have := hc _ _ h2; rwa [← Nat.add_assoc] at this, by have := hc _ _ h3; rwa [← Nat.add_assoc] at this⟩
/-- A result's name. -/
def foundF (x : RsZ) : IdZ × Bool := if x.err ≠ 0 then (⟨0, 0⟩, false) else (x.id, true)
theorem fl_found (x : RsZ) (w : World) : Calls Tryd.prog 11 #[.agg #[.int .i64 x.err, .int .i64 x.id.ix, .int .i64 x.id.gen]] w fun e w' => e = .returned (.tuple #[.agg #[.int .i64 (foundF x).1.ix, .int .i64 (foundF x).1.gen], .bool (foundF x).2]) ∧ Keep (fun _ => False) w w' := by
  obtain ⟨er, ⟨ix, gn⟩⟩ := x
  simp only
  have HB := Lib.hid (heap_alloc_at (w.alloc (.cells #[.int .i64 er, .int .i64 ix, .int .i64 gn] 33 (0, 0))) (.cells #[.int .i64 0, .int .i64 0] 27 (0, 0)) (w.heap.size + 1) (by simp))
  have HR := Lib.hid ((((Keep.refl (fun _ => False) (w.alloc (.cells #[.int .i64 er, .int .i64 ix, .int .i64 gn] 33 (0, 0)))).alloc (.cells #[.int .i64 0, .int .i64 0] 27 (0, 0))).block w.heap.size (by simp) (fun h => h)).trans (heap_alloc_new w _))
  obtain ⟨r0, r1, r2, rf⟩ := cells3 HR.out
  obtain ⟨b0, b1, bf⟩ := cells2 HB.out
  by_cases h : er = 0
  · subst h
    have e1 : foundF ⟨0, ⟨ix, gn⟩⟩ = (⟨ix, gn⟩, true) := by unfold foundF; rw [if_neg (by simp)]
    rw [e1]
    clear e1
    go_enter Tryd.func11, Tryd.ntmps11
    go_wp2
    refine bodyPost_ret (results_idb Tryd.results11 _ _ (w.heap.size + 1) (.int .i64 ix) (.int .i64 gn) ?_ ?_ (.bool true) ?_) ?_ ⟨?_, ?_⟩
    · rfl
    · exact heap_alloc_at _ _ _ (by simp)
    · rfl
    · rfl
    · rfl
    · exact (by repeat first | (with_reducible assumption) | (with_reducible exact Keep.refl _ _) | (with_reducible refine Keep.alloc ?_ _) | (with_reducible refine Keep.drew ?_) | (with_reducible refine Keep.drewN ?_ _) | (with_reducible refine Keep.setCell ?_ (.inl (by first | omega | (simp; done) | (simp; omega) | fail)) _))
  · have e1 : foundF ⟨er, ⟨ix, gn⟩⟩ = (⟨0, 0⟩, false) := by unfold foundF; rw [if_pos h]
    rw [e1]
    clear e1
    have h1 : (er != 0) = true := by simpa using h
    clear h
    go_enter Tryd.func11, Tryd.ntmps11
    go_wp2
    refine bodyPost_ret (results_idb Tryd.results11 _ _ (w.heap.size + 1) (.int .i64 0) (.int .i64 0) ?_ ?_ (.bool false) ?_) ?_ ⟨?_, ?_⟩
    · rfl
    · first
        | with_reducible exact HB.out
        | exact heap_twoJ HB.out _ _
    · rfl
    · rfl
    · rfl
    · exact (by repeat first | (with_reducible assumption) | (with_reducible exact Keep.refl _ _) | (with_reducible refine Keep.alloc ?_ _) | (with_reducible refine Keep.drew ?_) | (with_reducible refine Keep.drewN ?_ _) | (with_reducible refine Keep.setCell ?_ (.inl (by first | omega | (simp; done) | (simp; omega) | fail)) _))
/-- The results of the spawns. -/
def spw : List Cmd → List RsZ → List RsZ
  | x :: l, y :: d => if x.do_ = 0 then y :: spw l d else spw l d
  | [], _ => []
  | _ :: _, [] => []
/-- The name of a spawn. -/
def findF (l : List Cmd) (d : List RsZ) (k : Int) : IdZ × Bool := if 0 ≤ k ∧ k < (spw l d).length then foundF ((spw l d).getD k.toNat default) else (⟨0, 0⟩, false)
theorem spw_nil (l : List Cmd) : spw l [] = [] := by cases l <;> rfl
theorem spw_next : ∀ (l : List Cmd) (d : List RsZ) (i : Nat) (x : Cmd), l[i]? = some x → spw (l.take (i + 1)) d = spw (l.take i) d ++ if x.do_ = 0 ∧ i < d.length then [d.getD i default] else []
  | [], d, i, x, h => by simp at h
  | y :: l, [], i, x, h => by rw [spw_nil, spw_nil]; simp
  | y :: l, z :: d, 0, x, h => by
    obtain rfl : y = x := by simpa using h
    by_cases hy : y.do_ = 0 <;> simp [spw, hy]
  | y :: l, z :: d, i + 1, x, h => by
    have ih := spw_next l d i x (by simpa using h)
    rw [List.take_succ_cons, List.take_succ_cons]
    by_cases hy : y.do_ = 0
    · show (if y.do_ = 0 then z :: spw (l.take (i + 1)) d else spw (l.take (i + 1)) d) = (if y.do_ = 0 then z :: spw (l.take i) d else spw (l.take i) d) ++ _
      rw [if_pos hy, if_pos hy, ih]
      simp
    · show (if y.do_ = 0 then z :: spw (l.take (i + 1)) d else spw (l.take (i + 1)) d) = (if y.do_ = 0 then z :: spw (l.take i) d else spw (l.take i) d) ++ _
      rw [if_neg hy, if_neg hy, ih]
      simp
theorem spw_len : ∀ (l : List Cmd) (d : List RsZ), (spw l d).length ≤ l.length
  | [], d => Nat.zero_le _
  | y :: l, [] => Nat.zero_le _
  | y :: l, z :: d => by
    have := spw_len l d
    show (if y.do_ = 0 then z :: spw l d else spw l d).length ≤ _
    split <;> simp <;> omega
theorem spw_pre : ∀ (l : List Cmd) (d : List RsZ) (j : Nat), (spw (l.take j) d) <+: spw l d := fun l => by
  induction l with
  | nil => intro d j; simp
  | cons y l ih =>
    intro d j
    cases d with
    | nil => rw [spw_nil, spw_nil]; exact List.prefix_refl _
    | cons z d =>
      cases j with
      | zero => exact List.nil_prefix
      | succ j =>
        rw [List.take_succ_cons]
        show (if y.do_ = 0 then z :: spw (l.take j) d else spw (l.take j) d) <+: (if y.do_ = 0 then z :: spw l d else spw l d)
        split
        · exact (List.prefix_cons_inj z).2 (ih d j)
        · exact ih d j
theorem spw_mono {l : List Cmd} {d : List RsZ} {i j : Nat} (h : i < (spw (l.take j) d).length) : (spw l d).getD i default = (spw (l.take j) d).getD i default := by
  obtain ⟨t, ht⟩ := spw_pre l d j
  rw [← ht, List.getD_eq_getElem?_getD, List.getD_eq_getElem?_getD, List.getElem?_append_left h]
set_option maxHeartbeats 2000000 in
theorem fl_find (l : List Cmd) (v : Value) (F : Nat → Prop) (d : List RsZ) (u : Value) (G : Nat → Prop) (k : Int) (hk : -9223372036854775808 ≤ k ∧ k ≤ 9223372036854775807) (w : World) (h : NS cmN w F v l) (hd : Sl w G 3 u d.length (d.flatMap rsC)) (hl : l.length ≤ 100000) :
    Calls Tryd.prog 6 #[v, u, .int .i64 k] w fun e w' => e = .returned (.tuple #[.agg #[.int .i64 (findF l d k).1.ix, .int .i64 (findF l d k).1.gen], .bool (findF l d k).2]) ∧ Keep (fun _ => False) w w' := by
  have HA := Lib.hid h
  have HD := Lib.hid hd
  obtain ⟨A, c, rfl, -, -⟩ := h.form
  obtain ⟨Ad, cd, rfl, hd1, hd2, -⟩ := hd
  unfold maxLen at hd2
  obtain ⟨n, hn⟩ : ∃ n, l.length = n := ⟨_, rfl⟩
  obtain ⟨nd, hnd⟩ : ∃ nd, d.length = nd := ⟨_, rfl⟩
  have HN := Lib.hid (And.intro hn hnd)
  rw [hn] at HA hl ⊢
  rw [hnd] at HD hd1 ⊢
  clear h hn hnd
  have HB := Lib.hid (heap_alloc_new w (.cells #[.int .i64 0, .int .i64 0] 27 (0, 0)))
  -- what is found
  have FOUND := Lib.hid (show ∀ i x, l[i]? = some x → x.do_ = 0 → i < nd → k = ((spw (l.take i) d).length : Int) → findF l d k = foundF (d.getD i default) from fun i x hx h0 hi hk => by
    have e1 := spw_next l d i x hx
    rw [if_pos ⟨h0, by rw [HN.out.2]; exact hi⟩] at e1
    have hlt : (spw (l.take i) d).length < (spw (l.take (i + 1)) d).length := by rw [e1]; simp
    have e2 := spw_mono hlt
    have hmax := (spw_pre l d (i + 1)).length_le
    unfold findF
    rw [if_pos ⟨by omega, by omega⟩, hk, Int.toNat_natCast, e2, e1]
    rw [List.getD_eq_getElem?_getD, List.getElem?_append_right (Nat.le_refl _), Nat.sub_self]
    rfl)
  have LOST := Lib.hid (show (k < 0 ∨ ((spw l d).length : Int) ≤ k) → findF l d k = (⟨0, 0⟩, false) from fun h => by
    unfold findF
    rw [if_neg (by omega)])
  have NXT := Lib.hid (show ∀ i x, l[i]? = some x → (spw (l.take (i + 1)) d).length = (spw (l.take i) d).length + if x.do_ = 0 ∧ i < nd then 1 else 0 from fun i x hx => by
    rw [spw_next l d i x hx, List.length_append, HN.out.2]
    split <;> rfl)
  have FEW := Lib.hid (show ∀ i, (spw (l.take i) d).length ≤ i from fun i => Nat.le_trans (spw_len _ _) (by rw [List.length_take]; omega))
  have ALL := Lib.hid (show spw (l.take n) d = spw l d from by rw [List.take_of_length_le (by rw [HN.out.1]; exact Nat.le_refl _)])
  generalize findF l d k = R at *
  go_enter Tryd.func6, Tryd.ntmps6
  go_wp2
  go_loopw [2, 12] (fun y i wr => ∃ (j : Nat) (z : Int), j ≤ n ∧ i = .int .i64 (j : Int) ∧ y = .int .i64 z ∧ Hid (z = wrap64 (k - ((spw (l.take j) d).length : Int))) ∧ Hid (k < 0 ∨ ((spw (l.take j) d).length : Int) ≤ k) ∧ Hid (Keep (fun _ => False) w wr ∧ wr.heap[w.heap.size]? = some (.cells #[.int .i64 0, .int .i64 0] 27 (0, 0)))) (fun _ i _ => n - (intOf i).toNat)
  case atStart => exact ⟨0, k, by omega, rfl, rfl, Lib.hid (by show k = wrap64 (k - (([] : List RsZ).length : Int)); simp only [List.length_nil]; unfold wrap64; omega), Lib.hid (by show k < 0 ∨ (([] : List RsZ).length : Int) ≤ k; simp only [List.length_nil]; omega), Lib.hid ⟨(Keep.refl _ w).alloc _, HB.out⟩⟩
  case round =>
    obtain ⟨j, z, hj, rfl, rfl, hz, hr, hw⟩ := hrel
    by_cases hlt : j < n
    · have hi : (j : Int) < (n : Int) := by omega
      have hi0 : (0 : Int) ≤ (j : Int) := by omega
      have kw := hw.out.1
      have zw : w.heap.size < wr.heap.size := (Array.getElem?_eq_some_iff.1 hw.out.2).1
      obtain ⟨b, off, x, A1, c1, rfl, hbF, hx, hin, hcs⟩ := cmAt (NS.same HA.out hw.out.1) hlt
      obtain ⟨y0, y1, y2, y3, y4, y5⟩ := cells_at6 hcs
      have NX := Lib.hid (NXT.out j x hx)
      have FN := Lib.hid (FOUND.out j x hx)
      have FW := FEW.out j
      clear hcs hin hx
      generalize x.do_ = dd at *
      generalize x.loc = lo at *
      generalize x.idx = ix at *
      generalize x.gen = gn at *
      generalize x.comp = cm at *
      generalize x.l.length = q1 at *
      have STAY := Lib.hid (show ¬ (dd = 0 ∧ j < nd) → z = wrap64 (k - ((spw (l.take (j + 1)) d).length : Int)) ∧ (k < 0 ∨ ((spw (l.take (j + 1)) d).length : Int) ≤ k) from fun h => by
        rw [NX.out, if_neg h]
        exact ⟨hz.out, hr.out⟩)
      by_cases hd0 : dd = 0
      · subst hd0
        by_cases hjd : j < nd
        · have g1 : ¬ (nd : Int) ≤ (j : Int) := by omega
          by_cases hz0 : z = 0
          · subst hz0
            have FD := Lib.hid (FN.out rfl hjd (by
              have e1 := hz.out
              have e2 := hr.out
              generalize (spw (l.take j) d).length = m at *
              unfold wrap64 at *
              omega))
            have FC := Lib.hid (fun X => fl_found (d.getD j default) X)
            obtain ⟨br, orr, rfl, -, s0, s1, s2⟩ := rs_at (HD.out.keep hw.out.1 (fun _ _ _ h => h)) HN.out.2 hjd
            generalize foundF (d.getD j default) = ff at *
            generalize (d.getD j default).err = er at *
            generalize (d.getD j default).id.ix = ri at *
            generalize (d.getD j default).id.gen = rg at *
            have KA := ((Keep.refl (fun _ => False) wr).alloc (.cells #[.int .i64 0, .bool lo, .int .i64 ix, .int .i64 gn, .int .i64 cm, .slice A1 q1 c1] 37 (0, 0)))
            have s0' := KA.cell (fun h => h) s0
            have s1' := KA.cell (fun h => h) s1
            have s2' := KA.cell (fun h => h) s2
            go_wp2_with fail
            with_reducible refine (FC.out _).mono ?_
            rintro e w4 ⟨rfl, hk4⟩
            have K4 := Lib.hid (show Keep (fun _ => False) w w4 ∧ w4.heap[w.heap.size]? = some (.cells #[.int .i64 0, .int .i64 0] 27 (0, 0)) from ⟨Keep.trans (T := fun _ => False) (by exact (by repeat first | (with_reducible assumption) | (with_reducible exact Keep.refl _ _) | (with_reducible refine Keep.alloc ?_ _) | (with_reducible refine Keep.drew ?_) | (with_reducible refine Keep.drewN ?_ _) | (with_reducible refine Keep.setCell ?_ (.inl (by first | omega | (simp; done) | (simp; omega) | fail)) _))) hk4 (fun _ _ h => h), (hk4.block w.heap.size (by simp; omega) (fun h => h)).trans (by rw [Below.heap_alloc _ _ _ (by omega)]; exact hw.out.2)⟩)
            obtain ⟨q0, q1', qf⟩ := cells2 K4.out.2
            clear hk4
            go_wp2
            refine bodyPost_ret (results_idb Tryd.results6 _ _ w.heap.size (.int .i64 ff.1.ix) (.int .i64 ff.1.gen) ?_ ?_ (.bool ff.2) ?_) ?_ ⟨?_, ?_⟩
            · rfl
            · exact heap_twoJ K4.out.2 _ _
            · rfl
            · rfl
            · rw [FD.out]
            · exact Keep.setCell (Keep.setCell K4.out.1 (.inl (Nat.le_refl _)) _) (.inl (Nat.le_refl _)) _
          · have g2 : (z == 0) = false := by simpa using hz0
            have NW := Lib.hid (show wrap64 (z - 1) = wrap64 (k - ((spw (l.take (j + 1)) d).length : Int)) ∧ (k < 0 ∨ ((spw (l.take (j + 1)) d).length : Int) ≤ k) from by
              have e1 := hz.out
              have e2 := hr.out
              rw [NX.out, if_pos ⟨rfl, hjd⟩]
              generalize (spw (l.take j) d).length = m at *
              unfold wrap64 at *
              omega)
            go_wp2
            go_roundw
            case rel => exact ⟨j + 1, wrap64 (z - 1), by omega, by go_num, rfl, Lib.hid NW.out.1, Lib.hid NW.out.2, Lib.hid ⟨by exact (by repeat first | (with_reducible assumption) | (with_reducible exact Keep.refl _ _) | (with_reducible refine Keep.alloc ?_ _) | (with_reducible refine Keep.drew ?_) | (with_reducible refine Keep.drewN ?_ _) | (with_reducible refine Keep.setCell ?_ (.inl (by first | omega | (simp; done) | (simp; omega) | fail)) _)), by rw [Below.heap_alloc _ _ _ (by omega)]; exact hw.out.2⟩⟩
            case measure => simp [intOf]; omega
        · have g1 : (nd : Int) ≤ (j : Int) := by omega
          go_wp2
          go_roundw
          case rel => exact ⟨j + 1, z, by omega, by go_num, rfl, Lib.hid (STAY.out (by omega)).1, Lib.hid (STAY.out (by omega)).2, Lib.hid ⟨by exact (by repeat first | (with_reducible assumption) | (with_reducible exact Keep.refl _ _) | (with_reducible refine Keep.alloc ?_ _) | (with_reducible refine Keep.drew ?_) | (with_reducible refine Keep.drewN ?_ _) | (with_reducible refine Keep.setCell ?_ (.inl (by first | omega | (simp; done) | (simp; omega) | fail)) _)), by rw [Below.heap_alloc _ _ _ (by omega)]; exact hw.out.2⟩⟩
          case measure => simp [intOf]; omega
      · have g0 : (dd != 0) = true := by simpa using hd0
        go_wp2
        go_roundw
        case rel => exact ⟨j + 1, z, by omega, by go_num, rfl, Lib.hid (STAY.out (by omega)).1, Lib.hid (STAY.out (by omega)).2, Lib.hid ⟨by exact (by repeat first | (with_reducible assumption) | (with_reducible exact Keep.refl _ _) | (with_reducible refine Keep.alloc ?_ _) | (with_reducible refine Keep.drew ?_) | (with_reducible refine Keep.drewN ?_ _) | (with_reducible refine Keep.setCell ?_ (.inl (by first | omega | (simp; done) | (simp; omega) | fail)) _)), by rw [Below.heap_alloc _ _ _ (by omega)]; exact hw.out.2⟩⟩
        case measure => simp [intOf]; omega
    · obtain rfl : j = n := by omega
      have f1 : ¬ (j : Int) < (j : Int) := by omega
      have FD := Lib.hid (LOST.out (by rw [← ALL.out]; exact hr.out))
      obtain ⟨q0, q1', qf⟩ := cells2 hw.out.2
      go_wp2
      refine bodyPost_ret (results_idb Tryd.results6 _ _ w.heap.size (.int .i64 0) (.int .i64 0) ?_ ?_ (.bool false) ?_) ?_ ⟨?_, ?_⟩
      · rfl
      · exact heap_twoJ hw.out.2 _ _
      · rfl
      · rfl
      · rw [FD.out]
      · exact Keep.setCell (Keep.setCell hw.out.1 (.inl (Nat.le_refl _)) _) (.inl (Nat.le_refl _)) _
end Go.Proofs.YtglliendhbkkhaaDoor

/- Contracts of disk.New, Of. -/
import Derived.Test.YtpedkcmcbejdiaaImg1
namespace Go.Proofs.Ytpedkcmcbejdiaa
open Go.RowKit
set_option maxRecDepth 100000
set_option linter.unusedVariables false
set_option linter.unusedSimpArgs false

/-- Behind a round of disk.New. -/
theorem DSt.next {w W W1 w' : World} {p : Nat} {gs : List Nat} {u u' : Value} {R : List (List UInt8)} {g : Nat} {ZZ : Array Value} {n : Nat} (hR : R.length = n) (h : DSt w W p gs u R) (hz : ZZ = (bv (zer 512)).toArray) (hW : Keep (fun _ => False) W W1) (hg : W1.heap[g]? = some (.cells ZZ 5 (0, 0))) (hwg : W.heap.size ≤ g)
    (ho : Own w' (p + 1) 22 1 u' (n + 1) ((gs.map fun g => Value.slice (some ⟨g, 0, none⟩) 512 512) ++ [.slice (some ⟨g, 0, none⟩) 512 512])) (hk : Keep (fun k => ownB u = some k) W1 w') (hn : ∀ k, ownB u' = some k → ownB u = some k ∨ W1.heap.size ≤ k) :
    DSt w (w'.setCell ⟨p, 0, none⟩ u') p (gs ++ [g]) u' (R ++ [zer 512]) := by
  subst hR
  have hp := h.hp
  have hlt := h.lt
  have hs := hW.size
  subst hz
  have hnp : ownB u ≠ some p := fun e => by have := (h.grid.own.ownB p e).1; omega
  have hb : w'.heap[p]? = some (.cells #[u, .map (some (p - 1)), .int .i64 (-1), .bool false, .int .i64 0, .int .i64 0] 54 (0, 0)) := (hk.block p (by omega) hnp).trans ((hW.block p hp (fun h => h)).trans h.box)
  have g1 := h.grid.push (hW.mono (fun _ _ h => h.elim)) hg (zer_len 512) hwg (by omega) ho hk hn
  have hk1 : Keep (fun k => k = p) w' (w'.setCell ⟨p, 0, none⟩ u') := Keep.setCell (S := fun k => k = p) (p := ⟨p, 0, none⟩) (Keep.refl _ _) (.inr rfl) _
  refine ⟨hlt, by rw [heap_setCell_same w' p 0 _ _ u' hb]; rfl, g1.keep hk1 (fun b hb _ e => by omega), ?_⟩
  exact (((Keep.of_below h.below).trans hW (fun x _ h => h.elim)).trans ((hk.mono (T := fun k => ownB u = some k ∨ k = p) (fun _ _ h => .inl h)).trans hk1 (fun x _ h => .inr h)) (fun x _ e => by
    rcases e with e | e
    · have := (h.grid.own.ownB x e).1; omega
    · omega)).to_below (Nat.le_refl _)
theorem cell_lit_at (w : World) (g : Nat) (x : Value) (e : TypeId) (h : g = w.heap.size) : (w.alloc (.cells #[x] e)).cell? ⟨g, 0, none⟩ = some x := by subst h; exact (cells1 (heap_alloc_new w _)).1
theorem step_row {ops : Array Oper} {o : Oper} {a : Act} {w : World} {K : Act → World → Prop} {Q : Exit → Act → World → Prop} {E : Prop} (hgd : Region.wanted o (yielded ops a.tmps) = true) (s x : Operand)
    (ho : o.op = .call { callee := .builtin .append, args := #[s, x], argTypes := #[51, 51] }) (B k : Nat) (v : Value) (xs : List Value) (hv : a.eval s = v) (hown : Own w B 22 1 v k xs) (b g : Nat)
    (hy : a.eval x = .slice (some ⟨b, 0, none⟩) 1 1) (hc : w.cell? ⟨b, 0, none⟩ = some (.slice (some ⟨g, 0, none⟩) 512 512)) (hk : k ≤ 1099511627776) (hB : B ≤ w.heap.size)
    (h : ∀ A c w', Own w' B 22 1 (.slice A (k + 1) c) (k + 1) (xs ++ [.slice (some ⟨g, 0, none⟩) 512 512]) → Keep (fun k => ownB v = some k) w w' → (∀ k', ownB (.slice A (k + 1) c) = some k' → ownB v = some k' ∨ w.heap.size ≤ k') → K (a.put o.dst (.slice A (k + 1) c)) w') :
    if Region.wanted o (yielded ops a.tmps) = true then Oper.wp Try.prog o a w K Q else E := by
  obtain ⟨is, his, hs0, hs1, hs2⟩ := info_parts info_bytes
  refine step_append_gen w hgd s x _ _ ho B 22 is _ 1 24 Try.underlying51 his hs0 hs1 hs2 rfl v k xs hv hown _ 1 _ hy (src_at Try.underlying51 (x := .slice (some ⟨g, 0, none⟩) 512 512) rfl hc) (by unfold maxLen; omega) (by omega) hB ?_
  intro v' w' ho' hk' hn'
  obtain ⟨A, c, rfl, _⟩ := ho'.form
  exact h A c w' ho' hk' hn'
set_option maxHeartbeats 4000000 in
theorem dnew_any (n : Nat) (w : World) (h1 : n ≤ 4096) :
    Calls Try.prog 24 #[.int .i64 (n : Int)] w fun e w' => ∃ p gs u, e = .returned (.pointer (some ⟨p, 0, none⟩)) ∧ DSt w w' p gs u (List.replicate n (zer 512)) := by
  obtain ⟨is, his, hs0, hs1, hs2⟩ := info_parts info_bytes
  have MK := run_make512
  have hmm := @run_makeMap Try.prog
  obtain ⟨ZZ, hZ⟩ : ∃ ZZ, ZZ = (bv (zer 512)).toArray := ⟨_, rfl⟩
  have HZ := Lib.hid hZ
  rw [← hZ] at MK
  clear hZ
  · go_enter Try.func24, Try.ntmps24
    have q1 : ¬ (n : Int) < 0 := by omega
    go_upto_region 2 with fail
    refine wp_world (S := fun X => DSt w X (w.heap.size + 1) [] (.slice none 0 0) []) ?c0 ?_
    case c0 => exact ⟨by omega, heap_alloc_at _ _ _ (by simp), Grid.nil _ _, ((Below.refl _ w).alloc (Nat.le_refl _) _).alloc (by simp) _⟩
    intro X hX
    go_wp2
    go_loopw [10] (fun i wr => ∃ k : Nat, k ≤ n ∧ i = .int .i64 k ∧ Hid (∃ gs u, DSt w wr (w.heap.size + 1) gs u (List.replicate k (zer 512)))) (fun i _ => n - (intOf i).toNat)
    case atStart => exact ⟨0, by omega, rfl, Lib.hid ⟨_, _, hX⟩⟩
    case round =>
      obtain ⟨k, hk, rfl, hst⟩ := hrel
      obtain ⟨gs, u, HS⟩ := hst.out
      by_cases hlt : k < n
      · have f1 : (k : Int) < (n : Int) := by omega
        have OW := Lib.hid (show Own wr (w.heap.size + 1 + 1) 22 1 u k (gs.map fun g => Value.slice (some ⟨g, 0, none⟩) 512 512) from by have := HS.grid.own; rwa [List.length_replicate] at this)
        have CE := Lib.hid (show ∀ W', Keep (fun _ => False) wr W' → (W'.cell? ⟨w.heap.size + 1, 0, none⟩ = some u ∧ Keep (fun _ => False) wr W') from fun W' hk => ⟨(cells6 ((hk.block _ HS.hp (fun h => h)).trans HS.box)).1, hk⟩)
        have HS1 := Lib.hid HS
        clear hst HS hX
        go_upto_region 4 with fail
        obtain ⟨z0, z1, z2, z3, z4, z5, zf⟩ := cells6 HS1.out.box
        have zd : wr.drew.cell? ⟨w.heap.size + 1, 0, none⟩ = some u := z0
        have za : ∀ o, (wr.alloc o).cell? ⟨w.heap.size + 1, 0, none⟩ = some u := fun o => ((Keep.refl (fun _ => False) wr).alloc o).cell (fun h => h) z0
        have zb : ∀ o o', ((wr.alloc o).alloc o').cell? ⟨w.heap.size + 1, 0, none⟩ = some u := fun o o' => (((Keep.refl (fun _ => False) wr).alloc o).alloc o').cell (fun h => h) z0
        have zc : ∀ o, (wr.drew.alloc o).cell? ⟨w.heap.size + 1, 0, none⟩ = some u := fun o => ((Keep.refl (fun _ => False) wr.drew).alloc o).cell (fun h => h) z0
        have ze : ∀ o o', ((wr.drew.alloc o).alloc o').cell? ⟨w.heap.size + 1, 0, none⟩ = some u := fun o o' => (((Keep.refl (fun _ => False) wr.drew).alloc o).alloc o').cell (fun h => h) z0
        go_region_law (first
          | ((refine step_row (by rfl) _ _ (by rfl) (w.heap.size + 1 + 1) k _ _ (by rfl) (OW.out.keep (S := fun _ => False) (by exact (by repeat first | (with_reducible assumption) | (with_reducible exact Keep.refl _ _) | (with_reducible refine Keep.alloc ?_ _) | (with_reducible refine Keep.drew ?_) | (with_reducible refine Keep.drewN ?_ _) | (with_reducible refine Keep.setCell ?_ (.inl (by first | omega | (simp; done) | (simp; omega) | fail)) _))) (fun _ _ h => h)) _ _ (by rfl) (by first | exact cell_lit_at _ _ _ _ (by first | rfl | (simp; done)) | (rw [World.cell?_drew]; exact cell_lit_at _ _ _ _ (by first | rfl | (simp; done))) | fail) (by omega) (by have := HS1.out.hp; (try simp); omega) ?_); intro A6 c6 w6 ho6 hk6 hn6; have K6 : Keep (fun x => ownB u = some x) wr w6 := Keep.trans (T := fun x => ownB u = some x) (S := fun x => ownB u = some x) (by exact (by repeat first | (with_reducible assumption) | (with_reducible exact Keep.refl _ _) | (with_reducible refine Keep.alloc ?_ _) | (with_reducible refine Keep.drew ?_) | (with_reducible refine Keep.drewN ?_ _) | (with_reducible refine Keep.setCell ?_ (.inl (by first | omega | (simp; done) | (simp; omega) | fail)) _))) hk6 (fun _ _ h => h); obtain ⟨y0, -, -, -, -, -, yf⟩ := cells6 ((K6.block (w.heap.size + 1) HS1.out.hp (fun e => by have := (OW.out.ownB _ e).1; omega)).trans HS1.out.box); have HN := Lib.hid (DSt.next (p := w.heap.size + 1) (g := wr.heap.size) (n := k) List.length_replicate HS1.out HZ.out (by exact (by repeat first | (with_reducible assumption) | (with_reducible exact Keep.refl _ _) | (with_reducible refine Keep.alloc ?_ _) | (with_reducible refine Keep.drew ?_) | (with_reducible refine Keep.drewN ?_ _) | (with_reducible refine Keep.setCell ?_ (.inl (by first | omega | (simp; done) | (simp; omega) | fail)) _))) (by first | (exact heap_alloc_at _ _ _ (by first | rfl | (simp; done))) | (rw [Below.heap_alloc _ _ _ (by simp)]; exact heap_alloc_at _ _ _ (by first | rfl | (simp; done))) | (rw [heap_drew', Below.heap_alloc _ _ _ (by simp)]; exact heap_alloc_at _ _ _ (by first | rfl | (simp; done))) | (rw [heap_drew']; exact heap_alloc_at _ _ _ (by first | rfl | (simp; done))) | fail) (Nat.le_refl _) ho6 hk6 hn6))
          | fail)
        all_goals
          go_wp2
          go_roundw
          case rel => exact ⟨k + 1, by omega, by go_num, Lib.hid ⟨_, _, by rw [List.replicate_succ']; exact HN.out⟩⟩
          case measure => simp [intOf]; omega
      · obtain rfl : k = n := by omega
        have f1 : ¬ (k : Int) < (k : Int) := by omega
        go_wp2
        go_ret
        exact ⟨_, rfl, _, _, HS⟩

/-- The whole sectors of some bytes. -/
def secs (b : List UInt8) : List (List UInt8) := (List.range (b.length / 512)).map fun i => (b.drop (i * 512)).take 512
theorem secs_len (b : List UInt8) : (secs b).length = b.length / 512 := by simp [secs]
theorem secs_at {b : List UInt8} {k : Nat} (h : k < b.length / 512) : (secs b)[k]? = some ((b.drop (k * 512)).take 512) := by
  simp [secs, List.getElem?_range h]
theorem secs_512 (b : List UInt8) : ∀ r ∈ secs b, r.length = 512 := fun r hr => by
  obtain ⟨i, hi, rfl⟩ := List.mem_map.1 hr
  have := List.mem_range.1 hi
  rw [List.length_take, List.length_drop]; omega
def partO (b : List UInt8) (n k : Nat) : List (List UInt8) := (secs b).take k ++ List.replicate (n - k) (zer 512)
theorem partO_len (b : List UInt8) {n k : Nat} (hn : b.length / 512 = n) (hk : k ≤ n) : (partO b n k).length = n := by
  unfold partO
  rw [List.length_append, List.length_take, secs_len, List.length_replicate, hn]; omega
theorem partO_next {b : List UInt8} {n k : Nat} (hn : b.length / 512 = n) (hk : k < n) : (partO b n k).set k ((b.drop (k * 512)).take 512) = partO b n (k + 1) := by
  unfold partO
  have h1 : ((secs b).take k).length = k := by rw [List.length_take, secs_len]; omega
  have e : (secs b).take (k + 1) = (secs b).take k ++ [(b.drop (k * 512)).take 512] := by rw [List.take_add_one, secs_at (by omega)]; rfl
  rw [List.set_append_right _ _ (by omega), h1, Nat.sub_self, e, show n - k = (n - (k + 1)) + 1 by omega, List.replicate_succ, List.set_cons_zero]
  simp
theorem partO_at {b : List UInt8} {n k : Nat} (hn : b.length / 512 = n) (hk : k < n) : (partO b n k)[k]? = some (zer 512) := by
  unfold partO
  have h1 : ((secs b).take k).length = k := by rw [List.length_take, secs_len]; omega
  rw [List.getElem?_append_right (by omega), h1, Nat.sub_self, show n - k = (n - (k + 1)) + 1 by omega, List.replicate_succ]
  rfl
theorem step_copy_gen {P : Program} {ops : Array Oper} {o : Oper} {a : Act} {w : World} {K : Act → World → Prop} {Q : Exit → Act → World → Prop} {E : Prop} (hgd : Region.wanted o (yielded ops a.tmps) = true) (d s : Operand) (dT sT : TypeId)
    (ho : o.op = .call { callee := .builtin .copy, args := #[d, s], argTypes := #[dT, sT] }) (elem : TypeId) (hu : P.underlying dT = some (.slice elem)) (hsz : (P.info? elem).map (·.size) = some 1)
    (A : Option Addr) (dLen dCap g off : Nat) (cur : Array Value) (t : TypeId) (hd : a.eval d = .slice A dLen dCap) (hA : 0 < dLen → A = some ⟨g, off, none⟩ ∧ w.heap[g]? = some (.cells cur t (0, 0)) ∧ off + dLen ≤ cur.size)
    (F : Nat → Prop) (u : Value) (m : Nat) (ys : List Value) (hv : a.eval s = u) (hs : Sl w F 1 u m ys) (h1 : ∀ y ∈ ys, y.oneCell' = true)
    (h : ∀ w', Laid w w' g off cur (ys.take (min m dLen)) → K (a.put o.dst (goInt ((min m dLen : Nat) : Int))) w') : if Region.wanted o (yielded ops a.tmps) = true then Oper.wp P o a w K Q else E := by
  rw [if_pos hgd]
  exact wp_copy_gen d s dT sT ho elem hu hsz A dLen dCap g off cur t hd hA F u m ys hv hs h1 h
/-- A row of 512 bytes, laid over with the first 512 of some bytes. -/
theorem laid_512 {w w' : World} {g m : Nat} {r l : List UInt8} (h : Laid w w' g 0 (bv r).toArray ((bv l).take (min m 512))) (hr : r.length = 512) (hm : l.length = m) (hl : 512 ≤ m) (hg : w.heap[g]? = some (.cells (bv r).toArray 5 (0, 0))) :
    w'.heap[g]? = some (.cells (bv (l.take 512)).toArray 5 (0, 0)) := by
  subst hm
  have hb := h.block hg
  rw [hb, show min l.length 512 = 512 by omega]
  have : splice (bv r).toArray.toList 0 ((bv l).take 512) = bv (l.take 512) := by
    unfold splice
    have e : ((bv l).take 512).length = 512 := by rw [List.length_take, bv_len]; omega
    rw [e]
    simp [bv, hr]
  rw [this]
theorem DSt.laid {w W W' : World} {p : Nat} {gs : List Nat} {u : Value} {R : List (List UInt8)} {k g : Nat} {r : List UInt8} (h : DSt w W p gs u R) (hi : gs[k]? = some g) (hr : r.length = 512) (hk : Keep (fun x => x = g) W W') (hg : W'.heap[g]? = some (.cells (bv r).toArray 5 (0, 0))) : DSt w W' p gs u (R.set k r) := by
  have hge := h.grid.ge (List.mem_of_getElem? hi)
  have hlt := h.lt
  exact ⟨hlt, (hk.block p h.hp (fun e => by omega)).trans h.box, h.grid.set hi hr hk hg, ((Keep.of_below h.below).trans hk (fun x _ e => by omega)).to_below (Nat.le_refl _)⟩
/-- What disk.Of's round reads. -/
theorem DSt.reads {w W : World} {p n cu : Nat} {gs : List Nat} {AU : Option Addr} {R : List (List UInt8)} {k : Nat} (h : DSt w W p gs (.slice AU n cu) R) (hR : R.length = n) (hk : k < n) {r : List UInt8} (hr : R[k]? = some r) :
    ∃ G g, AU = some ⟨G, 0, none⟩ ∧ gs[k]? = some g ∧ g ≠ G ∧ g ≠ p ∧ W.cell? ⟨G, k, none⟩ = some (.slice (some ⟨g, 0, none⟩) 512 512) ∧ W.heap[g]? = some (.cells (bv r).toArray 5 (0, 0)) ∧ r.length = 512 ∧ G < W.heap.size ∧ G ≠ p := by
  subst hR
  have hl := h.grid.len
  have ho := h.grid.own
  obtain ⟨G, rfl, hG, hGl, hc, -, -⟩ := ho.cells_ (by omega)
  have hi : gs[k]? = some gs[k] := List.getElem?_eq_getElem (by omega)
  obtain ⟨h1, h2, h3, h4⟩ := h.grid.row k _ r hi hr
  refine ⟨G, gs[k], rfl, hi, fun e => h2 ?_, by omega, hc k _ (by rw [List.getElem?_map, hi]; rfl), h4, h3, hGl, by omega⟩
  obtain ⟨_, A', c', e', hnc, _, _⟩ := ho
  injection e' with e1 e2 e3
  obtain ⟨d, rfl⟩ : ∃ d, cu = d + 1 := ⟨cu - 1, by omega⟩
  rw [e]; rfl
set_option maxHeartbeats 4000000 in
theorem dof_any (b : List UInt8) (v : Value) (F : Nat → Prop) (w : World) (hv : By w F v b) (hn : b.length / 512 ≤ 4096) :
    Calls Try.prog 9 #[v] w fun e w' => ∃ p gs u, e = .returned (.pointer (some ⟨p, 0, none⟩)) ∧ DSt w w' p gs u (secs b) := by
  have HV := Lib.hid hv
  obtain ⟨A, c, rfl, hlc, hcm, -, -⟩ := id hv
  unfold maxLen at hcm
  have NW := Lib.hid (fun W => dnew_any (b.length / 512) W hn)
  have NX := Lib.hid (fun k => @partO_next b (b.length / 512) k rfl)
  have PA := Lib.hid (fun k => @partO_at b (b.length / 512) k rfl)
  have PL := Lib.hid (fun k => @partO_len b (b.length / 512) k rfl)
  have P0 := Lib.hid (show partO b (b.length / 512) 0 = List.replicate (b.length / 512) (zer 512) by simp [partO])
  have PN := Lib.hid (show partO b (b.length / 512) (b.length / 512) = secs b by unfold partO; rw [Nat.sub_self, List.take_of_length_le (by rw [secs_len]; exact Nat.le_refl _)]; simp)
  obtain ⟨n, hN⟩ : ∃ n, b.length / 512 = n := ⟨_, rfl⟩
  obtain ⟨L, hL⟩ : ∃ L, b.length = L := ⟨_, rfl⟩
  have hq : (L : Int).tdiv 512 = (n : Int) := by rw [Int.tdiv_eq_ediv_of_nonneg (by omega), ← hL]; omega
  have hLN := Lib.hid (show n * 512 ≤ L by omega)
  have HL := Lib.hid hL
  rw [hN] at NW NX PA PL P0 PN hn
  rw [hL] at hlc ⊢
  clear hN hL hv
  have qw : IntKind.i64.wrap (n : Int) = (n : Int) := IntWalk.i64_in _ (by omega)
  go_enter Try.func9, Try.ntmps9
  go_wp2_with fail
  with_reducible refine (NW.out _).mono ?_
  rintro e w1 ⟨p, gs, u, rfl, hst⟩
  obtain ⟨AU, cu, rfl, -⟩ := hst.grid.own.form
  rw [List.length_replicate] at hst
  rw [← P0.out] at hst
  have hp := hst.lt
  have HS := Lib.hid hst
  obtain ⟨z0, z1, z2, z3, z4, z5, zf⟩ := cells6 hst.box
  clear hst
  go_wp2
  clear z0 z1 z2 z3 z4 z5 zf
  go_loopw [14] (fun i wr => ∃ k : Nat, k ≤ n ∧ i = .int .i64 k ∧ Hid (DSt w wr p gs (.slice AU n cu) (partO b n k))) (fun i _ => n - (intOf i).toNat)
  case atStart => exact ⟨0, by omega, rfl, HS⟩
  case round =>
    obtain ⟨k, hk, rfl, hst⟩ := hrel
    obtain ⟨z0, z1, z2, z3, z4, z5, zf⟩ := cells6 hst.out.box
    by_cases hlt : k < n
    · have f1 : (k : Int) < (n : Int) := by omega
      obtain ⟨G, g, rfl, hgi, hgG, hgp, c1, hrow, -, hGl, hGp⟩ := hst.out.reads (PL.out k hk) hlt (PA.out k hlt)
      have hk5 : k * 512 + 512 ≤ L := by have := hLN.out; omega
      obtain ⟨bb, oo, rfl⟩ : ∃ bb oo, A = some ⟨bb, oo, none⟩ := by
        obtain ⟨A', c', e', _, _, _, hr⟩ := HV.out
        injection e' with e1 e2 e3
        subst e1
        obtain ⟨bb, oo, e, _, _⟩ := hr.at_ (k := 0) (by have := HL.out; omega)
        exact ⟨bb, oo, e⟩
      obtain ⟨j, hj⟩ : ∃ j, j = k * 512 := ⟨_, rfl⟩
      have ej : (k : Int) * 512 = (j : Int) := by omega
      have ej2 : IntKind.i64.wrap (j : Int) = (j : Int) := IntWalk.i64_in _ (by omega)
      have j1 : j ≤ c := by omega
      have j2 : j ≤ L := by omega
      have j3 : ¬ c = j := by omega
      have SRC := Lib.hid (fun W (hk : Keep (fun _ => False) wr W) => show By W F (.slice (some ⟨bb, oo + j, none⟩) (L - j) (c - j)) (b.drop j) from by
        have h := (HV.out.keep ((Keep.of_below' hst.out.below).trans hk (fun _ _ h => h)) (fun _ _ _ h => h))
        rw [HL.out] at h
        have := h.piece (lo := j) (m := L - j) (A' := some ⟨bb, oo + j, none⟩) (c' := c - j) (by rw [HL.out]; omega) (fun _ a e => by cases e; simp [Addr.add]) (by omega) (by unfold maxLen; omega) (fun e => by cases e)
        rwa [List.take_of_length_le (by rw [List.length_drop, HL.out]; exact Nat.le_refl _)] at this)
      have SL := Lib.hid (show (b.drop j).length = L - j by rw [List.length_drop, HL.out])
      have CE := Lib.hid (show ∀ W', Keep (fun x => x = g) wr W' → (W'.cell? ⟨p, 0, none⟩ = some (.slice (some ⟨G, 0, none⟩) n cu) ∧ W'.cell? ⟨G, k, none⟩ = some (.slice (some ⟨g, 0, none⟩) 512 512)) from fun W' hk => ⟨hk.cell (fun e => hgp e.symm) z0, hk.cell (fun e => hgG e.symm) c1⟩)
      have NXK := Lib.hid (NX.out k hlt)
      have H5L := Lib.hid (show 512 ≤ L - j by omega)
      have HJ := Lib.hid hj
      have ROW := Lib.hid hrow
      have HP := Lib.hid (And.intro hgG (And.intro hgp (And.intro hGl hGp)))
      clear hj hrow hgG hgp hGl hGp hk5 z1 z2 z3 z4 z5
      go_upto_region 5 with fail
      go_region_held3 (fun W' => W'.cell? ⟨p, 0, none⟩ = some (.slice (some ⟨G, 0, none⟩) n cu) ∧ W'.cell? ⟨G, k, none⟩ = some (.slice (some ⟨g, 0, none⟩) 512 512)) (first | exact CE.out _ (by exact (by repeat first | (with_reducible assumption) | (with_reducible exact Keep.refl _ _) | (with_reducible refine Keep.alloc ?_ _) | (with_reducible refine Keep.drew ?_) | (with_reducible refine Keep.drewN ?_ _) | (with_reducible refine Keep.setCell ?_ (.inl (by first | omega | (simp; done) | (simp; omega) | fail)) _))) | exact CE.out _ K6) (first
        | ((refine step_copy_gen (by rfl) _ _ _ _ (by rfl) 5 Try.underlying22 size_byte _ 512 512 g 0 _ 5 (by rfl) (fun _ => ⟨rfl, ROW.out, by simp [bv_len, zer_len]⟩) F _ (L - j) (bv (b.drop j)) (by rfl) (by have := SRC.out _ (by exact (by repeat first | (with_reducible assumption) | (with_reducible exact Keep.refl _ _) | (with_reducible refine Keep.alloc ?_ _) | (with_reducible refine Keep.drew ?_) | (with_reducible refine Keep.drewN ?_ _) | (with_reducible refine Keep.setCell ?_ (.inl (by first | omega | (simp; done) | (simp; omega) | fail)) _))); unfold By at this; rwa [SL.out] at this) (bv_one _) ?_); intro w6 hl6; have K6 : Keep (fun x => x = g) wr w6 := Keep.trans (T := fun x => x = g) (by exact (by repeat first | (with_reducible assumption) | (with_reducible exact Keep.refl _ _) | (with_reducible refine Keep.alloc ?_ _) | (with_reducible refine Keep.drew ?_) | (with_reducible refine Keep.drewN ?_ _) | (with_reducible refine Keep.setCell ?_ (.inl (by first | omega | (simp; done) | (simp; omega) | fail)) _))) hl6.keep (fun _ _ h => h); have H6 := Lib.hid (laid_512 hl6 (zer_len 512) SL.out H5L.out ROW.out); clear hl6)
        | fail)
      all_goals
        have HN := Lib.hid (hst.out.laid hgi (by have := H5L.out; rw [List.length_take, SL.out]; omega) K6 H6.out)
        rw [HJ.out, NXK.out] at HN
        go_wp2
        go_roundw
        case rel => exact ⟨k + 1, by omega, by go_num, HN⟩
        case measure => simp [intOf]; omega
    · obtain rfl : k = n := by omega
      have f1 : ¬ (k : Int) < (k : Int) := by omega
      go_wp2
      go_ret
      rw [PN.out] at hst
      exact ⟨_, rfl, _, _, hst.out⟩
end Go.Proofs.Ytpedkcmcbejdiaa

/- append of zeros; contracts of slices.Grow of nil, slices.Concat at []byte, (*Disk).Bytes. -/
import Derived.Test.YtpedkcmcbejdiaaImg2
namespace Go.Proofs.Ytpedkcmcbejdiaa
open Go.RowKit
set_option maxRecDepth 100000
set_option linter.unusedVariables false
set_option linter.unusedSimpArgs false

theorem zeroCells_zer (k : Nat) : Builtin.zeroCells (Value.int .u8 0).cells k = (bv (zer k)).toArray := by
  apply Array.ext'
  rw [bv_zer]
  apply List.ext_getElem
  · simp [Builtin.zeroCells, Value.cells]
  · intro i h1 h2
    simp [Builtin.zeroCells, Value.cells, Nat.mod_one]
/-- append of k zero bytes ('append(b, make([]byte, k)...)'). -/
theorem run_append_z (w : World) (B : Nat) (v : Value) (l : List UInt8) (ty : TypeId) (k : Nat) (h : Ob w B v l) (hn : l.length + k ≤ 35184372088832) (hB : B ≤ w.heap.size) :
    ∃ v' w', (Builtin.append_ #[22, 3] ty #[v, .int .i64 (k : Nat)]).run Try.prog w = .ok v' w' ∧ Ob w' B v' (l ++ zer k) ∧ Keep (fun x => ownB v = some x) w w' ∧ (∀ x, ownB v' = some x → ownB v = some x ∨ w.heap.size ≤ x) := by
  obtain ⟨i, hi, hz, hs, hb⟩ := info_parts info_byte
  have ht := Try.underlying22
  have htn := Try.underlying3
  obtain ⟨n, hown⟩ := h
  have hl := hown.1
  rw [bv_len, Nat.mul_one] at hl
  subst hl
  have hlen : (bv (l ++ zer k)).length = (l.length + k) * 1 := by rw [bv_len, List.length_append, zer_len, Nat.mul_one]
  have hw : IntKind.i64.wrap (k : Int) = k := IntWalk.i64_in _ (by omega)
  have hneg : ¬ ((k : Int) < 0) := by omega
  obtain ⟨hl, A, c, rfl, hnc, hcm, hg⟩ := hown
  have h48 : ¬ (281474976710656 < (k : Int) * (i.bytes : Int)) := by rw [hb]; omega
  by_cases hroom : l.length + k ≤ c
  · rcases Nat.eq_zero_or_pos k with h0 | h0
    · subst h0
      have e : l ++ zer 0 = l := by simp [zer]
      refine ⟨.slice A l.length c, w, ?_, ⟨l.length, by rw [e]; exact ⟨hl, A, c, rfl, hnc, hcm, hg⟩⟩, Keep.refl _ _, fun x hx => .inl hx⟩
      have hr' : l.length ≤ c := hnc
      have hw0 : IntKind.i64.wrap 0 = 0 := by decide
      rcases A with _ | a <;> simp [hw0, Builtin.append_, run_underlying ht, run_underlying htn, sizeOf, typeInfo, zeroValue, hi, hz, asInt, asIntOf, hw, hneg, h48, hr', storeCells]
    · obtain ⟨g, cur, rfl, hbs, hgg, hcs, htk⟩ := hg (by omega)
      have hfit : l.length * 1 + 0 + (bv (zer k)).length ≤ cur.size := by
        rw [hcs, bv_len, zer_len]; omega
      have hst := run_storeCells_at Try.prog g (l.length * 1) 5 (bv (zer k)) 0 cur w hgg hfit (bv_one _)
      simp only [Nat.add_zero, Nat.mul_one] at hst
      have hk0 : ¬ k = 0 := by omega
      refine ⟨.slice (some ⟨g, 0, none⟩) (l.length + k) c, w.setRow g (cur.toList.take l.length ++ bv (zer k) ++ cur.toList.drop (l.length + (bv (zer k)).length)).toArray, ?_, ⟨l.length + k, ?_⟩, ?_, ?_⟩
      · simp [Builtin.append_, run_underlying ht, run_underlying htn, sizeOf, typeInfo, zeroValue, hi, hz, hs, asInt, asIntOf, hw, hneg, h48, hroom, hk0, Addr.add_lit, zeroCells_zer, hst]
      · refine ⟨hlen, _, c, rfl, hroom, hcm, fun _ => ⟨g, _, rfl, hbs, by simp only [World.setRow, Array.getElem?_modify, if_pos, hgg]; rfl, ?_, ?_⟩⟩
        · simp only [List.size_toArray, List.length_append, List.length_take, List.length_drop, Array.length_toList, bv_len, zer_len]
          omega
        · rw [Nat.mul_one] at htk
          rw [htk, bv_append, ← hlen, bv_append]
          exact List.take_left
      · refine (Keep.refl _ w).setRow (.inr ?_) _
        obtain ⟨c', rfl⟩ : ∃ c', c = c' + 1 := ⟨c - 1, by omega⟩
        rfl
      · intro x hx
        refine .inl ?_
        obtain ⟨c', rfl⟩ : ∃ c', c = c' + 1 := ⟨c - 1, by omega⟩
        exact hx
  · have h0 : 0 < k := by omega
    have hold : (Builtin.firstCells i.size l.length (.slice A l.length c)).run Try.prog w.drew = .ok (bv l).toArray w.drew := by
      rw [hs]
      rcases Nat.eq_zero_or_pos l.length with h0 | h0
      · have hx : l = [] := List.eq_nil_of_length_eq_zero h0
        subst hx
        rcases A with _ | a
        · exact run_firstCells_none w.drew 1 0 0 c
        · exact run_firstCells_some w.drew 1 0 a 0 c [] (by simp) (fun j u hu => by simp at hu)
      · obtain ⟨g, cur, rfl, hbs, hgg, hcs, htk⟩ := hg (by omega)
        refine run_firstCells_some w.drew 1 l.length _ l.length c (bv l) (by rw [bv_len, Nat.mul_one]) (fun j u hu => ?_)
        rw [Addr.add_lit, World.cell?_drew, Nat.zero_add, cell_of_row w g j cur 5 (0, 0) hgg]
        rw [← htk, List.getElem?_take] at hu
        split at hu
        · simpa using hu
        · cases hu
    have hr := Lib.run_append_grow_zeros (P := Try.prog) w 22 3 ty 5 i _ .i64 .i64 ht htn hi hz A l.length c (bv l) hold k h0 (by omega) (by omega) (by omega) (by rw [hb]; omega) (growslice_fits (by omega) (by rw [hb]; omega))
    have hge := grownCap_ge w (l.length + k) c 5
    have hcm' : grownCap w (l.length + k) c 5 ≤ maxLen := grownCap_le_maxLen w (l.length + k) c 5 (by unfold maxLen; omega)
    rw [zeroCells_zer, zeroCells_zer] at hr
    refine ⟨_, _, hr, ⟨l.length + k, ⟨hlen, _, _, rfl, hge, hcm', fun _ => ⟨w.heap.size, _, rfl, hB, heap_alloc_new w.drew _, ?_, ?_⟩⟩⟩, ((Keep.refl _ w).drew).alloc _, ?_⟩
    · simp only [Array.size_append, List.size_toArray, bv_len, zer_len]
      omega
    · simp only [Array.toList_append]
      rw [bv_append] at hlen ⊢
      rw [← hlen]
      exact List.take_left
    · intro x hx
      refine .inr ?_
      generalize grownCap w (l.length + k) c 5 = q at hx
      rcases q with _ | q
      · simp [ownB] at hx
      · simp [ownB] at hx; omega
theorem step_appZ {ops : Array Oper} {o : Oper} {a : Act} {w : World} {K : Act → World → Prop} {Q : Exit → Act → World → Prop} {E : Prop} (hgd : Region.wanted o (yielded ops a.tmps) = true) (s x : Operand)
    (ho : o.op = .call { callee := .builtin .append, args := #[s, x], argTypes := #[22, 3] }) (B : Nat) (v : Value) (l : List UInt8) (hv : a.eval s = v) (hob : Ob w B v l)
    (k : Nat) (hx : a.eval x = .int .i64 (k : Nat)) (hn : l.length + k ≤ 35184372088832) (hB : B ≤ w.heap.size)
    (h : ∀ A n c w', Ob w' B (.slice A n c) (l ++ zer k) → Keep (fun k => ownB v = some k) w w' → K (a.put o.dst (.slice A n c)) w') :
    if Region.wanted o (yielded ops a.tmps) = true then Oper.wp Try.prog o a w K Q else E := by
  rw [if_pos hgd]
  obtain ⟨v', w', hr, h1, h2, -⟩ := run_append_z w B v l o.type k hob hn hB
  obtain ⟨A, n, c, rfl⟩ := h1.form
  unfold Oper.wp execOp
  simp only [ho, resolve, invoke, builtin, Sem.run_bind, Sem.run_pure, Result.andThen_ok, List.map_toArray, List.map_cons, List.map_nil, hv, hx, hr]
  exact h A n c w' h1 h2
theorem wpList_appZ {ops : Array Oper} {rest : List Oper} {o : Oper} {a : Act} {w : World} {Q : Exit → Act → World → Prop} (hgd : Region.wanted o (yielded ops a.tmps) = true) (s x : Operand)
    (ho : o.op = .call { callee := .builtin .append, args := #[s, x], argTypes := #[22, 3] }) (B : Nat) (v : Value) (l : List UInt8) (hv : a.eval s = v) (hob : Ob w B v l)
    (k : Nat) (hx : a.eval x = .int .i64 (k : Nat)) (hn : l.length + k ≤ 35184372088832) (hB : B ≤ w.heap.size)
    (h : ∀ A n c w', Ob w' B (.slice A n c) (l ++ zer k) → Keep (fun k => ownB v = some k) w w' → wpList Try.prog ops Q rest (a.put o.dst (.slice A n c)) w') : wpList Try.prog ops Q (o :: rest) a w :=
  wpList_step fun _ hK => step_appZ hgd s x ho B v l hv hob k hx hn hB fun A n c w' h1 h2 => hK _ _ (h A n c w' h1 h2)
theorem Ob.take0 {W : World} {B : Nat} {A : Option Addr} {n c : Nat} {l : List UInt8} (h : Ob W B (.slice A n c) l) : Ob W B (.slice A 0 c) [] := by
  have hn := h.len
  obtain ⟨k, h⟩ := h
  have hk : k = n := by
    obtain ⟨_, _, _, e, _⟩ := h
    injection e with _ e2 _
    exact e2.symm
  subst hk
  exact ⟨0, by have := h.take (k := 0) (Nat.zero_le _); simpa [bv] using this⟩
theorem grow_nil (n : Nat) (w : World) (hn : n ≤ 1099511627776) :
    Calls Try.prog 44 #[.slice none 0 0, .int .i64 (n : Nat)] w fun e w' => ∃ A c, e = .returned (.slice A 0 c) ∧ Ob w' w.heap.size (.slice A 0 c) [] ∧ Below w.heap.size w w' := by
  have e1 : IntKind.i64.wrap (n : Int) = (n : Int) := IntWalk.i64_in _ (by omega)
  rcases Nat.eq_zero_or_pos n with rfl | h0
  · go_enter Try.func44, Try.ntmps44
    go_wp2
    go_ret
    exact ⟨none, 0, rfl, Ob.nil _ _ _, Below.refl _ _⟩
  · have f1 : (0 : Int) < (n : Int) := by omega
    go_enter Try.func44, Try.ntmps44
    go_wp2_with (refine wpList_appZ (by rfl) _ _ (by rfl) w.heap.size _ [] (by rfl) (Ob.nil _ _ _) n (by rfl) (by simp; omega) (Nat.le_refl _) ?_)
    intro A m c w1 ho hk
    have hm := ho.len
    rw [zer_len] at hm
    subst hm
    have h1 := ho.take0
    have hb := (hk.mono (T := fun _ => False) (fun _ _ e => by simp [ownB] at e)).to_below'
    clear hk
    have hc : m ≤ c := by obtain ⟨_, _, _, _, e, h2, _⟩ := ho; injection e with e1 e2 e3; omega
    clear ho
    go_wp2
    go_ret
    exact ⟨_, _, rfl, h1, hb⟩
theorem flat_next {R : List (List UInt8)} {k : Nat} (h : k < R.length) : (R.take (k + 1)).flatten = (R.take k).flatten ++ R.getD k [] := by
  rw [List.take_succ_eq_append_getElem h, List.flatten_append, List.getD_eq_getElem?_getD, List.getElem?_eq_getElem h]
  simp
theorem flat_le (R : List (List UInt8)) (k : Nat) : (R.take k).flatten.length ≤ R.flatten.length := by
  conv => rhs; rw [← List.take_append_drop k R, List.flatten_append, List.length_append]
  omega
set_option maxHeartbeats 4000000 in
theorem concat_any (R : List (List UInt8)) (v : Value) (F : Nat → Prop) (w : World) (hv : Bys w F v R) (hl : R.flatten.length ≤ 1099511627776) (hR : R.length ≤ 1099511627776) :
    Calls Try.prog 31 #[v] w (ObPost w R.flatten) := by
  have HV := Lib.hid hv
  obtain ⟨A, c, rfl, -⟩ := hv.form
  have NX := Lib.hid (fun k => @flat_next R k)
  have LE := Lib.hid (flat_le R)
  have T0 := Lib.hid (show (R.take 0).flatten = [] by simp)
  have TN := Lib.hid (show (R.take R.length).flatten = R.flatten by rw [List.take_length])
  have GR := Lib.hid (fun W => grow_nil R.flatten.length W hl)
  obtain ⟨Z, hZ⟩ : ∃ Z, R.flatten = Z := ⟨_, rfl⟩
  rw [hZ] at LE TN GR hl ⊢
  obtain ⟨n, hN⟩ : ∃ n, R.length = n := ⟨_, rfl⟩
  have HN := Lib.hid hN
  rw [hN] at TN hR NX ⊢
  clear hN hZ hv
  go_enter Try.func31, Try.ntmps31
  go_wp2
  go_loopw [3, 11] (fun s i wr => ∃ k : Nat, k ≤ n ∧ i = .int .i64 k ∧ wr = w ∧ s = .int .i64 ((R.take k).flatten.length : Nat)) (fun _ i _ => n - (intOf i).toNat)
  case atStart => exact ⟨0, by omega, rfl, rfl, by rw [T0.out]; rfl⟩
  case round =>
    obtain ⟨k, hk, rfl, hw, rfl⟩ := hrel
    obtain rfl : w = wr := hw.symm
    by_cases hlt : k < n
    · have f1 : (k : Int) < (n : Int) := by omega
      obtain ⟨b, off, u, e1, c1, hy⟩ := (show ∀ k, k < R.length → ∃ b off u, A = some ⟨b, off, none⟩ ∧ w.cell? ⟨b, off + k, none⟩ = some u ∧ By w F u (R.getD k []) from by
        obtain ⟨A', c', e', _, _, h⟩ := HV.out.form
        injection e' with e1 e2 e3
        subst e1
        exact h) k (by rw [HN.out]; exact hlt)
      subst e1
      obtain ⟨A1, d1, rfl, -⟩ := id hy
      have NK := congrArg List.length (NX.out k hlt)
      rw [List.length_append] at NK
      have L1 := LE.out k
      have L2 := LE.out (k + 1)
      generalize (List.take k R).flatten.length = x at *
      obtain ⟨y, ey⟩ : ∃ y, (List.take (k + 1) R).flatten.length = y := ⟨_, rfl⟩
      have EY := Lib.hid ey
      rw [ey] at NK L2
      clear ey
      generalize (R.getD k []).length = z at *
      have NK' := Lib.hid NK
      have hy1 : IntKind.i64.wrap ((x : Int) + (z : Int)) = (y : Int) := by rw [IntWalk.i64_in _ (by omega)]; omega
      have hy2 : ¬ (y : Int) < 0 := by omega
      clear NK hy
      go_wp2
      go_roundw
      case rel => exact ⟨k + 1, by omega, by go_num, by first | rfl | trivial, by rw [EY.out]⟩
      case measure => simp [intOf]; omega
    · obtain rfl : k = n := by omega
      have f1 : ¬ (k : Int) < (k : Int) := by omega
      rw [TN.out]
      go_wp2_with fail
      with_reducible refine (GR.out _).mono ?_
      rintro e w1 ⟨A1, c1, rfl, ho, hb⟩
      have H1 := Lib.hid (And.intro ho hb)
      clear ho hb
      go_wp2
      go_loopw [6, 27] (fun s i wr => ∃ j : Nat, j ≤ k ∧ i = .int .i64 j ∧ ∃ A2 n2 c2, s = .slice A2 n2 c2 ∧ Hid (Ob wr w.heap.size (.slice A2 n2 c2) (R.take j).flatten ∧ Below w.heap.size w wr)) (fun _ i _ => k - (intOf i).toNat)
      case atStart => exact ⟨0, by omega, rfl, _, _, _, rfl, Lib.hid (by rw [T0.out]; exact H1.out)⟩
      case round =>
        obtain ⟨j, hj, rfl, A2, n2, c2, rfl, hst⟩ := hrel
        by_cases hlt : j < k
        · have f1 : (j : Int) < (k : Int) := by omega
          have HVr := (HV.out.below hst.out.2)
          obtain ⟨b, off, u, e1, c1, hy⟩ := (show ∀ k, k < R.length → ∃ b off u, A = some ⟨b, off, none⟩ ∧ wr.cell? ⟨b, off + k, none⟩ = some u ∧ By wr F u (R.getD k []) from by
            obtain ⟨A', c', e', _, _, h⟩ := HVr.form
            injection e' with e1 e2 e3
            subst e1
            exact h) j (by rw [HN.out]; exact hlt)
          subst e1
          have NK := Lib.hid (NX.out j hlt)
          have L2 := LE.out (j + 1)
          have HL := Lib.hid (show (R.take j).flatten.length + (R.getD j []).length ≤ 140737488355328 by rw [NK.out, List.length_append] at L2; omega)
          have HY := Lib.hid hy
          obtain ⟨A3, d3, rfl, -⟩ := id hy
          clear hy L2 HVr
          go_wp2_with (refine wpList_app (by rfl) _ _ (by rfl) w.heap.size _ _ (by rfl) hst.out.1 F _ _ (by rfl) HY.out HL.out hst.out.2.size ?_)
          intro A4 n4 c4 w4 ho hk4
          have ho2 : Ob w4 w.heap.size (.slice A4 n4 c4) (R.take (j + 1)).flatten := by rw [NK.out]; exact ho
          have H4 := Lib.hid (And.intro ho2 (append_below0 hst.out.2 hst.out.1.choose_spec hk4))
          clear ho ho2 hk4
          go_wp2
          go_roundw
          case rel => exact ⟨j + 1, by omega, by go_num, _, _, _, rfl, H4⟩
          case measure => simp [intOf]; omega
        · obtain rfl : j = k := by omega
          have f1 : ¬ (j : Int) < (j : Int) := by omega
          go_wp2
          go_ret
          rw [TN.out] at hst
          exact ⟨_, _, _, rfl, hst.out.1, hst.out.2⟩
end Go.Proofs.Ytpedkcmcbejdiaa

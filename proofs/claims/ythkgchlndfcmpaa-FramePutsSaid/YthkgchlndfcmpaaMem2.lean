/- The builtin copy onto memory of the call's own, whatever the source; make. No program in sight. -/
import Derived.Test.YthkgchlndfcmpaaMem
import Derived.Laws.CopyOwn
namespace Go.Proofs.Ythkgchlndfcmpaa
open Go.RowKit
set_option maxRecDepth 100000

/-- What a copy onto block g, place off, leaves: the cells cs are laid there. -/
def Laid (w w' : World) (g off : Nat) (cur : Array Value) (cs : List Value) : Prop :=
  (cs = [] → w' = w) ∧ (cs ≠ [] → w' = w.setRow g (splice cur.toList off cs).toArray)

section
variable {P : Program} {w : World}
theorem run_copy_gen (dT sT ty elem : TypeId) (hu : P.underlying dT = some (.slice elem)) (hsz : (P.info? elem).map (·.size) = some 1)
    (A : Option Addr) (dLen dCap g off : Nat) (cur : Array Value) (t : TypeId) (hA : 0 < dLen → A = some ⟨g, off, none⟩ ∧ w.heap[g]? = some (.cells cur t (0, 0)) ∧ off + dLen ≤ cur.size)
    (F : Nat → Prop) (u : Value) (m : Nat) (ys : List Value) (hs : Sl w F 1 u m ys) (h1 : ∀ y ∈ ys, y.oneCell' = true) :
    ∃ w', (Builtin.copy_ #[dT, sT] ty #[.slice A dLen dCap, u]).run P w = .ok (goInt ((min m dLen : Nat) : Int)) w' ∧ Laid w w' g off cur (ys.take (min m dLen)) := by
  have hl := hs.len
  obtain ⟨B, c, rfl, _, _, _, hr⟩ := hs
  rw [Nat.mul_one] at hl
  rcases Nat.eq_zero_or_pos (min m dLen) with h0 | h0
  · refine ⟨w, ?_, ?_⟩
    · rw [h0]
      exact run_copy_none w dT sT ty elem A B dLen dCap m c hu hsz h0
    · rw [h0]
      exact ⟨fun _ => rfl, fun h => absurd rfl h⟩
  · obtain ⟨rfl, hg, hfit⟩ := hA (by omega)
    obtain ⟨b, o, rfl, _, hc⟩ := hr.2 (by omega)
    have hlen : (ys.take (min m dLen)).length = min m dLen := by rw [List.length_take]; omega
    have hrun := run_copy_row (P := P) w dT sT ty elem g off dLen dCap ⟨b, o, none⟩ m c cur t (ys.take (min m dLen)) hu hsz hg hlen (fun j v hj => by
      have e : (⟨b, o, none⟩ : Addr).add j = ⟨b, o + j, none⟩ := by unfold Addr.add; split <;> simp_all
      rw [e]
      rw [List.getElem?_take] at hj
      split at hj
      · exact hc j v hj
      · cases hj) (by rw [hlen]; omega) (fun v hv => h1 v (List.mem_of_mem_take hv))
    rw [hlen] at hrun
    refine ⟨_, hrun, fun h => ?_, fun _ => ?_⟩
    · rw [h] at hlen
      simp at hlen
      omega
    · unfold splice
      rw [hlen, List.append_assoc]

theorem wp_copy_gen {o : Oper} {a : Act} {K : Act → World → Prop} {Q : Exit → Act → World → Prop} (d s : Operand) (dT sT : TypeId)
    (ho : o.op = .call { callee := .builtin .copy, args := #[d, s], argTypes := #[dT, sT] }) (elem : TypeId) (hu : P.underlying dT = some (.slice elem)) (hsz : (P.info? elem).map (·.size) = some 1)
    (A : Option Addr) (dLen dCap g off : Nat) (cur : Array Value) (t : TypeId) (hd : a.eval d = .slice A dLen dCap) (hA : 0 < dLen → A = some ⟨g, off, none⟩ ∧ w.heap[g]? = some (.cells cur t (0, 0)) ∧ off + dLen ≤ cur.size)
    (F : Nat → Prop) (u : Value) (m : Nat) (ys : List Value) (hv : a.eval s = u) (hs : Sl w F 1 u m ys) (h1 : ∀ y ∈ ys, y.oneCell' = true)
    (h : ∀ w', Laid w w' g off cur (ys.take (min m dLen)) → K (a.put o.dst (goInt ((min m dLen : Nat) : Int))) w') : o.wp P a w K Q := by
  obtain ⟨w', hrun, hw⟩ := run_copy_gen (P := P) (w := w) dT sT o.type elem hu hsz A dLen dCap g off cur t hA F u m ys hs h1
  unfold Oper.wp execOp
  simp only [ho, resolve, invoke, builtin, Sem.run_bind, Sem.run_pure, Result.andThen_ok, List.map_toArray, List.map_cons, List.map_nil, hd, hv, hrun]
  exact h w' hw
theorem wpList_copy_gen {ops : Array Oper} {rest : List Oper} {o : Oper} {a : Act} {Q : Exit → Act → World → Prop} (hgd : Region.wanted o (yielded ops a.tmps) = true) (d s : Operand) (dT sT : TypeId)
    (ho : o.op = .call { callee := .builtin .copy, args := #[d, s], argTypes := #[dT, sT] }) (elem : TypeId) (hu : P.underlying dT = some (.slice elem)) (hsz : (P.info? elem).map (·.size) = some 1)
    (A : Option Addr) (dLen dCap g off : Nat) (cur : Array Value) (t : TypeId) (hd : a.eval d = .slice A dLen dCap) (hA : 0 < dLen → A = some ⟨g, off, none⟩ ∧ w.heap[g]? = some (.cells cur t (0, 0)) ∧ off + dLen ≤ cur.size)
    (F : Nat → Prop) (u : Value) (m : Nat) (ys : List Value) (hv : a.eval s = u) (hs : Sl w F 1 u m ys) (h1 : ∀ y ∈ ys, y.oneCell' = true)
    (h : ∀ w', Laid w w' g off cur (ys.take (min m dLen)) → wpList P ops Q rest (a.put o.dst (goInt ((min m dLen : Nat) : Int))) w') : wpList P ops Q (o :: rest) a w :=
  wpList_step fun _ hK => by
    rw [if_pos hgd]
    exact wp_copy_gen d s dT sT ho elem hu hsz A dLen dCap g off cur t hd hA F u m ys hv hs h1 fun w' hw => hK _ _ (h w' hw)
end

section
variable {w w' : World} {g off : Nat} {cur : Array Value} {cs : List Value}
theorem Laid.keep (h : Laid w w' g off cur cs) : Keep (fun k => k = g) w w' := by
  by_cases hc : cs = []
  · rw [h.1 hc]; exact Keep.refl _ _
  · rw [h.2 hc]; exact Keep.setRow (S := fun k => k = g) (Keep.refl _ w) (.inr rfl) _
theorem Laid.block {t : TypeId} (h : Laid w w' g off cur cs) (hg : w.heap[g]? = some (.cells cur t (0, 0))) : w'.heap[g]? = some (.cells (splice cur.toList off cs).toArray t (0, 0)) := by
  by_cases hc : cs = []
  · rw [h.1 hc, hc, hg]; simp [splice]
  · rw [h.2 hc]; simp [World.setRow, Array.getElem?_modify, hg]
/-- The block of a slice of the call's own. -/
theorem Own.cur_ {base n c : Nat} {e : TypeId} {A : Option Addr} {xs : List Value} (h : Own w base e 1 (.slice A n c) n xs) :
    ∃ g cur, 0 < n → A = some ⟨g, 0, none⟩ ∧ w.heap[g]? = some (.cells cur e (0, 0)) ∧ 0 + n ≤ cur.size := by
  obtain ⟨hlen, A', c', hv, hnc, hcm, hx⟩ := h
  injection hv with h1 h2 h3
  subst h1 h3
  rcases Nat.eq_zero_or_pos c with h0 | h0
  · exact ⟨0, #[], fun h => by omega⟩
  · obtain ⟨g, cur, rfl, hbase, hg, hcs, htk⟩ := hx h0
    exact ⟨g, cur, fun _ => ⟨rfl, hg, by omega⟩⟩
/-- The whole of a slice of the call's own. -/
theorem Own.laid {base n c : Nat} {e : TypeId} {A : Option Addr} {xs : List Value} (h : Own w base e 1 (.slice A n c) n xs) (hA : 0 < n → A = some ⟨g, 0, none⟩ ∧ w.heap[g]? = some (.cells cur e (0, 0)) ∧ 0 + n ≤ cur.size)
    (hl : Laid w w' g 0 cur cs) (hcs : cs.length ≤ n) : Own w' base e 1 (.slice A n c) n (cs ++ xs.drop cs.length) ∧ Keep (fun k => Go.Proofs.Ythkgchlndfcmpaa.ownB (Value.slice A n c) = some k) w w' := by
  rcases Nat.eq_zero_or_pos cs.length with h0 | h0
  · have hc : cs = [] := List.eq_nil_of_length_eq_zero h0
    subst hc
    rw [hl.1 rfl]
    exact ⟨by simpa using h, Keep.refl _ _⟩
  · obtain ⟨rfl, hg, hfit⟩ := hA (by omega)
    have hb := hl.block hg
    obtain ⟨hlen, A', c', hv, hnc, hcm, hx⟩ := h
    injection hv with h1 h2 h3
    subst h1 h3
    obtain ⟨g', cur', hgg, hbase, hgg', hcs', htk⟩ := hx (by omega)
    injection hgg with hgg
    injection hgg with hgg
    subst hgg
    rw [hg] at hgg'
    injection hgg' with hgg'
    injection hgg' with hcur
    subst hcur
    refine ⟨⟨?_, _, c, rfl, hnc, hcm, fun _ => ⟨g, _, rfl, hbase, hb, ?_, ?_⟩⟩, ?_⟩
    · rw [List.length_append, List.length_drop, hlen]; omega
    · have hz : cur.toList.length = cur.size := Array.length_toList
      rw [List.size_toArray, length_splice _ _ _ (by omega), hz, hcs']
    · have e : ((splice cur.toList 0 cs).toArray).toList = cs ++ cur.toList.drop cs.length := by simp [splice]
      rw [e, List.take_append, List.take_of_length_le (by omega), ← htk, List.drop_take]
    · refine hl.keep.mono fun x _ hx => ?_
      subst hx
      obtain ⟨c', rfl⟩ : ∃ c', c = c' + 1 := ⟨c - 1, by omega⟩
      rfl
end
end Go.Proofs.Ythkgchlndfcmpaa

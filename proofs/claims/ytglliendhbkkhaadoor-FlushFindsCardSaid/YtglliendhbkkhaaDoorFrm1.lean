/- Lists of commands in memory; contracts of frame.Check, vivariumref14.Check, Plain, Same, vivariumref13.Much. -/
import Derived.Test.YtglliendhbkkhaaDoorScr1
import Derived.Test.YtglliendhbkkhaaDoorCmd1
import Derived.Test.YtglliendhbkkhaaDoorCmdP
import Derived.Deep.RegionHeld3
import Derived.OwnWalk
import Derived.Deep.Cut
namespace Go.Proofs.YtglliendhbkkhaaDoor
open Go.ChangeShapes Go.WideShapes Go.ChangeAt Go.RowKit
set_option maxRecDepth 100000
set_option linter.unusedVariables false
set_option linter.unusedSimpArgs false

/-- Commands, each with its data's slice. -/
def cmN : Nst Cmd Value where
  cells p := [.int .i64 p.1.do_, .bool p.1.loc, .int .i64 p.1.idx, .int .i64 p.1.gen, .int .i64 p.1.comp, p.2]
  m := 6
  pos := by decide
  len _ := rfl
  inn w F x u := By w F u x.l
  one h u hu := by
    obtain ⟨A, c, rfl, -⟩ := h
    simp only [List.mem_cons, List.not_mem_nil, or_false] at hu
    rcases hu with rfl | rfl | rfl | rfl | rfl | rfl <;> rfl
  keep h hk hs := h.keep hk hs
  mono h hf := h.mono hf
theorem info_cmd : (Tryd.prog.info? 37).map (fun i => (i.zero, i.size, i.bytes)) = some (some (.agg #[.int .i64 0, .bool false, .int .i64 0, .int .i64 0, .int .i64 0, .slice none 0 0]), 6, 64) := by kernel_rfl
theorem cells_at6 {w : World} {b o : Nat} {x : Cmd} {u : Value} (h : ∀ j q, (cmN.cells (x, u))[j]? = some q → w.cell? ⟨b, o + j, none⟩ = some q) :
    w.cell? ⟨b, o, none⟩ = some (.int .i64 x.do_) ∧ w.cell? ⟨b, o + 1, none⟩ = some (.bool x.loc) ∧ w.cell? ⟨b, o + 2, none⟩ = some (.int .i64 x.idx) ∧ w.cell? ⟨b, o + 3, none⟩ = some (.int .i64 x.gen) ∧ w.cell? ⟨b, o + 4, none⟩ = some (.int .i64 x.comp) ∧ w.cell? ⟨b, o + 5, none⟩ = some u :=
  ⟨h 0 _ rfl, h 1 _ rfl, h 2 _ rfl, h 3 _ rfl, h 4 _ rfl, h 5 _ rfl⟩
theorem cmAt {w : World} {F : Nat → Prop} {A : Option Addr} {n c k : Nat} {l : List Cmd} (h : NS cmN w F (.slice A n c) l) (hk : k < n) :
    ∃ b off x A1 c1, A = some ⟨b, off, none⟩ ∧ F b ∧ l[k]? = some x ∧ By w F (.slice A1 x.l.length c1) x.l ∧ ∀ j q, (cmN.cells (x, .slice A1 x.l.length c1))[j]? = some q → w.cell? ⟨b, off + k * 6 + j, none⟩ = some q := by
  obtain ⟨b, off, x, v, h1, h2, h3, h4, h5⟩ := h.at_ hk
  obtain ⟨A1, c1, rfl, -⟩ := id (show By w F v x.l from h4)
  exact ⟨b, off, x, A1, c1, h1, h2, h3, h4, h5⟩
/-- Commands that came in. -/
theorem argCmds {H : Type} {enc : TypeId × Value → H} {w : World} {base : Nat} {spare : Nat → Bool} {held : Bool} {A : Option Addr} {len cap : Nat} {d : DataW H} {p : List MemPlace}
    (h : DataW.Trod enc Tryd.prog w base spare held 22 (.slice A len cap) d p) : ∃ l, NS cmN w (fun _ => True) (.slice A len cap) l ∧ ∀ x ∈ l, ((Lit.int .i64 x.do_).wf = true ∧ (Lit.int .i64 x.idx).wf = true ∧ (Lit.int .i64 x.gen).wf = true ∧ (Lit.int .i64 x.comp).wf = true) := by
  haveI : Inhabited (Cmd × Value) := ⟨(⟨0, false, 0, 0, 0, []⟩, undef)⟩
  obtain ⟨l, g1, g2, g3, rfl, g5, g6⟩ := argSt (f := cmN.cells) (ok := fun y => By w (fun _ => True) y.2 y.1.l ∧ ((Lit.int .i64 y.1.do_).wf = true ∧ (Lit.int .i64 y.1.idx).wf = true ∧ (Lit.int .i64 y.1.gen).wf = true ∧ (Lit.int .i64 y.1.comp).wf = true)) cmN.len (by decide) Tryd.underlying22 cellsCmd (fun n cs x hl hx => by
    obtain ⟨y, u, e, hb, hr⟩ := trod_cmd hl hx
    exact ⟨(y, u), e, hb, hr⟩) h
  have hz : (l.map Prod.fst).zip (l.map Prod.snd) = l := by
    clear g1 g3 g5 h
    induction l with
    | nil => rfl
    | cons y l ih => simp [ih]
  refine ⟨l.map Prod.fst, ⟨l.map Prod.snd, by simp, ?_, fun i x u hx hu => ?_⟩, fun x hx => ?_⟩
  · rw [hz]; exact ⟨A, cap, rfl, g1, g2, g3, g6⟩
  · have h2 : l[i]? = some (x, u) := by rw [← hz]; exact List.getElem?_zip_eq_some.2 ⟨hx, hu⟩
    exact (g5 _ (List.mem_of_getElem? h2)).1
  · obtain ⟨y, hy, rfl⟩ := List.mem_map.1 hx
    exact (g5 y hy).2
/-- The first error. -/
def firstE : List Cmd → Int
  | [] => 0
  | x :: l => if checkC x ≠ 0 then checkC x else firstE l
def checksF (l : List Cmd) : Int := if 64 < l.length then 13 else firstE l
theorem firstE_at {l : List Cmd} {k : Nat} {x : Cmd} (hx : l[k]? = some x) : firstE (l.drop k) = if checkC x ≠ 0 then checkC x else firstE (l.drop (k + 1)) := by
  have hk : k < l.length := (List.getElem?_eq_some_iff.1 hx).1
  have : l.drop k = x :: l.drop (k + 1) := by
    rw [List.drop_eq_getElem_cons hk]
    rw [List.getElem?_eq_getElem hk] at hx
    injection hx with hx
    rw [hx]
  rw [this, firstE]
end Go.Proofs.YtglliendhbkkhaaDoor
namespace Go.Proofs.YtglliendhbkkhaaDoor
open Go.RowKit
set_option maxRecDepth 100000
set_option linter.unusedVariables false
set_option linter.unusedSimpArgs false

instance decCmd : DecidableEq Cmd := fun a b => decidable_of_iff (exactC a b = true) exactC_iff
/-- A list of commands that a call hands back. -/
def CsPost (w : World) (l : List Cmd) (e : Ending) (w' : World) : Prop := ∃ A c, e = .returned (.slice A l.length c) ∧ NS cmN w' (fun _ => True) (.slice A l.length c) l ∧ Below w.heap.size w w'
theorem map_next {l : List Cmd} {k : Nat} {x : Cmd} (f : Cmd → Cmd) (hx : l[k]? = some x) : (l.take (k + 1)).map f = (l.take k).map f ++ [f x] := by
  rw [List.take_add_one, hx, List.map_append]; rfl
/-- More than is asked? -/
def bigC (x : Cmd) : Bool := decide (200 < x.l.length)
def muchC (l : List Cmd) : Bool := (l.take 100).any bigC || decide (70 < l.length)
set_option maxHeartbeats 4000000 in
theorem much13 (l : List Cmd) (v : Value) (F : Nat → Prop) (w : World) (h : NS cmN w F v l) :
    Calls Tryd.prog 4 #[v] w fun e w' => e = .returned (.bool (muchC l)) ∧ w = w' := by
  have HA := Lib.hid h
  have hlen := h.len
  obtain ⟨A, c, rfl, -, -⟩ := h.form
  clear h
  obtain ⟨z, hz⟩ : ∃ z, z = muchC l := ⟨_, rfl⟩
  rw [← hz]
  obtain ⟨n, hn⟩ : ∃ n, n = l.length := ⟨_, rfl⟩
  rw [← hn] at HA hlen ⊢
  have HB := Lib.hid (show ∀ k x, k < n → k < 100 → l[k]? = some x → bigC x = true → z = true from fun k x h1 h2 h3 h4 => by
    rw [hz, muchC, Bool.or_eq_true]
    exact .inl (List.any_eq_true.2 ⟨x, List.mem_of_getElem? (by rw [List.getElem?_take, if_pos h2]; exact h3), h4⟩))
  have HE := Lib.hid (show ∀ k, (n ≤ k ∨ 100 ≤ k) → (l.take k).any bigC = false → z = decide (70 < n) from fun k h1 h2 => by
    rw [hz, muchC, ← hn]
    have : (l.take 100).any bigC = false := by
      rw [List.any_eq_false] at h2 ⊢
      intro x hx
      apply h2
      rcases h1 with h1 | h1
      · rw [List.take_of_length_le (by omega)]
        exact List.mem_of_mem_take hx
      · have : (l.take k).take 100 = l.take 100 := by rw [List.take_take, Nat.min_eq_left h1]
        rw [← this] at hx
        exact List.mem_of_mem_take hx
    rw [this, Bool.false_or])
  have HR := Lib.hid (show ∀ k x, l[k]? = some x → bigC x = false → (l.take k).any bigC = false → (l.take (k + 1)).any bigC = false from fun k x h1 h2 h3 => by
    rw [List.take_add_one, List.any_append, h3, h1]
    simp [h2])
  clear hz hn
  go_enter Tryd.func4, Tryd.ntmps4
  go_wp2
  go_loopw [3] (fun i wr => ∃ k : Nat, k ≤ n ∧ i = .int .i64 k ∧ w = wr ∧ Hid ((l.take k).any bigC = false)) (fun i _ => n - (intOf i).toNat)
  case atStart => exact ⟨0, by omega, rfl, rfl, Lib.hid rfl⟩
  case round =>
    obtain ⟨k, hk, rfl, rfl, ht⟩ := hrel
    by_cases hlt : k < n
    · have hi : (k : Int) < (n : Int) := by omega
      by_cases hh : k < 100
      · have hi2 : (k : Int) < 100 := by omega
        have h00 : (0 : Int) ≤ (k : Int) := by omega
        obtain ⟨b, off, x, A1, c1, rfl, -, hx, hin, hcs⟩ := cmAt HA.out hlt
        obtain ⟨y0, y1, y2, y3, y4, y5⟩ := cells_at6 hcs
        have B1 := HB.out k x hlt hh hx
        have R1 := HR.out k x hx
        clear hcs hx hin
        unfold bigC at B1 R1
        generalize x.l.length = q1 at *
        by_cases c1 : 200 < q1
        · have Z := Lib.hid (B1 (decide_eq_true (by omega)))
          have t1 : (200 : Int) < (q1 : Int) := by omega
          clear B1 R1
          go_wp2
          go_ret
          exact ⟨ret_bool Z.out.symm, rfl⟩
        have NT := Lib.hid (R1 (decide_eq_false (by omega)) ht.out)
        have t1 : ¬ (200 : Int) < (q1 : Int) := by omega
        clear B1 R1
        go_wp2
        go_roundw
        case rel => exact ⟨k + 1, by omega, by first | rfl | trivial | go_num, by first | rfl | trivial, NT⟩
        case measure => simp [intOf]; omega
      · have hi2 : ¬ (k : Int) < 100 := by omega
        have Z := Lib.hid (HE.out k (by omega) ht.out)
        have t4 : (70 : Int) < (n : Int) := by omega
        have Z2 := Lib.hid (show z = true by rw [Z.out]; exact decide_eq_true (by omega))
        go_wp2
        go_ret
        exact ⟨ret_bool Z2.out.symm, rfl⟩
    · have hi : ¬ (k : Int) < (n : Int) := by omega
      have Z := Lib.hid (HE.out k (by omega) ht.out)
      by_cases h80 : 70 < n
      · have t4 : (70 : Int) < (n : Int) := by omega
        have Z2 := Lib.hid (show z = true by rw [Z.out]; exact decide_eq_true (by omega))
        go_wp2
        go_ret
        exact ⟨ret_bool Z2.out.symm, rfl⟩
      · have t4 : ¬ (70 : Int) < (n : Int) := by omega
        have Z2 := Lib.hid (show z = false by rw [Z.out]; exact decide_eq_false (by omega))
        go_wp2
        go_ret
        exact ⟨ret_bool Z2.out.symm, rfl⟩
end Go.Proofs.YtglliendhbkkhaaDoor

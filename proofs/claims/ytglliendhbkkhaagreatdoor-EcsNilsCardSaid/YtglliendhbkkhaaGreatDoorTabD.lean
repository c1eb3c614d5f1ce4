/- Rows in memory; vivariumref09.SameIDs, SameParts, SameTold of two alike. -/
import Derived.Test.YtglliendhbkkhaaGreatDoorTabA
import Derived.Test.YtglliendhbkkhaaGreatDoorSame
namespace Go.Proofs.YtglliendhbkkhaaGreatDoor
open Go.RowKit
set_option maxRecDepth 100000
set_option linter.unusedVariables false
set_option linter.unusedSimpArgs false

/-- A row: whose, and its parts. -/
structure EnZ where
  id : IdZ
  parts : List PtZ
deriving DecidableEq, Inhabited
def entN : Nst EnZ Value where
  cells p := [.int .i64 p.1.id.ix, .int .i64 p.1.id.gen, p.2]
  m := 3
  pos := by decide
  len _ := rfl
  inn w F x u := NS parN w F u x.parts
  one h u hu := by
    obtain ⟨A, c, rfl, -⟩ := h.form
    simp only [List.mem_cons, List.not_mem_nil, or_false] at hu
    rcases hu with rfl | rfl | rfl <;> rfl
  keep h hk hs := NS.keep h hk hs
  mono h hf := NS.mono h hf
theorem info_ent : (Tryz.prog.info? 89).map (fun i => (i.zero, i.size, i.bytes)) = some (some (.agg #[.int .i64 0, .int .i64 0, .slice none 0 0]), 3, 40) := by kernel_rfl
/-- A name of a list of names. -/
theorem ids_at {w : World} {F : Nat → Prop} {A : Option Addr} {n c k : Nat} {l : List IdZ} (h : Sl w F 2 (.slice A n c) n (l.flatMap idC)) (hl : l.length = n) (hk : k < n) :
    ∃ b off, A = some ⟨b, off, none⟩ ∧ F b ∧ w.cell? ⟨b, off + k * 2, none⟩ = some (.int .i64 (l.getD k default).ix) ∧ w.cell? ⟨b, off + k * 2 + 1, none⟩ = some (.int .i64 (l.getD k default).gen) := by
  obtain ⟨A9, c9, e9, _, _, _, hr⟩ := h
  injection e9 with e91 e92 e93
  subst e91
  obtain ⟨b, o, rfl, hF, hc⟩ := hr.2 (by omega)
  obtain ⟨h1, h2⟩ := flat_atId (l := l) (k := k) (by omega)
  exact ⟨b, o, rfl, hF, hc _ _ h1, by have := hc _ _ h2; rwa [← Nat.add_assoc] at this⟩
theorem same_ids (l : List IdZ) (u v : Value) (F G : Nat → Prop) (w : World) (hu : Sl w F 2 u l.length (l.flatMap idC)) (hv : Sl w G 2 v l.length (l.flatMap idC)) :
    Calls Tryz.prog 27 #[u, v] w fun e w' => e = .returned (.bool true) ∧ Keep (fun _ => False) w w' := by
  have HU := Lib.hid hu
  have HV := Lib.hid hv
  obtain ⟨A, c, rfl, h1, h2, -⟩ := hu
  obtain ⟨B, d, rfl, h3, h4, -⟩ := hv
  unfold maxLen at h2 h4
  obtain ⟨n, hn⟩ : ∃ n, l.length = n := ⟨_, rfl⟩
  have HN := Lib.hid hn
  rw [hn] at HU HV h1 h3 ⊢
  clear hn
  have e1 : ((n : Int) != (n : Int)) = false := by simp
  go_enter Tryz.func27, Tryz.ntmps27
  go_wp2
  go_loopw [5] (fun i wr => ∃ (k : Nat), k ≤ n ∧ i = .int .i64 k ∧ Hid (Keep (fun _ => False) w wr)) (fun i _ => n - (intOf i).toNat)
  case atStart => exact ⟨0, by omega, rfl, Lib.hid (Keep.refl _ _)⟩
  case round =>
    obtain ⟨k, hk, rfl, hkw⟩ := hrel
    by_cases hlt : k < n
    · have hi : (k : Int) < (n : Int) := by omega
      obtain ⟨b, off, rfl, -, f1, f2⟩ := ids_at (HU.out.keep hkw.out (fun _ _ _ h => h)) HN.out hlt
      obtain ⟨b2, off2, rfl, -, g1, g2⟩ := ids_at (HV.out.keep hkw.out (fun _ _ _ h => h)) HN.out hlt
      generalize (l.getD k default).ix = x at *
      generalize (l.getD k default).gen = y at *
      have ex : (x == x) = true := by simp
      have ey : (y == y) = true := by simp
      go_wp2
      go_quiet (fail)
      go_wp2
      go_roundw
      case rel => exact ⟨k + 1, by omega, by go_num, Lib.hid (Keep.trans hkw.out (by exact (by repeat first | (with_reducible assumption) | (with_reducible exact Keep.refl _ _) | (with_reducible refine Keep.alloc ?_ _) | (with_reducible refine Keep.drew ?_) | (with_reducible refine Keep.drewN ?_ _) | (with_reducible refine Keep.setCell ?_ (.inl (by first | omega | (simp; done) | (simp; omega) | fail)) _))) (fun _ _ h => h))⟩
      case measure => simp [intOf]; omega
    · have hi : ¬ (k : Int) < (n : Int) := by omega
      go_wp2
      go_ret
      exact ⟨rfl, hkw.out⟩
theorem same_parts (P : List PtZ) (u v : Value) (F G : Nat → Prop) (w : World) (hu : NS parN w F u P) (hv : NS parN w G v P) :
    Calls Tryz.prog 46 #[u, v] w fun e w' => e = .returned (.bool true) ∧ Keep (fun _ => False) w w' := by
  have HU := Lib.hid hu
  have HV := Lib.hid hv
  obtain ⟨A, c, rfl, h2, h1⟩ := hu.form
  obtain ⟨B, d, rfl, h4, h3⟩ := hv.form
  unfold maxLen at h2 h4
  obtain ⟨n, hn⟩ : ∃ n, P.length = n := ⟨_, rfl⟩
  have HN := Lib.hid hn
  rw [hn] at HU HV h1 h3 ⊢
  clear hn hu hv
  have e1 : ((n : Int) != (n : Int)) = false := by simp
  go_enter Tryz.func46, Tryz.ntmps46
  go_wp2
  go_loopw [5] (fun i wr => ∃ (k : Nat), k ≤ n ∧ i = .int .i64 k ∧ Hid (Keep (fun _ => False) w wr)) (fun i _ => n - (intOf i).toNat)
  case atStart => exact ⟨0, by omega, rfl, Lib.hid (Keep.refl _ _)⟩
  case round =>
    obtain ⟨k, hk, rfl, hkw⟩ := hrel
    by_cases hlt : k < n
    · have hi : (k : Int) < (n : Int) := by omega
      obtain ⟨b, off, x, q, rfl, -, hx, hin, hc⟩ := NS.at_ (HU.out.same hkw.out) hlt
      obtain ⟨b2, off2, x2, q2, rfl, -, hx2, hin2, hc2⟩ := NS.at_ (HV.out.same hkw.out) hlt
      have exx : x2 = x := Option.some.inj (hx2.symm.trans hx)
      subst exx
      have f0 := hc 0 _ rfl
      have f1 := hc 1 _ rfl
      have g0 := hc2 0 _ rfl
      have g1 := hc2 1 _ rfl
      simp only [show parN.m = 2 from rfl, Nat.add_zero] at f0 f1 g0 g1
      have SM := Lib.hid (fun W (hk : Keep (fun _ => False) wr W) => same_any x2.data x2.data q q2 F G W (By.keep hin hk (fun _ _ _ h => h)) (By.keep hin2 hk (fun _ _ _ h => h)))
      have SM2 := Lib.hid (fun W (hk : Keep (fun _ => False) wr W) => by have := SM.out W hk; rw [decide_eq_true rfl] at this; exact this)
      obtain ⟨A1, c1, rfl, -⟩ := hin
      obtain ⟨A2, c2, rfl, -⟩ := hin2
      clear hc hc2 hx hx2 SM
      generalize x2.comp = cc at *
      generalize x2.data.length = nd at *
      have ex : (cc != cc) = false := by simp
      have CE := Lib.hid (show ∀ W', Keep (fun _ => False) wr W' → (W'.cell? ⟨b, off + k * 2, none⟩ = some (.int .i64 cc) ∧ W'.cell? ⟨b2, off2 + k * 2, none⟩ = some (.int .i64 cc) ∧ W'.cell? ⟨b, off + k * 2 + 1, none⟩ = some (.slice A1 nd c1) ∧ W'.cell? ⟨b2, off2 + k * 2 + 1, none⟩ = some (.slice A2 nd c2)) from fun W' hk => ⟨hk.cell (fun h => h) f0, hk.cell (fun h => h) g0, hk.cell (fun h => h) f1, hk.cell (fun h => h) g1⟩)
      go_upto_region 6 with fail
      go_region_held3 (fun W' => W'.cell? ⟨b, off + k * 2, none⟩ = some (.int .i64 cc) ∧ W'.cell? ⟨b2, off2 + k * 2, none⟩ = some (.int .i64 cc) ∧ W'.cell? ⟨b, off + k * 2 + 1, none⟩ = some (.slice A1 nd c1) ∧ W'.cell? ⟨b2, off2 + k * 2 + 1, none⟩ = some (.slice A2 nd c2)) (exact CE.out _ (by exact (by repeat first | (with_reducible assumption) | (with_reducible exact Keep.refl _ _) | (with_reducible refine Keep.alloc ?_ _) | (with_reducible refine Keep.drew ?_) | (with_reducible refine Keep.drewN ?_ _) | (with_reducible refine Keep.setCell ?_ (.inl (by first | omega | (simp; done) | (simp; omega) | fail)) _)))) (first
        | (go_at_call 24; (with_reducible refine (SM2.out _ (by exact (by repeat first | (with_reducible assumption) | (with_reducible exact Keep.refl _ _) | (with_reducible refine Keep.alloc ?_ _) | (with_reducible refine Keep.drew ?_) | (with_reducible refine Keep.drewN ?_ _) | (with_reducible refine Keep.setCell ?_ (.inl (by first | omega | (simp; done) | (simp; omega) | fail)) _)))).mono ?_); rintro e w4 ⟨rfl, rfl⟩)
        | fail)
      go_wp2
      go_roundw
      case rel => exact ⟨k + 1, by omega, by go_num, Lib.hid (Keep.trans hkw.out (by exact (by repeat first | (with_reducible assumption) | (with_reducible exact Keep.refl _ _) | (with_reducible refine Keep.alloc ?_ _) | (with_reducible refine Keep.drew ?_) | (with_reducible refine Keep.drewN ?_ _) | (with_reducible refine Keep.setCell ?_ (.inl (by first | omega | (simp; done) | (simp; omega) | fail)) _))) (fun _ _ h => h))⟩
      case measure => simp [intOf]; omega
    · have hi : ¬ (k : Int) < (n : Int) := by omega
      go_wp2
      go_ret
      exact ⟨rfl, hkw.out⟩
end Go.Proofs.YtglliendhbkkhaaGreatDoor
namespace Go.Proofs.YtglliendhbkkhaaGreatDoor
open Go.RowKit
set_option maxRecDepth 100000
set_option linter.unusedVariables false
set_option linter.unusedSimpArgs false

/-- What is told. -/
structure TlZ where
  data : List UInt8
  parts : List PtZ
  id : IdZ
  ok : Bool
  err : Int
deriving DecidableEq, Inhabited
def tlV (t : TlZ) (d p : Value) : Value := .agg #[d, p, .int .i64 t.id.ix, .int .i64 t.id.gen, .bool t.ok, .int .i64 t.err]
/-- u is what t tells. -/
def TlSt (w : World) (F : Nat → Prop) (u : Value) (t : TlZ) : Prop := ∃ d p, u = tlV t d p ∧ By w F d t.data ∧ NS parN w F p t.parts
theorem TlSt.same {w w' : World} {F : Nat → Prop} {u : Value} {t : TlZ} (h : TlSt w F u t) (hk : Keep (fun _ => False) w w') : TlSt w' F u t := by
  obtain ⟨d, p, rfl, h1, h2⟩ := h
  exact ⟨d, p, rfl, h1.keep hk (fun _ _ _ h => h), h2.same hk⟩
end Go.Proofs.YtglliendhbkkhaaGreatDoor
namespace Go.Proofs.YtglliendhbkkhaaGreatDoor
open Go.RowKit
set_option maxRecDepth 100000
set_option linter.unusedVariables false
set_option linter.unusedSimpArgs false

/-- u is the reference's table: components L, their sizes, rows. -/
def RT (w : World) (F : Nat → Prop) (u : Value) (L : List Nat) (sz : Nat → Nat) (rows : List EnZ) : Prop :=
  ∃ vc vs vr, u = .agg #[vc, vs, vr] ∧ Sl w F 1 vc L.length (iv (ints L)) ∧ Sl w F 1 vs L.length (iv (ints (L.map sz))) ∧ NS entN w F vr rows
section
variable {w w' : World} {F G S : Nat → Prop} {u : Value} {L : List Nat} {sz : Nat → Nat} {rows : List EnZ}
theorem RT.keep (h : RT w F u L sz rows) (hk : Keep S w w') (hs : ∀ b, b < w.heap.size → F b → ¬ S b) : RT w' F u L sz rows := by
  obtain ⟨vc, vs, vr, rfl, h1, h2, h3⟩ := h
  exact ⟨vc, vs, vr, rfl, h1.keep hk hs, h2.keep hk hs, h3.keep hk hs⟩
theorem RT.same (h : RT w F u L sz rows) (hk : Keep (fun _ => False) w w') : RT w' F u L sz rows := h.keep hk (fun _ _ _ h => h)
theorem RT.mono (h : RT w F u L sz rows) (hf : ∀ b, b < w.heap.size → F b → G b) : RT w G u L sz rows := by
  obtain ⟨vc, vs, vr, rfl, h1, h2, h3⟩ := h
  exact ⟨vc, vs, vr, rfl, h1.mono hf, h2.mono hf, h3.mono hf⟩
/-- Its form. -/
theorem RT.form (h : RT w F u L sz rows) : ∃ Ac cc As cs Ar cr, u = .agg #[.slice Ac L.length cc, .slice As L.length cs, .slice Ar rows.length cr] ∧ L.length ≤ cc ∧ cc ≤ maxLen ∧ L.length ≤ cs ∧ cs ≤ maxLen ∧ rows.length ≤ cr ∧ cr ≤ maxLen ∧
    Sl w F 1 (.slice Ac L.length cc) L.length (iv (ints L)) ∧ Sl w F 1 (.slice As L.length cs) L.length (iv (ints (L.map sz))) ∧ NS entN w F (.slice Ar rows.length cr) rows := by
  obtain ⟨vc, vs, vr, rfl, h1, h2, h3⟩ := h
  have k1 := h1
  have k2 := h2
  obtain ⟨Ac, cc, rfl, a1, a2, -⟩ := h1
  obtain ⟨As, cs, rfl, b1, b2, -⟩ := h2
  obtain ⟨Ar, cr, rfl, d1, d2⟩ := h3.form
  exact ⟨Ac, cc, As, cs, Ar, cr, rfl, a1, a2, b1, b2, d2, d1, k1, k2, h3⟩
theorem wpList_name {ops : Array Oper} {o : Oper} {rest : List Oper} {a : Act} {w : World} {Q : Exit → Act → World → Prop} (hgd : Region.wanted o (yielded ops a.tmps) = true) (s x : Operand)
    (ho : o.op = .call { callee := .builtin .append, args := #[s, x], argTypes := #[67, 67] }) (B : Nat) (v : Value) (n : Nat) (ids : List IdZ) (hn : ids.length = n) (hv : a.eval s = v) (hown : Own w B 40 2 v n (ids.flatMap idC)) (g c : Nat) (y : IdZ)
    (hy : a.eval x = .slice (some ⟨g, 0, none⟩) 1 c) (h0 : w.cell? ⟨g, 0, none⟩ = some (.int .i64 y.ix)) (h1 : w.cell? ⟨g, 1, none⟩ = some (.int .i64 y.gen)) (hk : n ≤ 1099511627776) (hB : B ≤ w.heap.size)
    (h : ∀ A c w', Own w' B 40 2 (.slice A (n + 1) c) (n + 1) ((ids ++ [y]).flatMap idC) → Keep (fun k => ownB v = some k) w w' → wpList Tryz.prog ops Q rest (a.put o.dst (.slice A (n + 1) c)) w') :
    wpList Tryz.prog ops Q (o :: rest) a w := by
  obtain ⟨is, his, hs0, hs1, hs2⟩ := info_parts info_id
  have hsrc : Src Tryz.prog 2 67 (.slice (some ⟨g, 0, none⟩) 1 c) 1 (idC y) w := Src.ofSlice _ Tryz.underlying67 _ 1 c (idC y) rfl (fun j u hu => by
    match j, hu with
    | 0, hu => cases hu; simpa [Addr.add] using h0
    | 1, hu => cases hu; simpa [Addr.add] using h1) (fun u hu => by
    simp only [idC, List.mem_cons, List.not_mem_nil, or_false] at hu
    rcases hu with rfl | rfl <;> rfl)
  refine wpList_append_gen w hgd s x _ _ ho B 40 is _ 2 16 Tryz.underlying67 his hs0 hs1 hs2 rfl v n _ hv hown _ 1 _ hy hsrc (by unfold maxLen; omega) (by omega) hB ?_
  intro v' w' ho' hk' hn'
  obtain ⟨A, c', rfl, _⟩ := ho'.form
  refine h A c' w' ?_ hk'
  rw [List.flatMap_append]
  simpa using ho'
theorem take_snoc {α β : Type} (f : α → β) {l : List α} {j : Nat} {x : α} (h : l[j]? = some x) : (l.take (j + 1)).map f = (l.take j).map f ++ [f x] := by
  rw [List.take_add_one, h, List.map_append]; rfl
end
end Go.Proofs.YtglliendhbkkhaaGreatDoor
namespace Go.Proofs.YtglliendhbkkhaaGreatDoor
open Go.RowKit
set_option maxRecDepth 100000
set_option linter.unusedVariables false
set_option linter.unusedSimpArgs false

/-- A column of rows. -/
def colR (rows : List EnZ) (i : Nat) : List UInt8 := (rows.map fun r => (r.parts.getD i default).data).flatten
theorem colR_next {rows : List EnZ} {j i : Nat} {r : EnZ} {x : PtZ} (h : rows[j]? = some r) (hx : r.parts[i]? = some x) : colR (rows.take (j + 1)) i = colR (rows.take j) i ++ x.data := by
  unfold colR
  rw [take_snoc (fun r : EnZ => (r.parts.getD i default).data) h, List.flatten_append, List.getD_eq_getElem?_getD, hx]
  simp
theorem colR_len {rows : List EnZ} {i M : Nat} (hw : ∀ r ∈ rows, ∀ p ∈ r.parts, p.data.length ≤ M) (j : Nat) : (colR (rows.take j) i).length ≤ j * M := by
  induction j with
  | zero => simp [colR]
  | succ j ih =>
    rw [Nat.succ_mul]
    by_cases h : j < rows.length
    · have hx := List.getElem?_eq_getElem h
      by_cases h2 : i < rows[j].parts.length
      · rw [colR_next hx (List.getElem?_eq_getElem h2), List.length_append]
        have := hw _ (List.getElem_mem h) _ (List.getElem_mem h2)
        omega
      · have e : colR (rows.take (j + 1)) i = colR (rows.take j) i := by
          unfold colR
          rw [take_snoc (fun r : EnZ => (r.parts.getD i default).data) hx, List.flatten_append, List.getD_eq_getElem?_getD, List.getElem?_eq_none (by omega)]
          have : (default : PtZ).data = [] := rfl
          simp [this]
        rw [e]; omega
    · rw [List.take_of_length_le (by omega)]
      rw [List.take_of_length_le (by omega)] at ih
      omega
section
variable {w w' : World} {F G S : Nat → Prop} {u : Value} {L : List Nat} {sz : Nat → Nat} {rows : List EnZ}
end
end Go.Proofs.YtglliendhbkkhaaGreatDoor
namespace Go.Proofs.YtglliendhbkkhaaGreatDoor
open Go.RowKit
set_option maxRecDepth 100000
set_option linter.unusedVariables false
set_option linter.unusedSimpArgs false

theorem under_tab : Tryz.prog.underlying 163 = some (.struct (Tryz.prog.fieldsOf 163)) := by kernel_rfl
theorem size_tab : (Tryz.prog.info? 163).map (·.size) = some 3 := by kernel_rfl
theorem results_tab {fn : Func} {p : Tmp} (h : fn.results = #[.cell p 163]) (tmps : Array Value) (w : World) (g : Nat) (c0 c1 c2 : Value)
    (hp : tmps.getD p undef = .pointer (some ⟨g, 0, none⟩)) (hg : w.heap[g]? = some (.cells #[c0, c1, c2] 163 (0, 0))) : (results fn tmps).run Tryz.prog w = .ok (.agg #[c0, c1, c2]) w := by
  have hr := run_loadVar_row (P := Tryz.prog) w g 163 163 #[c0, c1, c2] (0, 0) _ hg under_tab rfl size_tab
  have e : (results fn tmps).run Tryz.prog w = ((asAddr (tmps.getD p undef)).run Tryz.prog w).andThen fun a w₁ => (loadVar 163 a).run Tryz.prog w₁ := by
    simp only [results, h]
    simp [Sem.run_bind, Result.andThen]
  rw [e, hp]
  simp [asAddr, hr]
theorem heap_three {w : World} {p : Nat} {t : TypeId} {a b c : Value} (h : w.heap[p]? = some (.cells #[a, b, c] t (0, 0))) (x y z : Value) : (((w.setCell ⟨p, 0, none⟩ x).setCell ⟨p, 1, none⟩ y).setCell ⟨p, 2, none⟩ z).heap[p]? = some (.cells #[x, y, z] t (0, 0)) := by
  rw [heap_setCell_same _ p 2 _ _ z (heap_setCell_same _ p 1 _ _ y (heap_setCell_same w p 0 _ _ x h))]; rfl
theorem step_int {ops : Array Oper} {o : Oper} {a : Act} {w : World} {K : Act → World → Prop} {Q : Exit → Act → World → Prop} {E : Prop} (hgd : Region.wanted o (yielded ops a.tmps) = true) (s x : Operand)
    (ho : o.op = .call { callee := .builtin .append, args := #[s, x], argTypes := #[25, 25] }) (B : Nat) (v : Value) (n : Nat) (D : List Nat) (hn : D.length = n) (hv : a.eval s = v) (hown : Own w B 3 1 v n (iv (ints D))) (g : Nat) (y : Nat)
    (hy : a.eval x = .slice (some ⟨g, 0, none⟩) 1 1) (h0 : w.cell? ⟨g, 0, none⟩ = some (.int .i64 (y : Int))) (hk : n ≤ 1099511627776) (hB : B ≤ w.heap.size)
    (h : ∀ A c w', Own w' B 3 1 (.slice A (n + 1) c) (n + 1) (iv (ints (D ++ [y]))) → Keep (fun k => ownB v = some k) w w' → (∀ k', ownB (.slice A (n + 1) c) = some k' → ownB v = some k' ∨ w.heap.size ≤ k') → K (a.put o.dst (.slice A (n + 1) c)) w') :
    if Region.wanted o (yielded ops a.tmps) = true then Oper.wp Tryz.prog o a w K Q else E := by
  obtain ⟨is, his, hs0, hs1, hs2⟩ := info_parts info_int
  refine step_append_gen w hgd s x _ _ ho B 3 is _ 1 8 Tryz.underlying25 his hs0 hs1 hs2 rfl v n _ hv hown _ 1 _ hy (src_at Tryz.underlying25 (x := .int .i64 (y : Int)) rfl h0) (by unfold maxLen; omega) (by omega) hB ?_
  intro v' w' ho' hk' hn'
  obtain ⟨A, c', rfl, _⟩ := ho'.form
  exact h A c' w' (by simpa [ints, iv] using ho') hk' hn'
theorem wpList_int {ops : Array Oper} {o : Oper} {rest : List Oper} {a : Act} {w : World} {Q : Exit → Act → World → Prop} (hgd : Region.wanted o (yielded ops a.tmps) = true) (s x : Operand)
    (ho : o.op = .call { callee := .builtin .append, args := #[s, x], argTypes := #[25, 25] }) (B : Nat) (v : Value) (n : Nat) (D : List Nat) (hn : D.length = n) (hv : a.eval s = v) (hown : Own w B 3 1 v n (iv (ints D))) (g : Nat) (y : Nat)
    (hy : a.eval x = .slice (some ⟨g, 0, none⟩) 1 1) (h0 : w.cell? ⟨g, 0, none⟩ = some (.int .i64 (y : Int))) (hk : n ≤ 1099511627776) (hB : B ≤ w.heap.size)
    (h : ∀ A c w', Own w' B 3 1 (.slice A (n + 1) c) (n + 1) (iv (ints (D ++ [y]))) → Keep (fun k => ownB v = some k) w w' → (∀ k', ownB (.slice A (n + 1) c) = some k' → ownB v = some k' ∨ w.heap.size ≤ k') → wpList Tryz.prog ops Q rest (a.put o.dst (.slice A (n + 1) c)) w') :
    wpList Tryz.prog ops Q (o :: rest) a w :=
  wpList_step fun _ hK => step_int hgd s x ho B v n D hn hv hown g y hy h0 hk hB fun A c w' h1 h2 h3 => hK _ _ (h A c w' h1 h2 h3)
theorem allOf_bit {l : List Cp} {c : Nat} (h : c < 64) : (allOf l).testBit c = decide (c < l.length) := by
  unfold allOf
  rw [orL_testBit, decide_eq_true h]
  simp only [Nat.zero_testBit, Bool.false_or, Bool.true_and]
  by_cases h2 : c < l.length
  · rw [decide_eq_true h2, decide_eq_true]
    exact List.mem_map.2 ⟨c, List.mem_range.2 h2, rfl⟩
  · rw [decide_eq_false h2, decide_eq_false]
    intro hm
    obtain ⟨x, h3, h4⟩ := List.mem_map.1 hm
    have := List.mem_range.1 h3
    omega
theorem bl_filter (l : List Cp) (s : Nat) : ∀ k, k ≤ 64 → (bl s k).filter (fun c => decide (c < l.length)) = bl (s &&& allOf l) k
  | 0, _ => rfl
  | k + 1, h => by
    show (bl s k ++ if s.testBit k then [k] else []).filter _ = bl (s &&& allOf l) k ++ if (s &&& allOf l).testBit k then [k] else []
    rw [List.filter_append, bl_filter l s k (by omega), Nat.testBit_and, allOf_bit (by omega)]
    congr 1
    cases s.testBit k with
    | false => simp
    | true =>
      by_cases h2 : k < l.length
      · simp [h2]
      · simp [h2]
theorem filt_next {L : List Nat} {p : Nat → Bool} {j : Nat} (h : j < L.length) : (L.take (j + 1)).filter p = (L.take j).filter p ++ (if p (L.getD j 0) = true then [L.getD j 0] else []) := by
  rw [List.take_succ_eq_append_getElem h, List.filter_append, List.getD_eq_getElem?_getD, List.getElem?_eq_getElem h]
  simp [List.filter_cons]
end Go.Proofs.YtglliendhbkkhaaGreatDoor
namespace Go.Proofs.YtglliendhbkkhaaGreatDoor
open Go.RowKit
set_option maxRecDepth 100000
set_option linter.unusedVariables false
set_option linter.unusedSimpArgs false

/-- Where New stands: the table in block p. -/
structure RnS (W : World) (p B : Nat) (A3 : Option Addr) (c3 d1 : Nat) (D : List Nat) (A4 : Option Addr) (c4 d2 : Nat) (E : List Nat) : Prop where
  box : W.heap[p]? = some (.cells #[.slice A3 d1 c3, .slice A4 d2 c4, .slice none 0 0] 163 (0, 0))
  oc : Own W B 3 1 (.slice A3 d1 c3) d1 (iv (ints D))
  os : Own W B 3 1 (.slice A4 d2 c4) d2 (iv (ints E))
  ne : ∀ k, ownB (.slice A3 d1 c3) = some k → ownB (.slice A4 d2 c4) ≠ some k
  l1 : D.length = d1
  l2 : E.length = d2
section
variable {W W' w5 w6 : World} {p B : Nat} {A3 A4 A5 : Option Addr} {c3 d1 c4 d2 c5 : Nat} {D E : List Nat} {y : Nat}
theorem RnS.same (h : RnS W p B A3 c3 d1 D A4 c4 d2 E) (hk : Keep (fun _ => False) W W') : RnS W' p B A3 c3 d1 D A4 c4 d2 E :=
  ⟨(hk.block p (Array.getElem?_eq_some_iff.1 h.box).1 (fun h => h)).trans h.box, h.oc.keep hk (fun _ _ h => h), h.os.keep hk (fun _ _ h => h), h.ne, h.l1, h.l2⟩
theorem RnS.push1 (h : RnS W p B A3 c3 d1 D A4 c4 d2 E) (hpB : p < B) (k1 : Keep (fun _ => False) W w5) (ho : Own w6 B 3 1 (.slice A5 (d1 + 1) c5) (d1 + 1) (iv (ints (D ++ [y])))) (k2 : Keep (fun k => ownB (.slice A3 d1 c3) = some k) w5 w6) (hn : ∀ k, ownB (.slice A5 (d1 + 1) c5) = some k → ownB (.slice A3 d1 c3) = some k ∨ w5.heap.size ≤ k) :
    w6.heap[p]? = some (.cells #[.slice A3 d1 c3, .slice A4 d2 c4, .slice none 0 0] 163 (0, 0)) ∧ RnS (w6.setCell ⟨p, 0, none⟩ (.slice A5 (d1 + 1) c5)) p B A5 c5 (d1 + 1) (D ++ [y]) A4 c4 d2 E ∧ Keep (fun x => x = p ∨ B ≤ x) W (w6.setCell ⟨p, 0, none⟩ (.slice A5 (d1 + 1) c5)) := by
  have hkw : Keep (fun k => ownB (.slice A3 d1 c3) = some k) W w6 := (k1.mono (T := fun k => ownB (.slice A3 d1 c3) = some k) (fun _ _ h => h.elim)).trans k2 (fun _ _ h => h)
  have hks : Keep (fun x => x = p) w6 (w6.setCell ⟨p, 0, none⟩ (.slice A5 (d1 + 1) c5)) := Keep.setCell (S := fun x => x = p) (p := ⟨p, 0, none⟩) (Keep.refl _ _) (.inr rfl) _
  have hb6 := (hkw.block p (Array.getElem?_eq_some_iff.1 h.box).1 (fun e => by have := (h.oc.ownB p e).1; omega)).trans h.box
  refine ⟨hb6, ⟨by rw [heap_setCell_same w6 p 0 _ _ _ hb6]; rfl, ho.keep hks (fun k e e2 => by have := (ho.ownB k e).1; omega), (h.os.keep hkw (fun k e e2 => h.ne k e2 e)).keep hks (fun k e e2 => by have := (h.os.ownB k e).1; omega), fun k e e2 => ?_, by rw [List.length_append, h.l1]; rfl, h.l2⟩, (hkw.mono (fun k _ e => .inr (h.oc.ownB k e).1)).trans hks (fun _ _ e => .inl e)⟩
  rcases hn k e with e3 | e3
  · exact h.ne k e3 e2
  · have := (h.os.ownB k e2).2
    have := k1.size
    omega
theorem RnS.push2 (h : RnS W p B A3 c3 d1 D A4 c4 d2 E) (hpB : p < B) (k1 : Keep (fun _ => False) W w5) (ho : Own w6 B 3 1 (.slice A5 (d2 + 1) c5) (d2 + 1) (iv (ints (E ++ [y])))) (k2 : Keep (fun k => ownB (.slice A4 d2 c4) = some k) w5 w6) (hn : ∀ k, ownB (.slice A5 (d2 + 1) c5) = some k → ownB (.slice A4 d2 c4) = some k ∨ w5.heap.size ≤ k) :
    w6.heap[p]? = some (.cells #[.slice A3 d1 c3, .slice A4 d2 c4, .slice none 0 0] 163 (0, 0)) ∧ RnS (w6.setCell ⟨p, 1, none⟩ (.slice A5 (d2 + 1) c5)) p B A3 c3 d1 D A5 c5 (d2 + 1) (E ++ [y]) ∧ Keep (fun x => x = p ∨ B ≤ x) W (w6.setCell ⟨p, 1, none⟩ (.slice A5 (d2 + 1) c5)) := by
  have hkw : Keep (fun k => ownB (.slice A4 d2 c4) = some k) W w6 := (k1.mono (T := fun k => ownB (.slice A4 d2 c4) = some k) (fun _ _ h => h.elim)).trans k2 (fun _ _ h => h)
  have hks : Keep (fun x => x = p) w6 (w6.setCell ⟨p, 1, none⟩ (.slice A5 (d2 + 1) c5)) := Keep.setCell (S := fun x => x = p) (p := ⟨p, 1, none⟩) (Keep.refl _ _) (.inr rfl) _
  have hb6 := (hkw.block p (Array.getElem?_eq_some_iff.1 h.box).1 (fun e => by have := (h.os.ownB p e).1; omega)).trans h.box
  refine ⟨hb6, ⟨by rw [heap_setCell_same w6 p 1 _ _ _ hb6]; rfl, (h.oc.keep hkw (fun k e e2 => h.ne k e e2)).keep hks (fun k e e2 => by have := (h.oc.ownB k e).1; omega), ho.keep hks (fun k e e2 => by have := (ho.ownB k e).1; omega), fun k e e2 => ?_, h.l1, by rw [List.length_append, h.l2]; rfl⟩, (hkw.mono (fun k _ e => .inr (h.os.ownB k e).1)).trans hks (fun _ _ e => .inl e)⟩
  rcases hn k e2 with e3 | e3
  · exact h.ne k e e3
  · have := (h.oc.ownB k e).2
    have := k1.size
    omega
end
set_option maxHeartbeats 1000000 in
theorem rnew_nil (c : Cf) (u : Value) (F : Nat → Prop) (sig : Nat) (hs : sig < 18446744073709551616) (w : World) (hu : CL w F u c.l) (h40 : c.l.length ≤ 1000) :
    Calls Tryz.prog 135 #[confV c u, .int .u64 (sig : Int)] w fun e w' => ∃ vc vs, e = .returned (.agg #[vc, vs, .slice none 0 0]) ∧ RT w' (fun b => w.heap.size ≤ b) (.agg #[vc, vs, .slice none 0 0]) (bl (sig &&& allOf c.l) 64) (szOf c.l) [] ∧ Below w.heap.size w w' := by
  have hu0 := hu
  obtain ⟨A, cap, rfl, hnc, hcm, -⟩ := hu
  have HU := Lib.hid hu0
  unfold confV
  obtain ⟨log, pages, ents, gens, l⟩ := c
  simp only at hnc HU h40 ⊢
  have BF2 := Lib.hid (bl_filter l sig 64 (Nat.le_refl _))
  obtain ⟨n, hn⟩ : ∃ n, n = l.length := ⟨_, rfl⟩
  have HN := Lib.hid hn
  rw [← hn] at hnc HU ⊢
  clear hn hcm hu0
  have XB := Lib.hid (show ∀ W, W = (((w.alloc (.cells #[.int .i64 log, .int .i64 pages, .int .i64 ents, .int .i64 gens, .slice A n cap] 24 (0, 0))).alloc (.cells #[.slice none 0 0, .slice none 0 0, .slice none 0 0] 163)).alloc (.cells #[.slice none 0 0, .slice none 0 0, .slice none 0 0] 163)) → W.heap[w.heap.size]? = some (.cells #[.int .i64 log, .int .i64 pages, .int .i64 ents, .int .i64 gens, .slice A n cap] 24 (0, 0)) ∧ W.heap[w.heap.size + 1]? = some (.cells #[.slice none 0 0, .slice none 0 0, .slice none 0 0] 163 (0, 0)) ∧ W.heap[w.heap.size + 1 + 1]? = some (.cells #[.slice none 0 0, .slice none 0 0, .slice none 0 0] 163 (0, 0)) ∧ Keep (fun _ => False) w W from fun W hW => by
    subst hW
    have k1 : ∀ (W : World) (b : Nat) (o : Obj), b < W.heap.size → (W.alloc o).heap[b]? = W.heap[b]? := fun W b o hb => ((Keep.refl (fun _ => False) W).alloc o).block b hb (fun h => h)
    exact ⟨(k1 _ _ _ (by simp; omega)).trans ((k1 _ _ _ (by simp)).trans (heap_alloc_new w _)), (k1 _ _ _ (by simp)).trans (heap_alloc_at _ _ _ (by simp)), heap_alloc_at _ _ _ (by simp), (((Keep.refl _ w).alloc _).alloc _).alloc _⟩)
  go_enter Tryz.func135, Tryz.ntmps135
  go_upto_region 2 with fail
  refine wp_world (S := fun W => W.heap[w.heap.size]? = some (.cells #[.int .i64 log, .int .i64 pages, .int .i64 ents, .int .i64 gens, .slice A n cap] 24 (0, 0)) ∧ W.heap[w.heap.size + 1]? = some (.cells #[.slice none 0 0, .slice none 0 0, .slice none 0 0] 163 (0, 0)) ∧ W.heap[w.heap.size + 1 + 1]? = some (.cells #[.slice none 0 0, .slice none 0 0, .slice none 0 0] 163 (0, 0)) ∧ Keep (fun _ => False) w W) (XB.out _ rfl) ?_
  intro X hX
  have HX := Lib.hid hX
  have hX3 : w.heap.size + 3 ≤ X.heap.size := by have := (Array.getElem?_eq_some_iff.1 hX.2.2.1).1; omega
  clear hX XB
  have RL := Lib.hid (refList_any sig hs X)
  go_wp2_with fail
  with_reducible refine RL.out.mono ?_
  rintro e w1 ⟨u1, rfl, ho1, hb1⟩
  obtain ⟨A1, d1, rfl, -⟩ := ho1.form
  have hz1 := hb1.size
  have H1 := Lib.hid (show Sl w1 (fun k => X.heap.size ≤ k) 1 (.slice A1 (bl sig 64).length d1) (bl sig 64).length (iv (ints (bl sig 64))) ∧ Keep (fun _ => False) w w1 ∧ w1.heap[w.heap.size]? = some (.cells #[.int .i64 log, .int .i64 pages, .int .i64 ents, .int .i64 gens, .slice A n cap] 24 (0, 0)) ∧ w1.heap[w.heap.size + 1]? = some (.cells #[.slice none 0 0, .slice none 0 0, .slice none 0 0] 163 (0, 0)) ∧ w1.heap[w.heap.size + 1 + 1]? = some (.cells #[.slice none 0 0, .slice none 0 0, .slice none 0 0] 163 (0, 0)) from
    ⟨ho1.sl, HX.out.2.2.2.trans (Keep.of_below' hb1) (fun _ _ h => h), (hb1.block _ (by omega)).trans HX.out.1, (hb1.block _ (by omega)).trans HX.out.2.1, (hb1.block _ (by omega)).trans HX.out.2.2.1⟩)
  clear ho1 hb1 RL
  have L64 := bl_len sig 64
  have LT64 := Lib.hid (fun j (hj : j < (bl sig 64).length) => bl_lt (getD_mem hj))
  have FN := Lib.hid (fun j (hj : j < (bl sig 64).length) => filt_next (p := fun c => decide (c < l.length)) hj)
  have TL := Lib.hid (show (bl sig 64).take (bl sig 64).length = bl sig 64 from List.take_length)
  obtain ⟨L, hL⟩ : ∃ L, bl sig 64 = L := ⟨_, rfl⟩
  rw [hL] at BF2 H1 L64 LT64 FN TL ⊢
  clear hL
  obtain ⟨m, hm⟩ : ∃ m, L.length = m := ⟨_, rfl⟩
  have HM := Lib.hid hm
  rw [hm] at H1 L64 LT64 FN TL ⊢
  clear hm
  go_wp2
  go_loopw [7] (fun i wr => ∃ (j d : Nat), j ≤ m ∧ d ≤ j ∧ i = .int .i64 (j : Int) ∧ Hid (∃ A3 c3 A4 c4, RnS wr (w.heap.size + 1 + 1) w1.heap.size A3 c3 d ((L.take j).filter fun c => decide (c < l.length)) A4 c4 d (((L.take j).filter fun c => decide (c < l.length)).map (szOf l))) ∧ Hid (Keep (fun x => x = w.heap.size + 1 + 1 ∨ w1.heap.size ≤ x) w1 wr)) (fun i _ => m - (intOf i).toNat)
  case atStart => exact ⟨0, 0, by omega, by omega, rfl, Lib.hid ⟨none, 0, none, 0, H1.out.2.2.2.2, Own.none_ _ _ _ _ _, Own.none_ _ _ _ _ _, (fun k h => by cases h), rfl, rfl⟩, Lib.hid (Keep.refl _ _)⟩
  case round =>
    obtain ⟨j, d, hj, hdj, rfl, hst, hkr⟩ := hrel
    have KX := Lib.hid (show Keep (fun x => w.heap.size ≤ x) w wr from (H1.out.2.1.mono (T := fun x => w.heap.size ≤ x) (fun _ _ h => h.elim)).trans hkr.out (fun x _ e => by omega))
    have hszr := hkr.out.size
    by_cases hlt : j < m
    · have f1 : (j : Int) < (m : Int) := by omega
      have f0 : (0 : Int) ≤ (j : Int) := by omega
      obtain ⟨b1, o1, rfl, hcl⟩ := ints_at (H1.out.1.keep hkr.out (fun k hk1 h e => by omega)) HM.out hlt
      have hc64 := LT64.out j hlt
      have FNj := Lib.hid (FN.out j hlt)
      generalize L.getD j 0 = c at *
      have hcf : wr.heap[w.heap.size]? = some (.cells #[.int .i64 log, .int .i64 pages, .int .i64 ents, .int .i64 gens, .slice A n cap] 24 (0, 0)) := (hkr.out.block _ (by omega) (fun e => by omega)).trans H1.out.2.2.1
      obtain ⟨x0, x1, x2, x3, x4, xf⟩ := cells5 hcf
      have CE := Lib.hid (show ∀ W', Keep (fun _ => False) wr W' → (W'.cell? ⟨w.heap.size, 0, none⟩ = some (.int .i64 log) ∧ W'.cell? ⟨w.heap.size, 1, none⟩ = some (.int .i64 pages) ∧ W'.cell? ⟨w.heap.size, 2, none⟩ = some (.int .i64 ents) ∧ W'.cell? ⟨w.heap.size, 3, none⟩ = some (.int .i64 gens) ∧ W'.cell? ⟨w.heap.size, 4, none⟩ = some (.slice A n cap) ∧ W'.cell? ⟨b1, o1 + j, none⟩ = some (.int .i64 (c : Int))) from fun W' hk => ⟨hk.cell (fun h => h) x0, hk.cell (fun h => h) x1, hk.cell (fun h => h) x2, hk.cell (fun h => h) x3, hk.cell (fun h => h) x4, hk.cell (fun h => h) hcl⟩)
      have CS := Lib.hid (fun W' (hk : Keep (fun _ => False) wr W') => by have := rsize_any ⟨log, pages, ents, gens, l⟩ (.slice A n cap) F (c : Int) W' ((HU.out.keep KX.out (fun b hb _ h => by omega)).same hk) (by omega) (by omega); unfold confV at this; exact this)
      by_cases hcn : c < l.length
      · have CS2 := Lib.hid (fun W' hk => by have := CS.out W' hk; rw [if_pos ⟨by omega, by simp only; omega⟩, decide_eq_true (show 0 ≤ (c : Int) ∧ (c : Int) < (l.length : Int) by omega), Int.toNat_natCast] at this; exact this)
        rw [decide_eq_true hcn] at FNj
        have SZ := Lib.hid (show clampN (szAt l c) = szOf l c from rfl)
        clear hcf CS hcn
        obtain ⟨z, hz⟩ : ∃ z, szAt l c = z := ⟨_, rfl⟩
        rw [hz] at CS2 SZ
        clear hz
        go_upto_region 6 with fail
        go_region_held3 (fun W' => W'.cell? ⟨w.heap.size, 0, none⟩ = some (.int .i64 log) ∧ W'.cell? ⟨w.heap.size, 1, none⟩ = some (.int .i64 pages) ∧ W'.cell? ⟨w.heap.size, 2, none⟩ = some (.int .i64 ents) ∧ W'.cell? ⟨w.heap.size, 3, none⟩ = some (.int .i64 gens) ∧ W'.cell? ⟨w.heap.size, 4, none⟩ = some (.slice A n cap) ∧ W'.cell? ⟨b1, o1 + j, none⟩ = some (.int .i64 (c : Int))) (exact CE.out _ (by exact (by repeat first | (with_reducible assumption) | (with_reducible exact Keep.refl _ _) | (with_reducible refine Keep.alloc ?_ _) | (with_reducible refine Keep.drew ?_) | (with_reducible refine Keep.drewN ?_ _) | (with_reducible refine Keep.setCell ?_ (.inl (by first | omega | (simp; done) | (simp; omega) | fail)) _)))) (first
          | (go_at_call 40; (with_reducible refine (CS2.out _ (by exact (by repeat first | (with_reducible assumption) | (with_reducible exact Keep.refl _ _) | (with_reducible refine Keep.alloc ?_ _) | (with_reducible refine Keep.drew ?_) | (with_reducible refine Keep.drewN ?_ _) | (with_reducible refine Keep.setCell ?_ (.inl (by first | omega | (simp; done) | (simp; omega) | fail)) _)))).mono ?_); rintro e w4 ⟨rfl, hb4⟩; have k4 : Keep (fun _ => False) wr w4 := Keep.trans (by exact (by repeat first | (with_reducible assumption) | (with_reducible exact Keep.refl _ _) | (with_reducible refine Keep.alloc ?_ _) | (with_reducible refine Keep.drew ?_) | (with_reducible refine Keep.drewN ?_ _) | (with_reducible refine Keep.setCell ?_ (.inl (by first | omega | (simp; done) | (simp; omega) | fail)) _))) (Keep.of_below' hb4) (fun _ _ h => h); clear hb4)
          | fail)
        clear x0 x1 x2 x3 x4 xf CS2
        all_goals
          obtain ⟨A3, c3, A4, c4, hs3⟩ := hst.out
          have HS4 := Lib.hid (hs3.same k4)
          have K4 := Lib.hid (hkr.out.trans k4 (fun _ _ h => h.elim))
          have hcl4 := (CE.out w4 k4).2.2.2.2.2
          have hz4 := k4.size
          obtain ⟨t0, t1, t2, tf⟩ := cells3 HS4.out.box
          clear hs3 CE hcl hst
          rcases (show z < 0 ∨ 64 < z ∨ ∃ q : Nat, z = (q : Int) ∧ q ≤ 64 by
            by_cases h1 : z < 0
            · exact .inl h1
            · by_cases h2 : 64 < z
              · exact .inr (.inl h2)
              · exact .inr (.inr ⟨z.toNat, by omega, by omega⟩)) with hz | hz | ⟨q, rfl, hz⟩
          case inl =>
            have SZ2 := Lib.hid (show szOf l c = 0 by rw [← SZ.out]; unfold clampN; rw [if_pos hz])
            go_upto_region 12 with fail
            have ha1 : ∀ o, (w4.alloc o).cell? ⟨w.heap.size + 1 + 1, 0, none⟩ = some (.slice A3 d c3) := fun o => ((Keep.refl (fun _ => False) w4).alloc o).cell (fun h => h) t0
            have ha2 : ∀ o, (w4.drew.alloc o).cell? ⟨w.heap.size + 1 + 1, 0, none⟩ = some (.slice A3 d c3) := fun o => ((Keep.refl (fun _ => False) w4.drew).alloc o).cell (fun h => h) t0
            go_region_law (first
              | ((refine step_int (by rfl) _ _ (by rfl) w1.heap.size _ d _ HS4.out.l1 (by rfl) (HS4.out.oc.keep (S := fun _ => False) (by exact (by repeat first | (with_reducible assumption) | (with_reducible exact Keep.refl _ _) | (with_reducible refine Keep.alloc ?_ _) | (with_reducible refine Keep.drew ?_) | (with_reducible refine Keep.drewN ?_ _) | (with_reducible refine Keep.setCell ?_ (.inl (by first | omega | (simp; done) | (simp; omega) | fail)) _))) (fun _ _ h => h)) _ c (by rfl) (by first | exact lit_cells _ _ _ 0 _ rfl | (rw [World.cell?_drew]; exact lit_cells _ _ _ 0 _ rfl)) (by omega) (by simp; omega) ?_); intro A6 c6 w6 ho6 hk6 hn6; have H6 := Lib.hid (HS4.out.push1 (by omega) (by exact (by repeat first | (with_reducible assumption) | (with_reducible exact Keep.refl _ _) | (with_reducible refine Keep.alloc ?_ _) | (with_reducible refine Keep.drew ?_) | (with_reducible refine Keep.drewN ?_ _) | (with_reducible refine Keep.setCell ?_ (.inl (by first | omega | (simp; done) | (simp; omega) | fail)) _))) ho6 hk6 hn6); obtain ⟨y0, y1, y2, yf⟩ := cells3 H6.out.1; clear ho6 hk6 hn6)
              | fail)
            all_goals
              clear ha1 ha2 t0 t1 t2 tf hcl4
              go_upto_region 13 with fail
              refine wp_world (S := fun W => RnS W (w.heap.size + 1 + 1) w1.heap.size A6 c6 (d + 1) (((L.take j).filter fun c => decide (c < l.length)) ++ [c]) A4 c4 d (((L.take j).filter fun c => decide (c < l.length)).map (szOf l)) ∧ Keep (fun x => x = w.heap.size + 1 + 1 ∨ w1.heap.size ≤ x) w4 W) ⟨H6.out.2.1.same (by exact (by repeat first | (with_reducible assumption) | (with_reducible exact Keep.refl _ _) | (with_reducible refine Keep.alloc ?_ _) | (with_reducible refine Keep.drew ?_) | (with_reducible refine Keep.drewN ?_ _) | (with_reducible refine Keep.setCell ?_ (.inl (by first | omega | (simp; done) | (simp; omega) | fail)) _))), Keep.trans (T := fun _ => False) H6.out.2.2 (by exact (by repeat first | (with_reducible assumption) | (with_reducible exact Keep.refl _ _) | (with_reducible refine Keep.alloc ?_ _) | (with_reducible refine Keep.drew ?_) | (with_reducible refine Keep.drewN ?_ _) | (with_reducible refine Keep.setCell ?_ (.inl (by first | omega | (simp; done) | (simp; omega) | fail)) _))) (fun _ _ h => h.elim)⟩ ?_
              intro W7 hW7
              have H7 := Lib.hid hW7
              have hz7 := H7.out.2.size
              clear hW7 H6 y0 y1 y2 yf
              obtain ⟨t0, t1, t2, tf⟩ := cells3 H7.out.1.box
              go_wp2_with (at_builtin; refine wpList_int (by rfl) _ _ (by rfl) w1.heap.size _ d _ H7.out.1.l2 (by rfl) (H7.out.1.os.keep (S := fun _ => False) (by exact (by repeat first | (with_reducible assumption) | (with_reducible exact Keep.refl _ _) | (with_reducible refine Keep.alloc ?_ _) | (with_reducible refine Keep.drew ?_) | (with_reducible refine Keep.drewN ?_ _) | (with_reducible refine Keep.setCell ?_ (.inl (by first | omega | (simp; done) | (simp; omega) | fail)) _))) (fun _ _ h => h)) _ (szOf l c) (by rfl) (by rw [SZ2.out]; exact lit_cells _ _ _ 0 _ rfl) (by omega) (by simp; omega) ?_)
              intro A8 c8 w8 ho8 hk8 hn8
              have H8 := Lib.hid (H7.out.1.push2 (by omega) (by exact (by repeat first | (with_reducible assumption) | (with_reducible exact Keep.refl _ _) | (with_reducible refine Keep.alloc ?_ _) | (with_reducible refine Keep.drew ?_) | (with_reducible refine Keep.drewN ?_ _) | (with_reducible refine Keep.setCell ?_ (.inl (by first | omega | (simp; done) | (simp; omega) | fail)) _))) ho8 hk8 (by intro k e; rw [World.size_alloc]; exact hn8 k e))
              clear t0 t1 t2 tf ho8 hk8 hn8
              obtain ⟨t0, t1, t2, tf⟩ := cells3 H8.out.1
              go_wp2
              go_roundw
              case rel => exact ⟨j + 1, d + 1, by omega, by omega, by go_num, Lib.hid ⟨A6, c6, A8, c8, by rw [FNj.out, if_pos trivial, List.map_append]; exact H8.out.2.1⟩, Lib.hid ((K4.out.trans H7.out.2 (fun _ _ h => h)).trans H8.out.2.2 (fun _ _ h => h))⟩
              case measure => simp [intOf]; omega
          case inr.inl =>
            have hz0 : ¬ z < 0 := by omega
            have SZ2 := Lib.hid (show szOf l c = 64 by rw [← SZ.out]; unfold clampN; rw [if_neg hz0, if_pos hz])
            go_upto_region 12 with fail
            have ha1 : ∀ o, (w4.alloc o).cell? ⟨w.heap.size + 1 + 1, 0, none⟩ = some (.slice A3 d c3) := fun o => ((Keep.refl (fun _ => False) w4).alloc o).cell (fun h => h) t0
            have ha2 : ∀ o, (w4.drew.alloc o).cell? ⟨w.heap.size + 1 + 1, 0, none⟩ = some (.slice A3 d c3) := fun o => ((Keep.refl (fun _ => False) w4.drew).alloc o).cell (fun h => h) t0
            go_region_law (first
              | ((refine step_int (by rfl) _ _ (by rfl) w1.heap.size _ d _ HS4.out.l1 (by rfl) (HS4.out.oc.keep (S := fun _ => False) (by exact (by repeat first | (with_reducible assumption) | (with_reducible exact Keep.refl _ _) | (with_reducible refine Keep.alloc ?_ _) | (with_reducible refine Keep.drew ?_) | (with_reducible refine Keep.drewN ?_ _) | (with_reducible refine Keep.setCell ?_ (.inl (by first | omega | (simp; done) | (simp; omega) | fail)) _))) (fun _ _ h => h)) _ c (by rfl) (by first | exact lit_cells _ _ _ 0 _ rfl | (rw [World.cell?_drew]; exact lit_cells _ _ _ 0 _ rfl)) (by omega) (by simp; omega) ?_); intro A6 c6 w6 ho6 hk6 hn6; have H6 := Lib.hid (HS4.out.push1 (by omega) (by exact (by repeat first | (with_reducible assumption) | (with_reducible exact Keep.refl _ _) | (with_reducible refine Keep.alloc ?_ _) | (with_reducible refine Keep.drew ?_) | (with_reducible refine Keep.drewN ?_ _) | (with_reducible refine Keep.setCell ?_ (.inl (by first | omega | (simp; done) | (simp; omega) | fail)) _))) ho6 hk6 hn6); obtain ⟨y0, y1, y2, yf⟩ := cells3 H6.out.1; clear ho6 hk6 hn6)
              | fail)
            all_goals
              clear ha1 ha2 t0 t1 t2 tf hcl4
              go_upto_region 13 with fail
              refine wp_world (S := fun W => RnS W (w.heap.size + 1 + 1) w1.heap.size A6 c6 (d + 1) (((L.take j).filter fun c => decide (c < l.length)) ++ [c]) A4 c4 d (((L.take j).filter fun c => decide (c < l.length)).map (szOf l)) ∧ Keep (fun x => x = w.heap.size + 1 + 1 ∨ w1.heap.size ≤ x) w4 W) ⟨H6.out.2.1.same (by exact (by repeat first | (with_reducible assumption) | (with_reducible exact Keep.refl _ _) | (with_reducible refine Keep.alloc ?_ _) | (with_reducible refine Keep.drew ?_) | (with_reducible refine Keep.drewN ?_ _) | (with_reducible refine Keep.setCell ?_ (.inl (by first | omega | (simp; done) | (simp; omega) | fail)) _))), Keep.trans (T := fun _ => False) H6.out.2.2 (by exact (by repeat first | (with_reducible assumption) | (with_reducible exact Keep.refl _ _) | (with_reducible refine Keep.alloc ?_ _) | (with_reducible refine Keep.drew ?_) | (with_reducible refine Keep.drewN ?_ _) | (with_reducible refine Keep.setCell ?_ (.inl (by first | omega | (simp; done) | (simp; omega) | fail)) _))) (fun _ _ h => h.elim)⟩ ?_
              intro W7 hW7
              have H7 := Lib.hid hW7
              have hz7 := H7.out.2.size
              clear hW7 H6 y0 y1 y2 yf
              obtain ⟨t0, t1, t2, tf⟩ := cells3 H7.out.1.box
              go_wp2_with (at_builtin; refine wpList_int (by rfl) _ _ (by rfl) w1.heap.size _ d _ H7.out.1.l2 (by rfl) (H7.out.1.os.keep (S := fun _ => False) (by exact (by repeat first | (with_reducible assumption) | (with_reducible exact Keep.refl _ _) | (with_reducible refine Keep.alloc ?_ _) | (with_reducible refine Keep.drew ?_) | (with_reducible refine Keep.drewN ?_ _) | (with_reducible refine Keep.setCell ?_ (.inl (by first | omega | (simp; done) | (simp; omega) | fail)) _))) (fun _ _ h => h)) _ (szOf l c) (by rfl) (by rw [SZ2.out]; exact lit_cells _ _ _ 0 _ rfl) (by omega) (by simp; omega) ?_)
              intro A8 c8 w8 ho8 hk8 hn8
              have H8 := Lib.hid (H7.out.1.push2 (by omega) (by exact (by repeat first | (with_reducible assumption) | (with_reducible exact Keep.refl _ _) | (with_reducible refine Keep.alloc ?_ _) | (with_reducible refine Keep.drew ?_) | (with_reducible refine Keep.drewN ?_ _) | (with_reducible refine Keep.setCell ?_ (.inl (by first | omega | (simp; done) | (simp; omega) | fail)) _))) ho8 hk8 (by intro k e; rw [World.size_alloc]; exact hn8 k e))
              clear t0 t1 t2 tf ho8 hk8 hn8
              obtain ⟨t0, t1, t2, tf⟩ := cells3 H8.out.1
              go_wp2
              go_roundw
              case rel => exact ⟨j + 1, d + 1, by omega, by omega, by go_num, Lib.hid ⟨A6, c6, A8, c8, by rw [FNj.out, if_pos trivial, List.map_append]; exact H8.out.2.1⟩, Lib.hid ((K4.out.trans H7.out.2 (fun _ _ h => h)).trans H8.out.2.2 (fun _ _ h => h))⟩
              case measure => simp [intOf]; omega
          case inr.inr =>
            have hz0 : ¬ (q : Int) < 0 := by omega
            have hz1 : ¬ (64 : Int) < (q : Int) := by omega
            have SZ2 := Lib.hid (show szOf l c = q by rw [← SZ.out]; exact clampN_nat hz)
            go_upto_region 12 with fail
            have ha1 : ∀ o, (w4.alloc o).cell? ⟨w.heap.size + 1 + 1, 0, none⟩ = some (.slice A3 d c3) := fun o => ((Keep.refl (fun _ => False) w4).alloc o).cell (fun h => h) t0
            have ha2 : ∀ o, (w4.drew.alloc o).cell? ⟨w.heap.size + 1 + 1, 0, none⟩ = some (.slice A3 d c3) := fun o => ((Keep.refl (fun _ => False) w4.drew).alloc o).cell (fun h => h) t0
            go_region_law (first
              | ((refine step_int (by rfl) _ _ (by rfl) w1.heap.size _ d _ HS4.out.l1 (by rfl) (HS4.out.oc.keep (S := fun _ => False) (by exact (by repeat first | (with_reducible assumption) | (with_reducible exact Keep.refl _ _) | (with_reducible refine Keep.alloc ?_ _) | (with_reducible refine Keep.drew ?_) | (with_reducible refine Keep.drewN ?_ _) | (with_reducible refine Keep.setCell ?_ (.inl (by first | omega | (simp; done) | (simp; omega) | fail)) _))) (fun _ _ h => h)) _ c (by rfl) (by first | exact lit_cells _ _ _ 0 _ rfl | (rw [World.cell?_drew]; exact lit_cells _ _ _ 0 _ rfl)) (by omega) (by simp; omega) ?_); intro A6 c6 w6 ho6 hk6 hn6; have H6 := Lib.hid (HS4.out.push1 (by omega) (by exact (by repeat first | (with_reducible assumption) | (with_reducible exact Keep.refl _ _) | (with_reducible refine Keep.alloc ?_ _) | (with_reducible refine Keep.drew ?_) | (with_reducible refine Keep.drewN ?_ _) | (with_reducible refine Keep.setCell ?_ (.inl (by first | omega | (simp; done) | (simp; omega) | fail)) _))) ho6 hk6 hn6); obtain ⟨y0, y1, y2, yf⟩ := cells3 H6.out.1; clear ho6 hk6 hn6)
              | fail)
            all_goals
              clear ha1 ha2 t0 t1 t2 tf hcl4
              go_upto_region 13 with fail
              refine wp_world (S := fun W => RnS W (w.heap.size + 1 + 1) w1.heap.size A6 c6 (d + 1) (((L.take j).filter fun c => decide (c < l.length)) ++ [c]) A4 c4 d (((L.take j).filter fun c => decide (c < l.length)).map (szOf l)) ∧ Keep (fun x => x = w.heap.size + 1 + 1 ∨ w1.heap.size ≤ x) w4 W) ⟨H6.out.2.1.same (by exact (by repeat first | (with_reducible assumption) | (with_reducible exact Keep.refl _ _) | (with_reducible refine Keep.alloc ?_ _) | (with_reducible refine Keep.drew ?_) | (with_reducible refine Keep.drewN ?_ _) | (with_reducible refine Keep.setCell ?_ (.inl (by first | omega | (simp; done) | (simp; omega) | fail)) _))), Keep.trans (T := fun _ => False) H6.out.2.2 (by exact (by repeat first | (with_reducible assumption) | (with_reducible exact Keep.refl _ _) | (with_reducible refine Keep.alloc ?_ _) | (with_reducible refine Keep.drew ?_) | (with_reducible refine Keep.drewN ?_ _) | (with_reducible refine Keep.setCell ?_ (.inl (by first | omega | (simp; done) | (simp; omega) | fail)) _))) (fun _ _ h => h.elim)⟩ ?_
              intro W7 hW7
              have H7 := Lib.hid hW7
              have hz7 := H7.out.2.size
              clear hW7 H6 y0 y1 y2 yf
              obtain ⟨t0, t1, t2, tf⟩ := cells3 H7.out.1.box
              go_wp2_with (at_builtin; refine wpList_int (by rfl) _ _ (by rfl) w1.heap.size _ d _ H7.out.1.l2 (by rfl) (H7.out.1.os.keep (S := fun _ => False) (by exact (by repeat first | (with_reducible assumption) | (with_reducible exact Keep.refl _ _) | (with_reducible refine Keep.alloc ?_ _) | (with_reducible refine Keep.drew ?_) | (with_reducible refine Keep.drewN ?_ _) | (with_reducible refine Keep.setCell ?_ (.inl (by first | omega | (simp; done) | (simp; omega) | fail)) _))) (fun _ _ h => h)) _ (szOf l c) (by rfl) (by rw [SZ2.out]; exact lit_cells _ _ _ 0 _ rfl) (by omega) (by simp; omega) ?_)
              intro A8 c8 w8 ho8 hk8 hn8
              have H8 := Lib.hid (H7.out.1.push2 (by omega) (by exact (by repeat first | (with_reducible assumption) | (with_reducible exact Keep.refl _ _) | (with_reducible refine Keep.alloc ?_ _) | (with_reducible refine Keep.drew ?_) | (with_reducible refine Keep.drewN ?_ _) | (with_reducible refine Keep.setCell ?_ (.inl (by first | omega | (simp; done) | (simp; omega) | fail)) _))) ho8 hk8 (by intro k e; rw [World.size_alloc]; exact hn8 k e))
              clear t0 t1 t2 tf ho8 hk8 hn8
              obtain ⟨t0, t1, t2, tf⟩ := cells3 H8.out.1
              go_wp2
              go_roundw
              case rel => exact ⟨j + 1, d + 1, by omega, by omega, by go_num, Lib.hid ⟨A6, c6, A8, c8, by rw [FNj.out, if_pos trivial, List.map_append]; exact H8.out.2.1⟩, Lib.hid ((K4.out.trans H7.out.2 (fun _ _ h => h)).trans H8.out.2.2 (fun _ _ h => h))⟩
              case measure => simp [intOf]; omega
      · have CS2 := Lib.hid (fun W' hk => by have := CS.out W' hk; rw [if_neg (fun h => hcn (by have := h.2; simp only at this; omega)), decide_eq_false (show ¬ (0 ≤ (c : Int) ∧ (c : Int) < (l.length : Int)) by omega)] at this; exact this)
        rw [decide_eq_false hcn] at FNj
        clear hcf CS hcn
        go_upto_region 6 with fail
        go_region_held3 (fun W' => W'.cell? ⟨w.heap.size, 0, none⟩ = some (.int .i64 log) ∧ W'.cell? ⟨w.heap.size, 1, none⟩ = some (.int .i64 pages) ∧ W'.cell? ⟨w.heap.size, 2, none⟩ = some (.int .i64 ents) ∧ W'.cell? ⟨w.heap.size, 3, none⟩ = some (.int .i64 gens) ∧ W'.cell? ⟨w.heap.size, 4, none⟩ = some (.slice A n cap) ∧ W'.cell? ⟨b1, o1 + j, none⟩ = some (.int .i64 (c : Int))) (exact CE.out _ (by exact (by repeat first | (with_reducible assumption) | (with_reducible exact Keep.refl _ _) | (with_reducible refine Keep.alloc ?_ _) | (with_reducible refine Keep.drew ?_) | (with_reducible refine Keep.drewN ?_ _) | (with_reducible refine Keep.setCell ?_ (.inl (by first | omega | (simp; done) | (simp; omega) | fail)) _)))) (first
          | (go_at_call 40; (with_reducible refine (CS2.out _ (by exact (by repeat first | (with_reducible assumption) | (with_reducible exact Keep.refl _ _) | (with_reducible refine Keep.alloc ?_ _) | (with_reducible refine Keep.drew ?_) | (with_reducible refine Keep.drewN ?_ _) | (with_reducible refine Keep.setCell ?_ (.inl (by first | omega | (simp; done) | (simp; omega) | fail)) _)))).mono ?_); rintro e w4 ⟨rfl, hb4⟩; have k4 : Keep (fun _ => False) wr w4 := Keep.trans (by exact (by repeat first | (with_reducible assumption) | (with_reducible exact Keep.refl _ _) | (with_reducible refine Keep.alloc ?_ _) | (with_reducible refine Keep.drew ?_) | (with_reducible refine Keep.drewN ?_ _) | (with_reducible refine Keep.setCell ?_ (.inl (by first | omega | (simp; done) | (simp; omega) | fail)) _))) (Keep.of_below' hb4) (fun _ _ h => h); clear hb4)
          | fail)
        have H4 := Lib.hid (show ∃ A3 c3 A4 c4, RnS w4 (w.heap.size + 1 + 1) w1.heap.size A3 c3 d ((L.take (j + 1)).filter fun c => decide (c < l.length)) A4 c4 d (((L.take (j + 1)).filter fun c => decide (c < l.length)).map (szOf l)) from by
          rw [FNj.out, if_neg (by decide), List.append_nil]; obtain ⟨A3, c3, A4, c4, h⟩ := hst.out; exact ⟨A3, c3, A4, c4, h.same k4⟩)
        have K4 := Lib.hid (hkr.out.trans k4 (fun _ _ h => h.elim))
        clear x0 x1 x2 x3 x4 xf CS2 CE hcl FNj
        go_wp2
        go_roundw
        case rel => exact ⟨j + 1, d, by omega, by omega, by go_num, H4, K4⟩
        case measure => simp [intOf]; omega
    · obtain rfl : j = m := by omega
      have f1 : ¬ (j : Int) < (j : Int) := by omega
      obtain ⟨A3, c3, A4, c4, hs3⟩ := hst.out
      rw [TL.out, BF2.out] at hs3
      have HE := Lib.hid hs3
      obtain ⟨t0, t1, t2, tf⟩ := cells3 hs3.box
      have hb1 := (hkr.out.block (w.heap.size + 1) (by omega) (fun e => by omega)).trans H1.out.2.2.2.1
      obtain ⟨r0, r1, r2, rf⟩ := cells3 hb1
      have HB := Lib.hid hb1
      clear hs3 hst hb1
      go_wp2
      refine bodyPost_ret (results_tab Tryz.results135 _ _ (w.heap.size + 1) _ _ _ (by rfl) (heap_three HB.out _ _ _)) rfl ⟨_, _, rfl, ?_, ?_⟩
      · have ks : Keep (fun x => x = w.heap.size + 1) wr (((wr.setCell ⟨w.heap.size + 1, 0, none⟩ (.slice A3 d c3)).setCell ⟨w.heap.size + 1, 1, none⟩ (.slice A4 d c4)).setCell ⟨w.heap.size + 1, 2, none⟩ (.slice none 0 0)) :=
          Keep.setCell (S := fun x => x = w.heap.size + 1) (p := ⟨w.heap.size + 1, 2, none⟩) (Keep.setCell (S := fun x => x = w.heap.size + 1) (p := ⟨w.heap.size + 1, 1, none⟩) (Keep.setCell (S := fun x => x = w.heap.size + 1) (p := ⟨w.heap.size + 1, 0, none⟩) (Keep.refl _ _) (.inr rfl) _) (.inr rfl) _) (.inr rfl) _
        refine ⟨_, _, _, rfl, ?_, ?_, NS.nil _ _ _⟩
        · have := (HE.out.oc.keep ks (fun k e e2 => by have := (HE.out.oc.ownB k e).1; omega)).sl
          rw [HE.out.l1]
          exact this.mono (fun b _ h => by omega)
        · have := (HE.out.os.keep ks (fun k e e2 => by have := (HE.out.os.ownB k e).1; omega)).sl
          rw [HE.out.l1]
          exact this.mono (fun b _ h => by omega)
      · exact (Keep.setCell (S := fun x => w.heap.size ≤ x) (p := ⟨w.heap.size + 1, 2, none⟩) (Keep.setCell (S := fun x => w.heap.size ≤ x) (p := ⟨w.heap.size + 1, 1, none⟩) (Keep.setCell (S := fun x => w.heap.size ≤ x) (p := ⟨w.heap.size + 1, 0, none⟩) KX.out (.inr (Nat.le_succ _)) _) (.inr (Nat.le_succ _)) _) (.inr (Nat.le_succ _)) _).to_below (Nat.le_refl _)
theorem rnew_any (c : Cf) (u : Value) (F : Nat → Prop) (sig : Nat) (hs : sig < 18446744073709551616) (w : World) (hu : CL w F u c.l) (h40 : c.l.length ≤ 1000) :
    Calls Tryz.prog 135 #[confV c u, .int .u64 (sig : Int)] w fun e w' => ∃ u', e = .returned u' ∧ RT w' (fun b => w.heap.size ≤ b) u' (bl (sig &&& allOf c.l) 64) (szOf c.l) [] ∧ Below w.heap.size w w' :=
  (rnew_nil c u F sig hs w hu h40).mono fun e w' ⟨vc, vs, h1, h2, h3⟩ => ⟨_, h1, h2, h3⟩
end Go.Proofs.YtglliendhbkkhaaGreatDoor

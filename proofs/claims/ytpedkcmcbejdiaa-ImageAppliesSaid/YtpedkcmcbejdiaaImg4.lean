/- Disks that are read; contracts of (*Disk).Bytes, image.sectors. -/
import Derived.Test.YtpedkcmcbejdiaaImg3
import Derived.Great.BuildSlice
import Derived.Deep.MidRow
namespace Go.Proofs.Ytpedkcmcbejdiaa
open Go.RowKit
set_option maxRecDepth 100000
set_option linter.unusedVariables false
set_option linter.unusedSimpArgs false

/-- A disk (or none at all) that holds the sectors R. -/
def Dk (w : World) (F : Nat → Prop) (d : Value) (R : List (List UInt8)) : Prop :=
  (∀ r ∈ R, r.length = 512) ∧ ((d = .pointer none ∧ R = []) ∨ ∃ p u m, d = .pointer (some ⟨p, 0, none⟩) ∧ F p ∧ w.heap[p]? = some (.cells #[u, .map (some m), .int .i64 (-1), .bool false, .int .i64 0, .int .i64 0] 54 (0, 0)) ∧ Bys w F u R)
theorem Dk.nil (w : World) (F : Nat → Prop) : Dk w F (.pointer none) [] := ⟨fun r h => (by cases h), .inl ⟨rfl, rfl⟩⟩
theorem Dk.keep {w w' : World} {F S : Nat → Prop} {d : Value} {R : List (List UInt8)} (h : Dk w F d R) (hk : Keep S w w') (hF : ∀ b, b < w.heap.size → F b → ¬ S b) : Dk w' F d R := by
  obtain ⟨h0, h | ⟨p, u, m, e, h1, h2, h3⟩⟩ := h
  · exact ⟨h0, .inl h⟩
  · have hl := (Array.getElem?_eq_some_iff.1 h2).1
    exact ⟨h0, .inr ⟨p, u, m, e, h1, (hk.block p hl (hF p hl h1)).trans h2, h3.keep hk hF⟩⟩
theorem Dk.same {w w' : World} {F : Nat → Prop} {d : Value} {R : List (List UInt8)} (h : Dk w F d R) (hk : Keep (fun _ => False) w w') : Dk w' F d R := h.keep hk (fun _ _ _ h => h)
theorem Dk.mono {w : World} {F G : Nat → Prop} {d : Value} {R : List (List UInt8)} (h : Dk w F d R) (hf : ∀ b, b < w.heap.size → F b → G b) : Dk w G d R := by
  obtain ⟨h0, h | ⟨p, u, m, e, h1, h2, h3⟩⟩ := h
  · exact ⟨h0, .inl h⟩
  · exact ⟨h0, .inr ⟨p, u, m, e, hf p (Array.getElem?_eq_some_iff.1 h2).1 h1, h2, h3.mono hf⟩⟩
theorem DSt.dk {w W : World} {p : Nat} {gs : List Nat} {u : Value} {R : List (List UInt8)} (h : DSt w W p gs u R) : Dk W (fun b => w.heap.size ≤ b) (.pointer (some ⟨p, 0, none⟩)) R := by
  have hlt := h.lt
  exact ⟨h.grid.len_, .inr ⟨p, u, p - 1, rfl, by omega, h.box, h.grid.list.bys.mono (fun b _ h => by omega)⟩⟩
theorem flat_512 {R : List (List UInt8)} (h : ∀ r ∈ R, r.length = 512) : R.flatten.length = 512 * R.length := by
  induction R with
  | nil => rfl
  | cons r R ih =>
    rw [List.flatten_cons, List.length_append, h r (List.mem_cons_self ..), ih (fun r hr => h r (List.mem_cons_of_mem _ hr)), List.length_cons]
    omega
theorem dbytes_any (d : Value) (R : List (List UInt8)) (F : Nat → Prop) (w : World) (h : Dk w F d R) (hR : R.length ≤ 4096) :
    Calls Try.prog 14 #[d] w (ObPost w R.flatten) := by
  obtain ⟨h0, ⟨rfl, rfl⟩ | ⟨p, u, m, rfl, h1, h2, h3⟩⟩ := h
  · go_enter Try.func14, Try.ntmps14
    go_wp2
    go_ret
    exact ⟨none, 0, 0, rfl, Ob.nil _ _ _, Below.refl _ _⟩
  · have CC := Lib.hid (concat_any R u F w h3 (by rw [flat_512 h0]; omega) (by omega))
    obtain ⟨c0, c1, c2, c3, c4, c5, cf⟩ := cells6 h2
    clear h0 h2 h3
    generalize R.flatten = Z at *
    go_enter Try.func14, Try.ntmps14
    go_wp2_with fail
    with_reducible refine CC.out.mono ?_
    rintro e w1 ⟨A, n, c, rfl, ho, hb⟩
    have H1 := Lib.hid (And.intro ho hb)
    clear ho hb
    go_wp2
    go_ret
    exact ⟨_, _, _, rfl, H1.out.1, H1.out.2⟩

/-- Sectors, by value, side by side. -/
def arr (R : List (List UInt8)) : List Value := R.flatMap bv
theorem arr_len {R : List (List UInt8)} (h : ∀ r ∈ R, r.length = 512) : (arr R).length = R.length * 512 := by
  unfold arr
  induction R with
  | nil => rfl
  | cons r R ih =>
    rw [List.flatMap_cons, List.length_append, bv_len, h r (List.mem_cons_self ..), ih (fun r hr => h r (List.mem_cons_of_mem _ hr)), List.length_cons]
    omega
theorem arr_snoc (R : List (List UInt8)) (r : List UInt8) : arr (R ++ [r]) = arr R ++ bv r := by simp [arr]
theorem under_isec : Try.prog.underlying 61 = some (.array 512 5) := by kernel_rfl
def isZ : Value → Bool
  | .int .u8 n => n == 0
  | _ => false
theorem all_isZ {l : List Value} (h : l.all isZ = true) : l = bv (zer l.length) := by
  rw [bv_zer]
  apply List.ext_getElem (by simp)
  intro i h1 h2
  have := List.all_eq_true.1 h l[i] (List.getElem_mem h1)
  rw [List.getElem_replicate]
  match hv : l[i], this with
  | .int .u8 n, h => simp [isZ] at h; rw [h]
def isAg : Value → Bool
  | .agg _ => true
  | _ => false
theorem isec_zero : ((Try.prog.info? 61).bind fun i => i.zero.map fun z => (i.size, i.bytes, z.cells.size, z.cells.toList.all isZ && isAg z)) = some (512, 512, 512, true) := by kernel_rfl
theorem info_isec : ∃ i z, Try.prog.info? 61 = some i ∧ i.zero = some z ∧ i.size = 512 ∧ i.bytes = 512 ∧ z.cells = (bv (zer 512)).toArray ∧ z = .agg (bv (zer 512)).toArray := by
  have h := isec_zero
  cases hi : Try.prog.info? 61 with
  | none => simp [hi] at h
  | some i =>
    cases hz : i.zero with
    | none => simp [hi, hz] at h
    | some z =>
      simp only [hi, hz, Option.bind_some, Option.map_some, Option.some.injEq, Prod.mk.injEq] at h
      obtain ⟨h1, h2, h3, h4⟩ := h
      rw [Bool.and_eq_true] at h4
      have hc : z.cells = (bv (zer 512)).toArray := by
        have := all_isZ h4.1
        apply Array.ext'
        rw [this, Array.length_toList, h3]
      refine ⟨i, z, rfl, hz, h1, h2, hc, ?_⟩
      match z, h4.2, hc with
      | .agg cs, _, hc => exact congrArg Value.agg hc
theorem size_isec : (Try.prog.info? 61).map (·.size) = some 512 := by
  obtain ⟨i, z, hi, _, hs, _⟩ := info_isec
  rw [hi, Option.map_some, hs]
/-- sector{}: all bytes 0. -/
theorem run_empty (w : World) : (Instr.build 61 #[]).run Try.prog w = .ok (.agg (bv (zer 512)).toArray) w := by
  obtain ⟨i, z, hi, hz, hs, hb, hc, -⟩ := info_isec
  simp [Instr.build, zeroValue, typeInfo, sizeOf, hi, hz, run_underlying under_isec, Instr.fill, hc]
  obtain ⟨i0, hi0, hz0, hz1, hz2⟩ := info_parts info_byte
  simp [hi0]
theorem run_zero_isec (w : World) : (zeroValue 61).run Try.prog w = .ok (.agg (bv (zer 512)).toArray) w := by
  obtain ⟨i, z, hi, hz, hs, hb, hc, rfl⟩ := info_isec
  simp [zeroValue, typeInfo, hi, hz]
end Go.Proofs.Ytpedkcmcbejdiaa

/- Contracts of vivariumref08.New, Go. -/
import Derived.Test.YtmlbkenbgajkmaaCol4
import Derived.Test.YtmlbkenbgajkmaaBys
import Derived.Test.YtmlbkenbgajkmaaLeGetsW
namespace Go.Proofs.Ytmlbkenbgajkmaa
open Go.RowKit
set_option maxRecDepth 100000

theorem rcol_new (n : Int) (w : World) :
    Calls Try.prog 59 #[.int .i64 n] w fun e w' => e = .returned (.agg #[.int .i64 (clampN n : Nat), .slice none 0 0]) ∧ Below w.heap.size w w' := by
  have H : ∀ (z : Int), z = (clampN n : Nat) → Ending.returned (.agg #[.int .i64 z, .slice none 0 0]) = Ending.returned (.agg #[.int .i64 (clampN n : Nat), .slice none 0 0]) := by rintro z rfl; rfl
  have HH := Lib.hid H
  clear H
  have C : Hid ((clampN n : Int) = if n < 0 then 0 else if 64 < n then 64 else n) := by show (clampN n : Int) = _; unfold clampN; split <;> (try split) <;> omega
  generalize clampN n = m at *
  by_cases h0 : n < 0
  · rw [if_pos h0] at C
    go_enter Try.func59, Try.ntmps59
    go_wp2
    exact bodyPost_ret (v := .agg #[.int .i64 0, .slice none 0 0]) (by simp [results, Try.results59, go_sem]) rfl ⟨HH.out _ C.out.symm, (by repeat first | exact Below.refl _ _ | refine Below.setCell ?_ (by first | omega | (simp; done) | (simp; omega)) _ | refine Below.alloc ?_ (by first | omega | (simp; done) | (simp; omega)) _ | refine Below.drew ?_ | refine below_drewN ?_ _ | assumption)⟩
  · rw [if_neg h0] at C
    by_cases h1 : 64 < n
    · rw [if_pos h1] at C
      go_enter Try.func59, Try.ntmps59
      go_wp2
      exact bodyPost_ret (v := .agg #[.int .i64 64, .slice none 0 0]) (by simp [results, Try.results59, go_sem]) rfl ⟨HH.out _ C.out.symm, (by repeat first | exact Below.refl _ _ | refine Below.setCell ?_ (by first | omega | (simp; done) | (simp; omega)) _ | refine Below.alloc ?_ (by first | omega | (simp; done) | (simp; omega)) _ | refine Below.drew ?_ | refine below_drewN ?_ _ | assumption)⟩
    · rw [if_neg h1] at C
      go_enter Try.func59, Try.ntmps59
      go_wp2
      exact bodyPost_ret (v := .agg #[.int .i64 n, .slice none 0 0]) (by simp [results, Try.results59, go_sem]) rfl ⟨HH.out _ C.out.symm, (by repeat first | exact Below.refl _ _ | refine Below.setCell ?_ (by first | omega | (simp; done) | (simp; omega)) _ | refine Below.alloc ?_ (by first | omega | (simp; done) | (simp; omega)) _ | refine Below.drew ?_ | refine below_drewN ?_ _ | assumption)⟩

/-- What a step makes of the rows, what is got, the error. -/
def cgo (size : Nat) (R : List (List UInt8)) (act at_ : Int) (l : List UInt8) : List (List UInt8) × List UInt8 × Int :=
  if act = 1 then (if setCode size R at_ l = 0 then R.set at_.toNat l else R, [], setCode size R at_ l)
  else if act = 2 then (R, if at_ < 0 ∨ (R.length : Int) ≤ at_ then [] else R.getD at_.toNat [], dropCode R at_)
  else if act = 3 then (if dropCode R at_ = 0 then dropR R at_.toNat else R, [], dropCode R at_)
  else (if addCode size R l = 0 then R ++ [l] else R, [], addCode size R l)
def RgoPost (w : World) (F : Nat → Prop) (size : Nat) (r : List (List UInt8) × List UInt8 × Int) (e : Ending) (w' : World) : Prop :=
  ∃ v' u, e = .returned (.tuple #[.agg #[.int .i64 (size : Nat), v'], u, .int .i64 r.2.2]) ∧ Bys w' (fun b => F b ∨ w.heap.size ≤ b) v' r.1 ∧ By w' (fun b => F b ∨ w.heap.size ≤ b) u r.2.1 ∧ Below w.heap.size w w'
theorem rgo_same {w w' : World} {F : Nat → Prop} {size : Nat} {R : List (List UInt8)} {v : Value} (hv : Bys w F v R) (code : Int) (hb : Below w.heap.size w w') :
    RgoPost w F size (R, [], code) (.returned (.tuple #[.agg #[.int .i64 (size : Nat), v], .slice none 0 0, .int .i64 code])) w' :=
  ⟨v, _, rfl, (hv.below hb).mono (fun _ _ h => .inl h), By.nil _ _, hb⟩
def rgArgs (size : Nat) (A : Option Addr) (n c : Nat) (act at_ : Int) (A2 : Option Addr) (m c2 : Nat) : Array Value := #[.agg #[.int .i64 (size : Nat), .slice A n c], .agg #[.int .i64 act, .int .i64 at_, .slice A2 m c2]]

theorem rgo_out (size n c m c2 : Nat) (A A2 : Option Addr) (act at_ : Int) (w : World) (ha : act = 1 ∨ act = 2 ∨ act = 3) (ho : at_ < 0 ∨ 0 ≤ at_ ∧ (n : Int) ≤ at_) :
    Calls Try.prog 61 (rgArgs size A n c act at_ A2 m c2) w fun e w' => e = .returned (.tuple #[.agg #[.int .i64 (size : Nat), .slice A n c], .slice none 0 0, .int .i64 2]) ∧ Below w.heap.size w w' := by
  unfold rgArgs
  rcases ho with ho | ⟨ho, ho'⟩ <;> rcases ha with rfl | rfl | rfl
  all_goals
    go_enter Try.func61, Try.ntmps61
    go_wp2
    exact bodyPost_ret (v := .tuple #[.agg #[.int .i64 (size : Nat), .slice A n c], .slice none 0 0, .int .i64 2]) (by simp [results, Try.results61, go_sem]) rfl ⟨rfl, (by repeat first | exact Below.refl _ _ | refine Below.setCell ?_ (by first | omega | (simp; done) | (simp; omega)) _ | refine Below.alloc ?_ (by first | omega | (simp; done) | (simp; omega)) _ | refine Below.drew ?_ | refine below_drewN ?_ _ | assumption)⟩
theorem rgo_size (size n c m c2 : Nat) (A A2 : Option Addr) (act at_ : Int) (w : World) (ha : (act = 1 ∧ 0 ≤ at_ ∧ at_ < n) ∨ (act ≠ 1 ∧ act ≠ 2 ∧ act ≠ 3)) (hm : m ≠ size) :
    Calls Try.prog 61 (rgArgs size A n c act at_ A2 m c2) w fun e w' => e = .returned (.tuple #[.agg #[.int .i64 (size : Nat), .slice A n c], .slice none 0 0, .int .i64 7]) ∧ Below w.heap.size w w' := by
  unfold rgArgs
  have h7 : ((m : Int) != (size : Int)) = true := by rw [bne_iff_ne]; omega
  clear hm
  rcases ha with ⟨rfl, h1, h2⟩ | ⟨h1, h2, h3⟩
  · go_enter Try.func61, Try.ntmps61
    go_wp2
    exact bodyPost_ret (v := .tuple #[.agg #[.int .i64 (size : Nat), .slice A n c], .slice none 0 0, .int .i64 7]) (by simp [results, Try.results61, go_sem]) rfl ⟨rfl, (by repeat first | exact Below.refl _ _ | refine Below.setCell ?_ (by first | omega | (simp; done) | (simp; omega)) _ | refine Below.alloc ?_ (by first | omega | (simp; done) | (simp; omega)) _ | refine Below.drew ?_ | refine below_drewN ?_ _ | assumption)⟩
  · have e1 : (act == 1) = false := by rw [beq_eq_false_iff_ne]; exact h1
    have e2 : (act == 2) = false := by rw [beq_eq_false_iff_ne]; exact h2
    have e3 : (act == 3) = false := by rw [beq_eq_false_iff_ne]; exact h3
    have e4 : (act != 2) = true := by rw [bne_iff_ne]; exact h2
    have e5 : (act != 3) = true := by rw [bne_iff_ne]; exact h3
    clear h1 h2 h3
    go_enter Try.func61, Try.ntmps61
    go_wp2
    exact bodyPost_ret (v := .tuple #[.agg #[.int .i64 (size : Nat), .slice A n c], .slice none 0 0, .int .i64 7]) (by simp [results, Try.results61, go_sem]) rfl ⟨rfl, (by repeat first | exact Below.refl _ _ | refine Below.setCell ?_ (by first | omega | (simp; done) | (simp; omega)) _ | refine Below.alloc ?_ (by first | omega | (simp; done) | (simp; omega)) _ | refine Below.drew ?_ | refine below_drewN ?_ _ | assumption)⟩
theorem rgo_get (size n c m c2 b off k m3 c3 : Nat) (A2 A3 : Option Addr) (w : World) (hk : k < n) (hc : w.cell? ⟨b, off + k, none⟩ = some (.slice A3 m3 c3)) :
    Calls Try.prog 61 (rgArgs size (some ⟨b, off, none⟩) n c 2 k A2 m c2) w fun e w' => e = .returned (.tuple #[.agg #[.int .i64 (size : Nat), .slice (some ⟨b, off, none⟩) n c], .slice A3 m3 c3, .int .i64 0]) ∧ Below w.heap.size w w' := by
  unfold rgArgs
  have f1 : (0 : Int) ≤ (k : Int) := by omega
  have f2 : (k : Int) < (n : Int) := by omega
  have hc3 : ∀ o1 o2 o3, (((w.alloc o1).alloc o2).alloc o3).cell? ⟨b, off + k, none⟩ = some (.slice A3 m3 c3) := fun o1 o2 o3 => by
    have hlt : b < w.heap.size := World.block_lt_of_cell? w _ hc
    rw [World.cell?_alloc_lt _ _ _ (by simp; omega), World.cell?_alloc_lt _ _ _ (by simp; omega), World.cell?_alloc_lt _ _ _ hlt]; exact hc
  go_enter Try.func61, Try.ntmps61
  go_wp2
  go_region
  go_wp2
  exact bodyPost_ret (v := .tuple #[.agg #[.int .i64 (size : Nat), .slice (some ⟨b, off, none⟩) n c], .slice A3 m3 c3, .int .i64 0]) (by simp [results, Try.results61, go_sem]) rfl ⟨rfl, (by repeat first | exact Below.refl _ _ | refine Below.setCell ?_ (by first | omega | (simp; done) | (simp; omega)) _ | refine Below.alloc ?_ (by first | omega | (simp; done) | (simp; omega)) _ | refine Below.drew ?_ | refine below_drewN ?_ _ | assumption)⟩
end Go.Proofs.Ytmlbkenbgajkmaa

/- A list of acts that a call builds; what script.Get reads: plain. -/
import Derived.Test.YthkgchlndfcmpaaScrD
import Derived.Test.YthkgchlndfcmpaaScr8
import Derived.Test.YthkgchlndfcmpaaCmdW
namespace Go.Proofs.Ythkgchlndfcmpaa
open Go.RowKit
set_option maxRecDepth 100000
set_option linter.unusedVariables false

theorem info_act : (Try.prog.info? 45).map (fun i => (i.zero, i.size, i.bytes)) = some (some (.agg #[.int .i64 0, .int .i64 0, .bool false, .int .i64 0, .int .i64 0, .int .i64 0, .slice none 0 0, .int .i64 0, .int .i64 0, .int .i64 0, .slice none 0 0, .slice none 0 0]), 12, 144) := by kernel_rfl
/-- The slice value u holds the acts R, in memory of its own from block B on. -/
def ActSt (B : Nat) (w : World) (u : Value) (R : List Ac) : Prop :=
  ∃ us : List (Value × Value × Value), us.length = R.length ∧ Own w B 45 12 u R.length ((R.zip us).flatMap acL) ∧ ∀ (i : Nat) x v, R[i]? = some x → us[i]? = some v → AM w (fun b => ownB u ≠ some b) x v.1 v.2.1 v.2.2
section
variable {B : Nat} {w w' W : World} {u u' : Value} {R : List Ac}
theorem ActSt.nil (B : Nat) (w : World) : ActSt B w (.slice none 0 0) [] := ⟨[], rfl, Own.none_ _ _ _ _ _, fun i x v h => by simp at h⟩
theorem ActSt.same (h : ActSt B w u R) (hk : Keep (fun _ => False) w w') : ActSt B w' u R := by
  obtain ⟨us, h1, h2, h3⟩ := h
  exact ⟨us, h1, h2.keep hk (fun _ _ h => h), fun i x v hx hv => (h3 i x v hx hv).same hk⟩
theorem ActSt.form (h : ActSt B w u R) : ∃ A c, u = .slice A R.length c := by
  obtain ⟨us, _, h1, _⟩ := h
  obtain ⟨A, c, e, _⟩ := h1.form
  exact ⟨A, c, e⟩
theorem ActSt.own_lt (h : ActSt B w u R) {k : Nat} (e : ownB u = some k) : B ≤ k ∧ k < w.heap.size := by
  obtain ⟨us, _, h1, _⟩ := h
  exact h1.ownB k e
theorem zip_len {us : List (Value × Value × Value)} (h : us.length = R.length) : (R.zip us).length = R.length := by rw [List.length_zip, h, Nat.min_self]
theorem ActSt.as_ (h : ActSt B w u R) : AS w (fun _ => True) u R := by
  obtain ⟨us, h1, h2, h3⟩ := h
  refine ⟨us, h1, ?_, fun i x v hx hv => (h3 i x v hx hv).mono (fun _ _ _ => trivial)⟩
  have h4 : Own w B 45 12 u (R.zip us).length ((R.zip us).flatMap acL) := by rw [zip_len h1]; exact h2
  exact (Own.ml (n := 0) (by decide) acL_len h4).mono (fun _ _ _ => trivial)
/-- Behind an append of one. -/
theorem ActSt.push {us : List (Value × Value × Value)} {x : Ac} {v : Value × Value × Value} (h1 : us.length = R.length) (h2 : Own w B 45 12 u R.length ((R.zip us).flatMap acL)) (h3 : ∀ (i : Nat) x v, R[i]? = some x → us[i]? = some v → AM w (fun b => ownB u ≠ some b) x v.1 v.2.1 v.2.2)
    (hW : Keep (fun _ => False) w W) (hx : AM W (fun b => ownB u ≠ some b) x v.1 v.2.1 v.2.2)
    (ho : Own w' B 45 12 u' (R.length + 1) ((R.zip us).flatMap acL ++ acL (x, v))) (hk : Keep (fun k => ownB u = some k) W w') (hn : ∀ k, ownB u' = some k → ownB u = some k ∨ W.heap.size ≤ k) : ActSt B w' u' (R ++ [x]) := by
  have hz : (R ++ [x]).zip (us ++ [v]) = R.zip us ++ [(x, v)] := by rw [List.zip_append h1.symm]; rfl
  have mv : ∀ (y : Ac) (q : Value × Value × Value), AM W (fun b => ownB u ≠ some b) y q.1 q.2.1 q.2.2 → AM w' (fun b => ownB u' ≠ some b) y q.1 q.2.1 q.2.2 := fun y q h =>
    ((h.mono (G := fun b => ownB u ≠ some b ∧ b < W.heap.size) (fun b hb h => ⟨h, hb⟩)).keep hk (fun b _ h e => h.1 e)).mono (fun b _ h e => by
      rcases hn b e with e | e
      · exact h.1 e
      · have := h.2; omega)
  refine ⟨us ++ [v], by rw [List.length_append, List.length_append, h1]; rfl, ?_, fun i y q hy hq => ?_⟩
  · rw [hz, List.flatMap_append, List.flatMap_cons, List.flatMap_nil, List.append_nil, List.length_append]
    exact ho
  · rcases Nat.lt_or_ge i R.length with hi | hi
    · rw [List.getElem?_append_left hi] at hy
      rw [List.getElem?_append_left (by omega)] at hq
      exact mv y q ((h3 i y q hy hq).same hW)
    · rw [List.getElem?_append_right hi] at hy
      rw [List.getElem?_append_right (by omega), h1] at hq
      match hj : i - R.length, hy, hq with
      | 0, hy, hq =>
        obtain rfl : x = y := by simpa using hy
        obtain rfl : v = q := by simpa using hq
        exact mv _ _ hx
end
/-- What script.Get reads from a place on. -/
def getsP (b : List UInt8) : Nat → Int → List Ac → List Ac × Int
  | 0, _, _ => ([], 99)
  | f + 1, a, acc => if a = b.length then (acc, 0) else if (oneP b a.toNat).2.2 ≠ 0 then ([], (oneP b a.toNat).2.2) else getsP b f (oneP b a.toNat).2.1 (acc ++ [(oneP b a.toNat).1])
theorem numR_le {l : List UInt8} {k : Nat} {bad : Bool} (width : Int) (h : k ≤ l.length) : (numR l k bad width).2.1 ≤ l.length := by
  unfold numR
  split
  · exact h
  · split
    · rename_i h2
      have : (k : Int) + wideN width ≤ l.length := by unfold getOk at h2; simp at h2; omega
      show k + wideN width ≤ _
      omega
    · exact h
theorem faR_le {l : List UInt8} : ∀ (n k : Nat) (bad : Bool), k ≤ l.length → (faR l n k bad).2.1 ≤ l.length
  | 0, k, bad, h => h
  | n + 1, k, bad, h => by
    unfold faR
    split
    · exact h
    · exact faR_le n _ _ (numR_le _ (numR_le _ h))
theorem fuR_le {l : List UInt8} : ∀ (n k : Nat) (bad : Bool), k ≤ l.length → (fuR l n k bad).2.1 ≤ l.length
  | 0, k, bad, h => h
  | n + 1, k, bad, h => by
    unfold fuR
    split
    · exact h
    · exact fuR_le n _ _ (numR_le _ h)
theorem restA_le (t : List UInt8) (d : Int) : (restA t d).2.1 ≤ t.length := by
  unfold restA
  split
  · exact numR_le _ (numR_le _ (Nat.zero_le _))
  · split
    · exact numR_le _ (Nat.zero_le _)
    · split
      · show (crashR t 0 false).2.2.1 ≤ _
        unfold crashR
        exact fuR_le _ _ _ (numR_le _ (faR_le _ _ _ (numR_le _ (Nat.zero_le _))))
      · exact Nat.zero_le _
theorem oneP_next {b : List UInt8} {a : Nat} (ha : a < b.length) (h : (oneP b a).2.2 = 0) : (a : Int) < (oneP b a).2.1 ∧ (oneP b a).2.1 ≤ b.length := by
  unfold oneP at h ⊢
  split at h
  · exact absurd h (by decide)
  · rename_i h6
    rw [if_neg h6]
    split at h
    · rename_i h0
      rw [if_pos h0]
      simp only at h ⊢
      rw [getP_refP] at h ⊢
      obtain ⟨_, h1, h2, _⟩ := bytes_refP h
      omega
    · rename_i h0
      rw [if_neg h0]
      split at h
      · exact absurd h (by decide)
      · rename_i hb
        rw [if_neg hb]
        have h1 := restA_le (b.drop (a + 1)) (byteA b a)
        simp only
        rw [List.length_drop] at h1 ⊢
        omega
end Go.Proofs.Ythkgchlndfcmpaa
namespace Go.Proofs.Ythkgchlndfcmpaa
open Go.RowKit
set_option maxRecDepth 100000
set_option linter.unusedVariables false
set_option linter.unusedSimpArgs false

/-- The numbers of eight bytes from a place on. -/
def zsQ (b : List UInt8) (a : Int) (k : Nat) : List Int := (List.range k).map fun i => getZ b (a + 8 * (i : Nat)) 8
theorem zsQ_next (b : List UInt8) (a : Int) (k : Nat) : zsQ b a (k + 1) = zsQ b a k ++ [getZ b (a + 8 * (k : Nat)) 8] := by
  unfold zsQ
  rw [List.range_succ, List.map_append]
  rfl
theorem zsQ_len (b : List UInt8) (a : Int) (k : Nat) : (zsQ b a k).length = k := by simp [zsQ]
/-- What nums answers. -/
def numsQ (b : List UInt8) (a : Int) (n : Nat) : List Int × Int × Bool :=
  if Int.tdiv ((b.length : Int) - a) 8 < n then ([], 0, false) else (zsQ b a n, a + 8 * n, true)
set_option maxHeartbeats 4000000 in
theorem nums_any (b : List UInt8) (v : Value) (F : Nat → Prop) (a : Int) (n : Nat) (w : World) (hv : By w F v b) (hn : b.length ≤ 1000000000) (ha0 : 0 ≤ a) (ha1 : a ≤ 2000000000) (hn1 : n ≤ 1000000000) :
    Calls Try.prog 128 #[v, .int .i64 a, .int .i64 (n : Nat)] w fun e w' => ∃ A c, e = .returned (.tuple #[.slice A (numsQ b a n).1.length c, .int .i64 (numsQ b a n).2.1, .bool (numsQ b a n).2.2]) ∧
      ML icells 1 w' (fun x => w.heap.size ≤ x) (.slice A (numsQ b a n).1.length c) (numsQ b a n).1 ∧ Below w.heap.size w w' := by
  obtain ⟨i1, hi1, hw0, hw1, hw2⟩ := info_parts info_intS
  have GT := Lib.hid (fun W (hk : Keep (fun _ => False) w W) (y : Int) (h1 : -9223372036854775808 ≤ y) (h2 : y ≤ 9223372036854775807) => refGet_any b v F y 8 W (hv.keep hk (fun _ _ _ h => h)) h1 h2)
  obtain ⟨A, c, rfl, hbc, hcm, -⟩ := hv
  by_cases ht : Int.tdiv ((b.length : Int) - a) 8 < n
  · rw [show numsQ b a n = ([], 0, false) by unfold numsQ; rw [if_pos ht]]
    have hq : IntKind.i64.wrap ((b.length : Int) - a) = (b.length : Int) - a := IntWalk.i64_in _ (by omega)
    generalize b.length = m at *
    generalize hx : (m : Int) - a = x at *
    go_enter Try.func128, Try.ntmps128
    go_wp2
    go_ret3
    exact ⟨none, 0, rfl, ML.nil _ _ _ _, Below.refl _ _⟩
  · rw [show numsQ b a n = (zsQ b a n, a + 8 * n, true) by unfold numsQ; rw [if_neg ht]]
    rw [show (zsQ b a n).length = n from zsQ_len b a n]
    have ht2 : ¬ Int.tdiv ((b.length : Int) - a) 8 < (n : Int) := ht
    have ZN := Lib.hid (zsQ_next b a)
    have Z0 := Lib.hid (show zsQ b a 0 = [] from rfl)
    generalize zsQ b a = zs at *
    generalize b.length = m at *
    go_enter Try.func128, Try.ntmps128
    go_wp2
    go_loopw [9, 10] (fun s i wr => ∃ (k : Nat) (B : Option Addr) (d : Nat), i = .int .i64 k ∧ k ≤ n ∧ s = .slice B k d ∧ Hid (Own wr w.heap.size 3 1 (.slice B k d) k ((zs k).flatMap icells) ∧ Keep (fun _ => False) w wr)) (fun _ i _ => n - (intOf i).toNat)
    case atStart => exact ⟨0, none, 0, rfl, Nat.zero_le _, rfl, Lib.hid ⟨by rw [Z0.out]; exact Own.none_ _ _ _ _ _, Keep.refl _ _⟩⟩
    case round =>
      obtain ⟨k, B, d, rfl, hk, rfl, ht3⟩ := hrel
      clear ht
      by_cases hlt : k < n
      · have hi : (k : Int) < (n : Int) := by omega
        have K1 := GT.out _ ht3.out.2 (a + 8 * (k : Int)) (by omega) (by omega)
        have ZK := Lib.hid (ZN.out k)
        generalize hz : getZ b (a + 8 * (k : Int)) 8 = z at *
        have hs4 := ht3.out.2.size
        clear hz
        go_wp2_with fail
        refine K1.mono ?_
        rintro e w1 ⟨rfl, rfl⟩
        go_wp2_with (at_builtin; refine wpList_append_gen _ rfl _ _ _ _ rfl w.heap.size 3 i1 _ 1 8 Try.underlying43 hi1 hw0 hw1 hw2 rfl _ k _ rfl (ht3.out.1.alloc _) _ 1 [.int .i64 z] rfl (lit_src Try.underlying43 _ 1 rfl (by decide) (by intro u hu; simp at hu; subst hu; rfl)) ?c1 ?c2 ?c3 ?_)
        case c1 => unfold maxLen; omega
        case c2 => omega
        case c3 => simp; omega
        intro v' w5 ho hk5 _
        obtain ⟨A5, c5, hv', _⟩ := ho.form
        subst hv'
        have NT := Lib.hid (show Own w5 w.heap.size 3 1 (.slice A5 (k + 1) c5) (k + 1) ((zs (k + 1)).flatMap icells) ∧ Keep (fun _ => False) w w5 from
          ⟨by rw [ZK.out, List.flatMap_append, List.flatMap_cons, List.flatMap_nil, List.append_nil]; exact ho, (ht3.out.2.alloc _).trans hk5 (fun b hb e => by have := (ht3.out.1.ownB b e).1; omega)⟩)
        clear ho hk5 K1
        go_wp2
        go_roundw
        case rel => exact ⟨k + 1, A5, c5, by first | rfl | go_num, by omega, rfl, NT⟩
        case measure => simp [intOf]; omega
      · have hi : ¬ (k : Int) < (n : Int) := by omega
        obtain rfl : k = n := by omega
        go_wp2
        go_ret3
        have hl : (zs k).length = k := by
          have := ht3.out.1.1
          rw [flat_len icells_len] at this
          omega
        have := Own.ml (n := 0) (l := zs k) (by decide) icells_len (by rw [hl]; exact ht3.out.1)
        exact ⟨B, d, rfl, this, ht3.out.2.to_below'⟩
end Go.Proofs.Ythkgchlndfcmpaa

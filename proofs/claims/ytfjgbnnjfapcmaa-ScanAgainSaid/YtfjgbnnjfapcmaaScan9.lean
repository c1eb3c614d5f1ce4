/- Contract of vivariumref18.Laid. -/
import Derived.Test.YtfjgbnnjfapcmaaScan8
import Derived.Test.YtfjgbnnjfapcmaaSeal7
import Derived.Deep.DeepCutAuto
namespace Go.Proofs.Ytfjgbnnjfapcmaa
open Go.RowKit
set_option maxRecDepth 100000
set_option linter.unusedVariables false
set_option linter.unusedSimpArgs false

theorem cutB_512 {l : List UInt8} (h : l.length = 512) : cutB l 512 = l := by
  unfold cutB
  rw [List.take_of_length_le (by omega), h]; simp
theorem Own.set1 {w : World} {B g n d k : Nat} {e : TypeId} {xs : List Value} {x : Value} (h : Own w B e 1 (.slice (some ⟨g, 0, none⟩) n d) n xs) (hd : 0 < d) : Own (w.setCell ⟨g, k, none⟩ x) B e 1 (.slice (some ⟨g, 0, none⟩) n d) n (xs.set k x) := by
  obtain ⟨hl, A, c, hv, hnc, hcm, hg⟩ := h
  injection hv with e1 e2 e3
  subst e1 e3
  obtain ⟨g', cur, eg, hb, hgg, hcs, htk⟩ := hg hd
  injection eg with eg
  injection eg with eg
  subst eg
  refine ⟨by rw [List.length_set]; exact hl, _, d, rfl, hnc, hcm, fun _ => ⟨g, cur.setIfInBounds k x, rfl, hb, heap_setCell_same w g k _ _ x hgg, by simpa using hcs, ?_⟩⟩
  rw [Array.toList_setIfInBounds, List.take_set, htk]
/-- One of a list is laid anew, in place. -/
theorem NB.set1 {w : World} {B g n d k : Nat} {e : TypeId} {R : List (List UInt8)} {x : Value} {r : List UInt8} (h : NB bsN B e w (.slice (some ⟨g, 0, none⟩) n d) R) (hn : R.length = n) (hd : 0 < d) (hx : By w (fun b => b ≠ g) x r) : NB bsN B e (w.setCell ⟨g, k, none⟩ x) (.slice (some ⟨g, 0, none⟩) n d) (R.set k r) := by
  subst hn
  obtain ⟨us, h1, h2, h3⟩ := h
  have h2 : Own w B e 1 (.slice (some ⟨g, 0, none⟩) R.length d) R.length ((R.zip us).flatMap (fun p => [p.2])) := h2
  rw [zip_snd h1] at h2
  have hob : ownB (.slice (some ⟨g, 0, none⟩) R.length d) = some g := by
    obtain ⟨d', rfl⟩ : ∃ d', d = d' + 1 := ⟨d - 1, by omega⟩
    rfl
  have hk : Keep (fun b => b = g) w (w.setCell ⟨g, k, none⟩ x) := Keep.setCell (S := fun b => b = g) (p := ⟨g, k, none⟩) (Keep.refl _ w) (.inr rfl) _
  refine ⟨us.set k x, by rw [List.length_set, List.length_set, h1], ?_, fun i y q hy hq => ?_⟩
  · show Own _ B e 1 _ (R.set k r).length (((R.set k r).zip (us.set k x)).flatMap (fun p => [p.2]))
    rw [zip_snd (by rw [List.length_set, List.length_set, h1]), List.length_set]
    exact h2.set1 hd
  · show By _ _ q y
    by_cases e1 : i = k
    · subst e1
      rw [List.getElem?_set] at hy hq
      rw [if_pos rfl] at hy hq
      split at hy
      · split at hq
        · obtain rfl := Option.some.inj hy
          obtain rfl := Option.some.inj hq
          exact (By.keep hx hk (fun b _ h e => h e)).mono (fun b _ h e => by rw [hob] at e; exact h (Option.some.inj e).symm)
        · cases hq
      · cases hy
    · rw [List.getElem?_set, if_neg (Ne.symm e1)] at hy hq
      have h4 := h3 i y q hy hq
      exact By.keep (show By w _ q y from h4) hk (fun b _ h e => h (by rw [hob, e]))
/-- The same, all in blocks of X. -/
theorem NBX.set1 {X : Nat → Prop} {w : World} {B g n d k : Nat} {e : TypeId} {R : List (List UInt8)} {x : Value} {r : List UInt8} (h : NBX bsN X B e w (.slice (some ⟨g, 0, none⟩) n d) R) (hn : R.length = n) (hd : 0 < d) (hx : By w (fun b => X b ∧ b ≠ g) x r) : NBX bsN X B e (w.setCell ⟨g, k, none⟩ x) (.slice (some ⟨g, 0, none⟩) n d) (R.set k r) := by
  subst hn
  obtain ⟨us, h1, h2, h3⟩ := h
  have h2 : Own w B e 1 (.slice (some ⟨g, 0, none⟩) R.length d) R.length ((R.zip us).flatMap (fun p => [p.2])) := h2
  rw [zip_snd h1] at h2
  have hob : ownB (.slice (some ⟨g, 0, none⟩) R.length d) = some g := by
    obtain ⟨d', rfl⟩ : ∃ d', d = d' + 1 := ⟨d - 1, by omega⟩
    rfl
  have hk : Keep (fun b => b = g) w (w.setCell ⟨g, k, none⟩ x) := Keep.setCell (S := fun b => b = g) (p := ⟨g, k, none⟩) (Keep.refl _ w) (.inr rfl) _
  refine ⟨us.set k x, by rw [List.length_set, List.length_set, h1], ?_, fun i y q hy hq => ?_⟩
  · show Own _ B e 1 _ (R.set k r).length (((R.set k r).zip (us.set k x)).flatMap (fun p => [p.2]))
    rw [zip_snd (by rw [List.length_set, List.length_set, h1]), List.length_set]
    exact h2.set1 hd
  · show By _ _ q y
    by_cases e1 : i = k
    · subst e1
      rw [List.getElem?_set] at hy hq
      rw [if_pos rfl] at hy hq
      split at hy
      · split at hq
        · obtain rfl := Option.some.inj hy
          obtain rfl := Option.some.inj hq
          exact (By.keep hx hk (fun b _ h e => h.2 e)).mono (fun b _ h => ⟨h.1, fun e => by rw [hob] at e; exact h.2 (Option.some.inj e).symm⟩)
        · cases hq
      · cases hy
    · rw [List.getElem?_set, if_neg (Ne.symm e1)] at hy hq
      have h4 := h3 i y q hy hq
      exact By.keep (show By w _ q y from h4) hk (fun b _ h e => h.2 (by rw [hob, e]))
theorem NBX.bysX {X : Nat → Prop} {B : Nat} {e : TypeId} {w : World} {u : Value} {R : List (List UInt8)} (h : NBX bsN X B e w u R) : Bys w (fun b => X b ∨ B ≤ b) u R := by
  obtain ⟨us, h1, h2, h3⟩ := h
  have h2 : Own w B e 1 u R.length ((R.zip us).flatMap (fun p => [p.2])) := h2
  rw [zip_snd h1] at h2
  refine ⟨us, h2.sl.mono (fun _ _ h => .inr h), fun i r hr => ?_⟩
  have hi : i < us.length := by rw [h1]; exact (List.getElem?_eq_some_iff.1 hr).1
  exact ⟨us[i], List.getElem?_eq_getElem hi, By.mono (h3 i r _ hr (List.getElem?_eq_getElem hi)) (fun _ _ h => .inl h.1)⟩
theorem NBX.base {X : Nat → Prop} {B B' : Nat} {e : TypeId} {w : World} {u : Value} {R : List (List UInt8)} (h : NBX bsN X B e w u R) (hB : B' ≤ B) : NBX bsN X B' e w u R := by
  obtain ⟨us, h1, h2, h3⟩ := h
  exact ⟨us, h1, h2.mono hB, h3⟩
theorem laid512 {c : Cf} {l S : List (List UInt8)} {lsn : Int} {T : List Int} (hl : ∀ s ∈ l, s.length = 512) (hS : ∀ s ∈ S, s.length = 512) : ∀ n, n ≤ S.length → ∀ s ∈ laidTo c l lsn S T n, s.length = 512
  | 0, _ => hl
  | n + 1, hn => fun s hs => by
    have ih := laid512 (c := c) (lsn := lsn) (T := T) hl hS n (by omega)
    rw [laidTo] at hs
    rcases List.mem_or_eq_of_mem_set hs with h | h
    · exact ih s h
    · subst h
      by_cases hp : plc c (lsn + (n : Nat)) < (laidTo c l lsn S T n).length
      · refine tearB_len _ (ih _ ?_) (hS _ ?_)
        · rw [List.getD_eq_getElem?_getD, List.getElem?_eq_getElem hp]; exact List.getElem_mem _
        · rw [List.getD_eq_getElem?_getD, List.getElem?_eq_getElem (show n < S.length by omega)]; exact List.getElem_mem _
      · rw [List.set_eq_of_length_le (by omega)] at hs
        exact ih _ hs
theorem getD_512 {l : List (List UInt8)} (h : ∀ s ∈ l, s.length = 512) {k : Nat} (hk : k < l.length) : (l.getD k []).length = 512 := h _ (by
  rw [List.getD_eq_getElem?_getD, List.getElem?_eq_getElem hk]; exact List.getElem_mem _)
theorem tmod_plc {c : Cf} {lsn : Int} (h0 : 0 ≤ lsn) (h1 : 0 < c.log) : lsn.tmod c.log = (plc c lsn : Nat) := by
  have := Int.emod_nonneg lsn (show c.log ≠ 0 by omega)
  rw [Int.tmod_eq_emod_of_nonneg h0]; unfold plc; omega
theorem iv_getD {w : World} {H : Nat → Prop} {A : Option Addr} {n d k : Nat} {T : List Int} (h : Sl w H 1 (.slice A n d) n (iv T)) (hn : T.length = n) (hk : k < n) : ∃ b o, A = some ⟨b, o, none⟩ ∧ w.cell? ⟨b, o + k, none⟩ = some (.int .i64 (T.getD k 0)) := by
  obtain ⟨A', c, e, h1, h2, h3, h4⟩ := h
  injection e with e1 e2 e3
  subst e1
  obtain ⟨b, o, e4, _, hc⟩ := h4.2 (by omega)
  exact ⟨b, o, e4, hc k _ (iv_at (by omega)).1⟩
theorem Bys.one {w : World} {F : Nat → Prop} {l : List (List UInt8)} {cs : List Value} (hl : cs.length = l.length) (h : ∀ (i : Nat) (r : List UInt8), l[i]? = some r → ∃ u, cs[i]? = some u ∧ By w F u r) : ∀ u ∈ cs, u.oneCell' = true := fun u hu => by
  obtain ⟨i, hi, rfl⟩ := List.getElem_of_mem hu
  obtain ⟨u, h1, h2⟩ := h i _ (List.getElem?_eq_getElem (show i < l.length by omega))
  rw [List.getElem?_eq_getElem hi] at h1
  obtain rfl := Option.some.inj h1
  exact h2.oneCell
/-- A list of slices that was copied. -/
theorem NB.copied {w w5 : World} {B : Nat} {G : Nat → Prop} {e : TypeId} {cs : List Value} {l : List (List UInt8)} {u : Value} (hl : cs.length = l.length) (h : ∀ (i : Nat) (r : List UInt8), l[i]? = some r → ∃ u, cs[i]? = some u ∧ By w G u r)
    (ho : Own w5 B e 1 u l.length cs) (hk : Keep (fun _ => False) w w5) (hB : w.heap.size ≤ B) : NB bsN B e w5 u l := by
  refine ⟨cs, hl, ?_, fun i x v hx hv => ?_⟩
  · show Own w5 B e 1 u l.length ((l.zip cs).flatMap (fun p => [p.2]))
    rw [zip_snd hl]; exact ho
  · obtain ⟨y, hy, hb⟩ := h i x hx
    rw [hv] at hy
    obtain rfl := Option.some.inj hy
    show By w5 _ v x
    exact By.mono (By.keep (By.mono (G := fun b => b < w.heap.size) hb (fun b hb _ => hb)) hk (fun _ _ _ h => h)) (fun b _ h e => by have := (ho.ownB b e).1; omega)
/-- A list of slices that was copied. -/
theorem NBX.copied {X : Nat → Prop} {w w5 : World} {B : Nat} {G : Nat → Prop} {e : TypeId} {cs : List Value} {l : List (List UInt8)} {u : Value} (hl : cs.length = l.length) (h : ∀ (i : Nat) (r : List UInt8), l[i]? = some r → ∃ u, cs[i]? = some u ∧ By w G u r)
    (ho : Own w5 B e 1 u l.length cs) (hk : Keep (fun _ => False) w w5) (hB : w.heap.size ≤ B) (hX : ∀ b, b < w.heap.size → G b → X b) : NBX bsN X B e w5 u l := by
  refine ⟨cs, hl, ?_, fun i x v hx hv => ?_⟩
  · show Own w5 B e 1 u l.length ((l.zip cs).flatMap (fun p => [p.2]))
    rw [zip_snd hl]; exact ho
  · obtain ⟨y, hy, hb⟩ := h i x hx
    rw [hv] at hy
    obtain rfl := Option.some.inj hy
    show By w5 _ v x
    exact By.mono (By.keep (By.mono (G := fun b => b < w.heap.size ∧ G b) hb (fun b hb h => ⟨hb, h⟩)) hk (fun _ _ _ h => h)) (fun b _ h => ⟨hX b h.1 h.2, fun e => by have := (ho.ownB b e).1; omega⟩)
theorem KSt.set {w W : World} {a b c d u x : Value} {g p : Nat} (h : KSt w W a b c d u) (hg : w.heap.size < g) : KSt w (W.setCell ⟨g, p, none⟩ x) a b c d u :=
  ⟨(Below.heap_setCell W ⟨g, p, none⟩ x _ (by simp; omega)).trans h.1, h.2.setCell (by simp; omega) _⟩
set_option maxHeartbeats 4000000 in
theorem rlaidX_any (c : Cf) (u : Value) (F : Nat → Prop) (l : List (List UInt8)) (v : Value) (G : Nat → Prop) (lsn : Int) (S : List (List UInt8)) (vS : Value) (GS : Nat → Prop) (T : List Int) (AT : Option Addr) (dT : Nat) (H : Nat → Prop) (w : World)
    (hu : CL w F u c.l) (hv : Bys w G v l) (hS : Bys w GS vS S) (hT : Sl w H 1 (.slice AT T.length dT) T.length (iv T)) (hTw : ∀ t ∈ T, -9223372036854775808 ≤ t ∧ t ≤ 9223372036854775807)
    (hr : rightB c = true) (hl : (l.length : Int) = c.log) (h5 : ∀ s ∈ l, s.length = 512) (hS5 : ∀ s ∈ S, s.length = 512) (h0 : 0 ≤ lsn) (h1 : lsn + S.length ≤ 1000000000000000) :
    Calls Try.prog 26 #[confV c u, v, .int .i64 lsn, vS, .slice AT T.length dT] w fun e w' => ∃ A d, e = .returned (.slice A l.length d) ∧ NBX bsN (fun b => G b ∨ w.heap.size ≤ b) w.heap.size 29 w' (.slice A l.length d) (laidF c l lsn S T) ∧ Below w.heap.size w w' := by
  obtain ⟨is, his, hs0, hs1, hs2⟩ := info_parts info_bytes
  have hsz : sizesOk c := (of_decide_eq_true hr).1
  obtain ⟨⟨g1, g2⟩, -⟩ := hsz
  have HV := Lib.hid hv
  have HS := Lib.hid hS
  have HT := Lib.hid hT
  have L5 := Lib.hid (laid512 (c := c) (lsn := lsn) (T := T) h5 hS5)
  have S5 := Lib.hid (fun k (h : k < S.length) => getD_512 hS5 h)
  have LL := Lib.hid (laidTo_len c l lsn S T)
  have TM := Lib.hid (fun (z : Int) (hz : 0 ≤ z) => tmod_plc (c := c) hz (by omega))
  have PLT := Lib.hid (fun (z : Int) => plc_lt (lsn := z) hl (by omega))
  have NX := Lib.hid (fun k => show laidTo c l lsn S T (k + 1) = (laidTo c l lsn S T k).set (plc c (lsn + (k : Nat))) (tearB ((laidTo c l lsn S T k).getD (plc c (lsn + (k : Nat))) []) (S.getD k []) (tearAt T k)) from rfl)
  have TA := Lib.hid (show ∀ k, -9223372036854775808 ≤ tearAt T k ∧ tearAt T k ≤ 9223372036854775807 from fun k => by
    unfold tearAt
    split
    · rename_i h
      rw [List.getD_eq_getElem?_getD, List.getElem?_eq_getElem h]; exact hTw _ (List.getElem_mem _)
    · decide)
  have TY := Lib.hid (show ∀ k, k < T.length → tearAt T k = T.getD k 0 from fun k h => if_pos h)
  have TN := Lib.hid (show ∀ k, ¬ k < T.length → tearAt T k = 64 from fun k h => if_neg h)
  have RT := Lib.hid (fun (a b : List UInt8) (x y : Value) (F1 F2 : Nat → Prop) (k : Int) (W : World) (hx : By W F1 x a) (hy : By W F2 y b) (hk : -9223372036854775808 ≤ k ∧ k ≤ 9223372036854775807) (la : a.length = 512) (lb : b.length = 512) =>
    show Calls Try.prog 51 #[x, y, .int .i64 k] W (ByPost W (tearB a b k)) from by have := rtear_any a b x y F1 F2 k W hx hy hk; rwa [cutB_512 la, cutB_512 lb] at this)
  obtain ⟨A, cap, rfl, hlc, hcm, -⟩ := hv.form
  obtain ⟨AS, capS, rfl, hlS, hcS, -⟩ := hS.form
  obtain ⟨Au, cu, rfl, -⟩ := hu
  obtain ⟨cs, hsl, hcsb⟩ := HV.out
  have HB := Lib.hid hcsb
  have SLV := Lib.hid hsl
  unfold maxLen at hcm hcS
  unfold confV at *
  rw [← hl] at g1 g2 TM
  clear hv hS hT hTw hr h5 hS5 hcsb hsl
  unfold laidF
  rw [← hl]
  clear hl
  obtain ⟨n, hn⟩ : ∃ n, n = l.length := ⟨_, rfl⟩
  obtain ⟨m, hm⟩ : ∃ m, m = S.length := ⟨_, rfl⟩
  obtain ⟨t, ht⟩ : ∃ t, t = T.length := ⟨_, rfl⟩
  have HNT := Lib.hid (And.intro hn (And.intro hm ht))
  rw [← hn] at hlc HV g1 g2 LL PLT SLV TM ⊢
  rw [← hm] at hlS HS h1 S5 L5 ⊢
  rw [← ht] at HT TY TN ⊢
  clear hn hm ht
  go_enter Try.func26, Try.ntmps26
  go_upto_region 1 with fail
  refine wp_world (S := fun X => KSt w X (.int .i64 (n : Int)) (.int .i64 c.pages) (.int .i64 c.ents) (.int .i64 c.gens) (.slice Au c.l.length cu)) (KSt.mk_ w _ _ _ _ _) ?_
  intro X hX
  have HX := Lib.hid hX
  clear hX
  have HLC := Lib.hid (show cs.length = l.length by have := SLV.out.len; rw [Nat.mul_one] at this; rw [this]; exact HNT.out.1)
  have ON1 := Lib.hid (Bys.one HLC.out HB.out)
  have SRC := Lib.hid (show ∀ W, Keep (fun _ => False) w W → Src Try.prog 1 25 (.slice A n cap) n cs W from fun W hk => by
    obtain ⟨A', c', e, _, _, _, h4⟩ := SLV.out
    injection e with e1 e2 e3
    subst e1 e3
    exact (h4.keep hk (fun _ _ _ h => h)).src Try.underlying25 ON1.out (by decide))
  go_wp2_with (at_builtin; refine wpList_append_gen _ rfl _ _ 25 25 rfl (w.heap.size + 1) 29 is _ 1 24 Try.underlying25 his hs0 hs1 hs2 rfl _ 0 [] rfl (Own.none_ _ _ _ _ _) _ n cs rfl (SRC.out _ (HX.out.keep.alloc _)) ?c1 ?c2 ?c3 ?_)
  case c1 => unfold maxLen; omega
  case c2 => omega
  case c3 => have := HX.out.lt; simp; omega
  intro v5 w5 ho5 hk5 hn5
  have ho5 : Own w5 (w.heap.size + 1) 29 1 v5 n cs := ho5
  obtain ⟨g, d5, rfl⟩ : ∃ g d, v5 = .slice (some ⟨g, 0, none⟩) n d := by
    obtain ⟨_, A5, c5, e5, h6, _, hg⟩ := ho5
    obtain ⟨g, _, e6, _⟩ := hg (by omega)
    exact ⟨g, c5, by rw [e5, e6]⟩
  have hd5 : 0 < d5 := by
    obtain ⟨_, A5, c5, e5, h6, _, hg⟩ := ho5
    injection e5 with _ _ e7
    omega
  have K5 : Keep (fun _ => False) X w5 := ((Keep.refl (fun _ => False) X).alloc _).trans hk5 (fun x _ e => by simp [ownB] at e)
  have H5 := Lib.hid (And.intro (HX.out.below K5.to_below') (NBX.copied (X := fun b => G b ∨ w.heap.size ≤ b) (B := w.heap.size + 1) HLC.out HB.out (HNT.out.1 ▸ ho5) (HX.out.keep.trans K5 (fun _ _ h => h)) (by omega) (fun _ _ h => .inl h)))
  have GB := Lib.hid (show w.heap.size + 1 ≤ g from (ho5.ownB g (by obtain ⟨d', rfl⟩ : ∃ d', d5 = d' + 1 := ⟨d5 - 1, by omega⟩; rfl)).1)
  clear ho5 hk5 hn5 K5 SLV HB ON1 SRC HX
  go_wp2
  go_loopw [12] (fun i wr => ∃ k : Nat, k ≤ m ∧ i = .int .i64 k ∧ Hid (KSt w wr (.int .i64 (n : Int)) (.int .i64 c.pages) (.int .i64 c.ents) (.int .i64 c.gens) (.slice Au c.l.length cu) ∧ NBX bsN (fun b => G b ∨ w.heap.size ≤ b) (w.heap.size + 1) 29 wr (.slice (some ⟨g, 0, none⟩) n d5) (laidTo c l lsn S T k))) (fun i _ => m - (intOf i).toNat)
  case atStart => exact ⟨0, by omega, rfl, Lib.hid (HNT.out.1 ▸ H5.out)⟩
  case round =>
    obtain ⟨k, hk, rfl, hst⟩ := hrel
    by_cases hlt : k < m
    · have f1 : (k : Int) < (m : Int) := by omega
      have f2 : (0 : Int) ≤ (k : Int) := by omega
      have e1 : IntKind.i64.wrap (lsn + (k : Int)) = lsn + (k : Int) := IntWalk.i64_in _ (by omega)
      have TMK := TM.out (lsn + (k : Int)) (by omega)
      have hpl := PLT.out (lsn + (k : Int))
      have NXK := Lib.hid (NX.out k)
      have TAK := Lib.hid (TA.out k)
      have TYK := Lib.hid (TY.out k)
      have TNK := Lib.hid (TN.out k)
      have R5 := Lib.hid (L5.out k (by omega))
      have S5K := Lib.hid (S5.out k (by omega))
      generalize plc c (lsn + (k : Int)) = p at *
      have LK := Lib.hid (LL.out k)
      have AK := Lib.hid (getD_512 R5.out (by rw [LK.out]; exact hpl))
      generalize hL : laidTo c l lsn S T k = L at *
      clear hL
      obtain ⟨b9, o9, A1, d1, e9, x1, y1⟩ := hst.out.2.nb.bys.at_ p (by rw [LK.out] at *; exact hpl)
      have y1b := By.mono (G := fun _ => True) y1 (fun _ _ _ => trivial)
      injection e9 with e9
      injection e9 with e9a e9b
      subst e9a e9b
      rw [Nat.zero_add] at x1
      obtain ⟨b2, o2, A2, d2, rfl, x2, y2⟩ := (HS.out.keep hst.out.1.keep (fun _ _ _ h => h)).at_ k hlt
      have CE := Lib.hid (show ∀ W', Keep (fun _ => False) wr W' → W'.cell? ⟨g, p, none⟩ = some (.slice A1 (L.getD p []).length d1) ∧ W'.cell? ⟨b2, o2 + k, none⟩ = some (.slice A2 (S.getD k []).length d2) ∧ W'.frozen? ⟨g, p, none⟩ = false ∧ Keep (fun _ => False) wr W' from fun W' hk => by
        have hf : wr.frozen? ⟨g, p, none⟩ = false := by
          obtain ⟨us, _, ho, _⟩ := hst.out.2
          obtain ⟨_, A9, c9, e9, _, _, hg9⟩ := ho
          injection e9 with e91 e92 e93
          subst e91 e93
          obtain ⟨g9, cur9, e94, _, hg10, _, _⟩ := hg9 hd5
          injection e94 with e94
          injection e94 with e94
          subst e94
          exact frozen_of_row wr g p _ _ hg10
        exact ⟨hk.cell (fun h => h) x1, hk.cell (fun h => h) x2, (hk.frozen (fun h => h) (World.block_lt_of_cell? wr _ x1)).trans hf, hk⟩)
      have Y1 := Lib.hid y1b
      have Y2 := Lib.hid y2
      have RTK := Lib.hid (fun W (hk : Keep (fun _ => False) wr W) => RT.out (L.getD p []) (S.getD k []) _ _ _ _ (tearAt T k) W (By.keep Y1.out hk (fun _ _ _ h => h)) (By.keep Y2.out hk (fun _ _ _ h => h)) TAK.out AK.out S5K.out)
      have GLT := Lib.hid (World.block_lt_of_cell? wr _ x1)
      clear y1 y1b y2
      have xf := (CE.out wr (Keep.refl _ _)).2.2.1
      generalize (L.getD p []).length = q1 at *
      generalize (S.getD k []).length = q2 at *
      have p1 : (p : Int) < (n : Int) := by omega
      have p2 : (0 : Int) ≤ (p : Int) := by omega
      have n0 : ¬ (n : Int) = 0 := by omega
      obtain ⟨c0, c1, c2, c3, c4, cf⟩ := cells5 hst.out.1.1
      by_cases hkt : k < t
      · have t1 : (k : Int) < (t : Int) := by omega
        obtain ⟨b3, o3, rfl, x3⟩ := iv_getD (HT.out.keep hst.out.1.keep (fun _ _ _ h => h)) HNT.out.2.2.symm hkt
        rw [← TYK.out hkt] at x3
        generalize tearAt T k = tk at *
        clear TYK TNK
        go_upto_region 9 with fail
        go_region_with (go_at_call 51; (with_reducible refine (RTK.out _ (by exact (by repeat first | (with_reducible assumption) | (with_reducible exact Keep.refl _ _) | (with_reducible refine Keep.alloc ?_ _) | (with_reducible refine Keep.drew ?_) | (with_reducible refine Keep.drewN ?_ _) | (with_reducible refine Keep.setCell ?_ (.inl (by first | omega | (simp; done) | (simp; omega) | fail)) _)))).mono ?_); rintro e w7 ⟨A7, n7, d7, rfl, hy7, hb7⟩; have hk7 : Keep (fun _ => False) wr w7 := Keep.trans (T := fun _ => False) (by exact (by repeat first | (with_reducible assumption) | (with_reducible exact Keep.refl _ _) | (with_reducible refine Keep.alloc ?_ _) | (with_reducible refine Keep.drew ?_) | (with_reducible refine Keep.drewN ?_ _) | (with_reducible refine Keep.setCell ?_ (.inl (by first | omega | (simp; done) | (simp; omega) | fail)) _))) (Keep.of_below' hb7) (fun _ _ h => h); obtain ⟨z1, z2, z3, -⟩ := CE.out _ hk7)
        all_goals
          have H7 := Lib.hid (show KSt w (w7.setCell ⟨g, p, none⟩ (.slice A7 n7 d7)) (.int .i64 (n : Int)) (.int .i64 c.pages) (.int .i64 c.ents) (.int .i64 c.gens) (.slice Au c.l.length cu) ∧ NBX bsN (fun b => G b ∨ w.heap.size ≤ b) (w.heap.size + 1) 29 (w7.setCell ⟨g, p, none⟩ (.slice A7 n7 d7)) (.slice (some ⟨g, 0, none⟩) n d5) (laidTo c l lsn S T (k + 1)) from
            ⟨(hst.out.1.below hk7.to_below').set (by have := GB.out; omega), by rw [NXK.out]; exact (hst.out.2.keep hk7 (fun _ _ h => h) (fun _ _ _ _ h => h)).set1 LK.out hd5 (By.mono hy7 (fun b _ h => ⟨.inr (by have h8 := hst.out.1.2.size; exact Nat.le_trans h8 h), fun e => by have := GLT.out; subst e; exact absurd (Nat.lt_of_lt_of_le this h) (Nat.lt_irrefl _)⟩))⟩)
          clear hy7 hb7 hk7 z1 z2 z3
          go_wp2
          go_roundw
          case rel => exact ⟨k + 1, by omega, by go_num, Lib.hid H7.out⟩
          case measure => simp [intOf]; omega
      · have t1 : ¬ (k : Int) < (t : Int) := by omega
        have TE := Lib.hid (TNK.out hkt)
        rw [TE.out] at RTK
        go_upto_region 9 with fail
        go_region_with (go_at_call 51; (with_reducible refine (RTK.out _ (by exact (by repeat first | (with_reducible assumption) | (with_reducible exact Keep.refl _ _) | (with_reducible refine Keep.alloc ?_ _) | (with_reducible refine Keep.drew ?_) | (with_reducible refine Keep.drewN ?_ _) | (with_reducible refine Keep.setCell ?_ (.inl (by first | omega | (simp; done) | (simp; omega) | fail)) _)))).mono ?_); rintro e w7 ⟨A7, n7, d7, rfl, hy7, hb7⟩; have hk7 : Keep (fun _ => False) wr w7 := Keep.trans (T := fun _ => False) (by exact (by repeat first | (with_reducible assumption) | (with_reducible exact Keep.refl _ _) | (with_reducible refine Keep.alloc ?_ _) | (with_reducible refine Keep.drew ?_) | (with_reducible refine Keep.drewN ?_ _) | (with_reducible refine Keep.setCell ?_ (.inl (by first | omega | (simp; done) | (simp; omega) | fail)) _))) (Keep.of_below' hb7) (fun _ _ h => h); obtain ⟨z1, z2, z3, -⟩ := CE.out _ hk7)
        all_goals
          have H7 := Lib.hid (show KSt w (w7.setCell ⟨g, p, none⟩ (.slice A7 n7 d7)) (.int .i64 (n : Int)) (.int .i64 c.pages) (.int .i64 c.ents) (.int .i64 c.gens) (.slice Au c.l.length cu) ∧ NBX bsN (fun b => G b ∨ w.heap.size ≤ b) (w.heap.size + 1) 29 (w7.setCell ⟨g, p, none⟩ (.slice A7 n7 d7)) (.slice (some ⟨g, 0, none⟩) n d5) (laidTo c l lsn S T (k + 1)) from
            ⟨(hst.out.1.below hk7.to_below').set (by have := GB.out; omega), by rw [NXK.out]; rw [TE.out]; exact (hst.out.2.keep hk7 (fun _ _ h => h) (fun _ _ _ _ h => h)).set1 LK.out hd5 (By.mono hy7 (fun b _ h => ⟨.inr (by have h8 := hst.out.1.2.size; exact Nat.le_trans h8 h), fun e => by have := GLT.out; subst e; exact absurd (Nat.lt_of_lt_of_le this h) (Nat.lt_irrefl _)⟩))⟩)
          clear hy7 hb7 hk7 z1 z2 z3
          go_wp2
          go_roundw
          case rel => exact ⟨k + 1, by omega, by go_num, Lib.hid H7.out⟩
          case measure => simp [intOf]; omega
    · obtain rfl : k = m := by omega
      have f1 : ¬ (k : Int) < (k : Int) := by omega
      go_wp2
      go_ret
      exact ⟨_, _, rfl, hst.out.2.base (by omega), hst.out.1.2⟩
theorem rlaid_any (c : Cf) (u : Value) (F : Nat → Prop) (l : List (List UInt8)) (v : Value) (G : Nat → Prop) (lsn : Int) (S : List (List UInt8)) (vS : Value) (GS : Nat → Prop) (T : List Int) (AT : Option Addr) (dT : Nat) (H : Nat → Prop) (w : World)
    (hu : CL w F u c.l) (hv : Bys w G v l) (hS : Bys w GS vS S) (hT : Sl w H 1 (.slice AT T.length dT) T.length (iv T)) (hTw : ∀ t ∈ T, -9223372036854775808 ≤ t ∧ t ≤ 9223372036854775807)
    (hr : rightB c = true) (hl : (l.length : Int) = c.log) (h5 : ∀ s ∈ l, s.length = 512) (hS5 : ∀ s ∈ S, s.length = 512) (h0 : 0 ≤ lsn) (h1 : lsn + S.length ≤ 1000000000000000) :
    Calls Try.prog 26 #[confV c u, v, .int .i64 lsn, vS, .slice AT T.length dT] w fun e w' => ∃ A d, e = .returned (.slice A l.length d) ∧ NB bsN w.heap.size 29 w' (.slice A l.length d) (laidF c l lsn S T) ∧ Below w.heap.size w w' :=
  (rlaidX_any c u F l v G lsn S vS GS T AT dT H w hu hv hS hT hTw hr hl h5 hS5 h0 h1).mono fun e w' ⟨A, d, h1, h2, h3⟩ => ⟨A, d, h1, h2.nb, h3⟩
end Go.Proofs.Ytfjgbnnjfapcmaa

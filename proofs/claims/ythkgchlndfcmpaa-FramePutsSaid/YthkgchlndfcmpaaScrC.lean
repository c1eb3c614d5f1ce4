/- Contract of script.crash. -/
import Derived.Test.YthkgchlndfcmpaaScrPg
import Derived.Test.YthkgchlndfcmpaaScr1
import Derived.Deep.DeepCutAuto
namespace Go.Proofs.Ythkgchlndfcmpaa
open Go.RowKit
set_option maxRecDepth 100000
set_option linter.unusedVariables false
set_option linter.unusedSimpArgs false

theorem rdr_monoC {w : World} {p : Nat} {F G : Nat → Prop} {l : List UInt8} {k : Nat} {bad : Bool} (h : Rdr w p F l k bad) (hf : ∀ b, b < w.heap.size → F b → G b) (hp : ¬ G p) : Rdr w p G l k bad := by
  obtain ⟨vs, h1, h2, h3, h4⟩ := h
  exact ⟨vs, h1, h2.mono hf, hp, h4⟩
/-- A row that is built while a reader is read. -/
def Rw {α : Type} (f : α → List Value) (m : Nat) (e : TypeId) (w W : World) (p : Nat) (F : Nat → Prop) (l : List UInt8) (k : Nat) (bad : Bool) (u : Value) (xs : List α) : Prop :=
  Own W w.heap.size e m u xs.length (xs.flatMap f) ∧ Rdr W p (fun b => F b ∧ b < w.heap.size) l k bad ∧ p < w.heap.size ∧ Keep (fun b => b = p) w W
section
variable {α : Type} {f : α → List Value} {m : Nat} {e : TypeId} {w W W' : World} {p k k' : Nat} {F : Nat → Prop} {l : List UInt8} {bad bad' : Bool} {u u' : Value} {xs : List α}
theorem Rw.step (h : Rw f m e w W p F l k bad u xs) (hr : RTo W p (fun b => F b ∧ b < w.heap.size) l k' bad' W') : Rw f m e w W' p F l k' bad' u xs :=
  ⟨h.1.keep hr.2 (fun g hg e => by have := (h.1.ownB g hg).1; have := h.2.2.1; omega), hr.1, h.2.2.1, h.2.2.2.trans hr.2 (fun _ _ h => h)⟩
theorem Rw.push (h : Rw f m e w W p F l k bad u xs) (x : α) (o : Obj) (ho : Own W' w.heap.size e m u' (xs.length + 1) (xs.flatMap f ++ f x)) (hk : Keep (fun g => ownB u = some g) (W.alloc o) W') : Rw f m e w W' p F l k bad u' (xs ++ [x]) := by
  have h1 := h.1.ownB
  have hz := h.2.2.2.size
  have hp := h.2.2.1
  refine ⟨by rw [List.length_append, List.flatMap_append, List.flatMap_cons, List.flatMap_nil, List.append_nil]; exact ho, rdr_keep (rdr_keep h.2.1 ((Keep.refl (fun _ => False) W).alloc o) (fun h => h) (fun _ _ _ h => h)) hk (fun e => by have := (h1 p e).1; omega) (fun b _ hb e => by have := (h1 b e).1; omega), hp, ?_⟩
  exact (h.2.2.2.alloc o).trans hk (fun b hb e => by have := (h1 b e).1; omega)
theorem Rw.form (h : Rw f m e w W p F l k bad u xs) : ∃ A c, u = .slice A xs.length c := by
  obtain ⟨A, c, e, _⟩ := h.1.form
  exact ⟨A, c, e⟩
end
theorem lit_src {P : Program} {w : World} {t e : TypeId} (ht : P.underlying t = some (.slice e)) (cs : List Value) (m : Nat) (hm : cs.length = m) (h0 : 0 < m) (h1 : ∀ u ∈ cs, u.oneCell' = true) :
    Src P m t (.slice (some ⟨w.heap.size, 0, none⟩) 1 1) 1 cs (w.alloc (.cells cs.toArray e)) := by
  have := Rd.lit w e cs
  exact Rd.src (n := 1) (by rw [Nat.one_mul, ← hm]; exact this) ht h1 h0
set_option maxHeartbeats 8000000 in
theorem crash_any {w : World} {p k : Nat} {F : Nat → Prop} {l : List UInt8} {bad : Bool} (h : Rdr w p F l k bad) :
    Calls Try.prog 127 #[.pointer (some ⟨p, 0, none⟩)] w fun e w' => ∃ A1 c1 A2 c2, e = .returned (.tuple #[.slice A1 (crashR l k bad).1.length c1, .slice A2 (crashR l k bad).2.1.length c2]) ∧
      ML fcells 2 w' (fun b => w.heap.size ≤ b) (.slice A1 (crashR l k bad).1.length c1) (crashR l k bad).1 ∧ ML icells 1 w' (fun b => w.heap.size ≤ b) (.slice A2 (crashR l k bad).2.1.length c2) (crashR l k bad).2.1 ∧ RTo w p F l (crashR l k bad).2.2.1 (crashR l k bad).2.2.2 w' := by
  obtain ⟨i0, hi0, hz0, hz1, hz2⟩ := info_parts info_fate
  obtain ⟨i1, hi1, hw0, hw1, hw2⟩ := info_parts info_intS
  have hp : p < w.heap.size := by obtain ⟨vs, h1, _⟩ := h; exact (Array.getElem?_eq_some_iff.1 h1).1
  have hF : ¬ F p := by obtain ⟨vs, _, _, h1, _⟩ := h; exact h1
  have H0 := Lib.hid (show Rdr w p (fun b => F b ∧ b < w.heap.size) l k bad from rdr_monoC h (fun b hb hF => ⟨hF, hb⟩) (fun h => hF h.1))
  obtain ⟨n, hn, hn6⟩ := num2 l k bad
  obtain ⟨m, hm, hm6⟩ := num2 l (faR l n (numR l k bad 2).2.1 (numR l k bad 2).2.2).2.1 (faR l n (numR l k bad 2).2.1 (numR l k bad 2).2.2).2.2
  rw [crashR_eq hn hm]
  have R1 := rnum_any H0.out 2
  rw [hn] at R1
  have R2 := Lib.hid (fun W G (h : Rdr W p G l (faR l n (numR l k bad 2).2.1 (numR l k bad 2).2.2).2.1 (faR l n (numR l k bad 2).2.1 (numR l k bad 2).2.2).2.2) => rnum_any h 2)
  rw [hm] at R2
  have HFP := Lib.hid hF
  clear hn hm h hF
  generalize (numR l k bad 2).2.1 = k1 at *
  generalize (numR l k bad 2).2.2 = b1 at *
  generalize (numR l (faR l n k1 b1).2.1 (faR l n k1 b1).2.2 2).2.1 = k2 at *
  generalize (numR l (faR l n k1 b1).2.1 (faR l n k1 b1).2.2 2).2.2 = b2 at *
  generalize hfa : faR l n k1 b1 = fa at *
  generalize hfu : fuR l m k2 b2 = fu at *
  have HFA := Lib.hid hfa
  have HFU := Lib.hid hfu
  clear hfa hfu
  go_enter Try.func127, Try.ntmps127
  go_wp2_with fail
  refine R1.mono ?_
  rintro e w1 ⟨rfl, hr⟩
  have Q1 := Lib.hid (show Rw fcells 2 100 w w1 p F l k1 b1 (.slice none 0 0) ([] : List Fa) from ⟨Own.none_ _ _ _ _ _, hr.1, hp, hr.2⟩)
  clear hr R1
  go_wp2
  go_loopw [2, 4] (fun s i wr => ∃ (j : Nat) (acc : List Fa) (kk : Nat) (bb : Bool) (q : Nat) (A : Option Addr) (c : Nat), i = .int .i64 j ∧ j ≤ n ∧ q + j ≤ n ∧ s = .slice A q c ∧ Hid (Rw fcells 2 100 w wr p F l kk bb (.slice A q c) acc ∧ acc ++ (faR l j kk bb).1 = fa.1 ∧ (faR l j kk bb).2 = fa.2 ∧ q = acc.length)) (fun _ i _ => (intOf i).toNat)
  case atStart => exact ⟨n, [], k1, b1, 0, none, 0, rfl, Nat.le_refl _, by omega, rfl, Lib.hid ⟨Q1.out, by rw [HFA.out]; rfl, by rw [HFA.out], rfl⟩⟩
  case round =>
    obtain ⟨j, acc, kk, bb, q, A, c, rfl, hj, hq, rfl, ht⟩ := hrel
    obtain ⟨g, hg⟩ : ∃ g : Bool, g = (decide (0 < j) && !bb) := ⟨_, rfl⟩
    have HG := Lib.hid hg
    clear hg
    have OK := rok_any ht.out.1.2.1
    go_upto_region 2 with fail
    go_cut [14] (fun t wx => t = .bool g ∧ wx = wr)
    case first =>
      by_cases h0 : 0 < j
      · have hi : (0 : Int) < (j : Int) := by omega
        go_wp2_with fail
        with_reducible refine OK.mono ?_
        rintro e w2 ⟨rfl, rfl⟩
        go_wp2_with fail
        go_meet
        exact ⟨by rw [HG.out, decide_eq_true h0, Bool.true_and], rfl⟩
      · have hi : ¬ (0 : Int) < (j : Int) := by omega
        go_wp2_with fail
        go_meet
        exact ⟨by rw [HG.out, decide_eq_false h0, Bool.false_and], rfl⟩
    case rest =>
      obtain ⟨rfl, rfl⟩ := hcut
      clear OK
      cases g
      · have EX := Lib.hid (show acc = fa.1 ∧ (kk, bb) = fa.2 from by
          have h1 := ht.out.2.1
          have h2 := ht.out.2.2.1
          by_cases h0 : 0 < j
          · have hb : bb = true := by have := HG.out; rw [decide_eq_true h0, Bool.true_and] at this; simpa using this
            subst hb
            rw [faR_bad] at h1 h2
            exact ⟨by simpa using h1, h2⟩
          · obtain rfl : j = 0 := by omega
            exact ⟨by simpa [faR] using h1, h2⟩)
        have Q6 := Lib.hid (show Rw fcells 2 100 w wc p F l fa.2.1 fa.2.2 (.slice A q c) fa.1 from by
          have h1 := ht.out.1
          have e1 := congrArg Prod.fst EX.out.2
          have e2 := congrArg Prod.snd EX.out.2
          simp only at e1 e2
          rw [← EX.out.1, ← e1, ← e2]
          exact h1)
        have NQ := Lib.hid (show q = fa.1.length by rw [← EX.out.1]; exact ht.out.2.2.2)
        clear ht EX HG hq hj
        have RC := R2.out _ _ Q6.out.2.1
        go_wp2_with fail
        with_reducible refine RC.mono ?_
        rintro e w3 ⟨rfl, hr⟩
        have Q7 := Lib.hid (Q6.out.step hr)
        clear hr RC Q6
        have hs3 := Q7.out.2.2.2.size
        have P7 := Lib.hid (show Rw icells 1 3 w3 w3 p (fun b => F b ∧ b < w.heap.size) l k2 b2 (.slice none 0 0) ([] : List Int) from ⟨Own.none_ _ _ _ _ _, rdr_monoC Q7.out.2.1 (fun b hb h => ⟨h, hb⟩) (fun h => HFP.out h.1.1), by omega, Keep.refl _ _⟩)
        have M7 := Lib.hid (show ML fcells 2 w3 (fun b => w.heap.size ≤ b) (.slice A q c) fa.1 from by
          have := Own.ml (n := 0) (by decide) fcells_len Q7.out.1
          exact this)
        go_wp2
        go_loopw [3, 6] (fun s i wr => ∃ (j : Nat) (acc : List Int) (kk : Nat) (bb : Bool) (q : Nat) (A : Option Addr) (c : Nat), i = .int .i64 j ∧ j ≤ m ∧ q + j ≤ m ∧ s = .slice A q c ∧ Hid (Rw icells 1 3 w3 wr p (fun b => F b ∧ b < w.heap.size) l kk bb (.slice A q c) acc ∧ acc ++ (fuR l j kk bb).1 = fu.1 ∧ (fuR l j kk bb).2 = fu.2 ∧ q = acc.length)) (fun _ i _ => (intOf i).toNat)
        case atStart => exact ⟨m, [], k2, b2, 0, none, 0, rfl, Nat.le_refl _, by omega, rfl, Lib.hid ⟨P7.out, by rw [HFU.out]; rfl, by rw [HFU.out], rfl⟩⟩
        case round =>
          obtain ⟨j, acc, kk, bb, q2, A2, c2, rfl, hj, hq, rfl, ht⟩ := hrel
          obtain ⟨g, hg⟩ : ∃ g : Bool, g = (decide (0 < j) && !bb) := ⟨_, rfl⟩
          have HG := Lib.hid hg
          clear hg
          have OK := rok_any ht.out.1.2.1
          go_upto_region 7 with fail
          go_cut [33] (fun t wx => t = .bool g ∧ wx = wr)
          case first =>
            by_cases h0 : 0 < j
            · have hi : (0 : Int) < (j : Int) := by omega
              go_wp2_with fail
              with_reducible refine OK.mono ?_
              rintro e w2 ⟨rfl, rfl⟩
              go_wp2_with fail
              go_meet
              exact ⟨by rw [HG.out, decide_eq_true h0, Bool.true_and], rfl⟩
            · have hi : ¬ (0 : Int) < (j : Int) := by omega
              go_wp2_with fail
              go_meet
              exact ⟨by rw [HG.out, decide_eq_false h0, Bool.false_and], rfl⟩
          case rest =>
            obtain ⟨rfl, rfl⟩ := hcut
            clear OK
            cases g
            · have EX := Lib.hid (show acc = fu.1 ∧ (kk, bb) = fu.2 from by
                have h1 := ht.out.2.1
                have h2 := ht.out.2.2.1
                by_cases h0 : 0 < j
                · have hb : bb = true := by have := HG.out; rw [decide_eq_true h0, Bool.true_and] at this; simpa using this
                  subst hb
                  rw [fuR_bad] at h1 h2
                  exact ⟨by simpa using h1, h2⟩
                · obtain rfl : j = 0 := by omega
                  exact ⟨by simpa [fuR] using h1, h2⟩)
              have NQ2 := Lib.hid (show q2 = fu.1.length by rw [← EX.out.1]; exact ht.out.2.2.2)
              have Q9 := Lib.hid (show Rw icells 1 3 w3 wc p (fun b => F b ∧ b < w.heap.size) l fu.2.1 fu.2.2 (.slice A2 q2 c2) fu.1 from by
                have h1 := ht.out.1
                have e1 := congrArg Prod.fst EX.out.2
                have e2 := congrArg Prod.snd EX.out.2
                simp only at e1 e2
                rw [← EX.out.1, ← e1, ← e2]
                exact h1)
              clear ht EX HG hq hj
              go_wp2
              go_ret2
              have M9 : ML icells 1 wc (fun b => w.heap.size ≤ b) (.slice A2 q2 c2) fu.1 := (Own.ml (n := 0) (by decide) icells_len Q9.out.1).mono (fun b _ h => Nat.le_trans hs3 h)
              have M8 := M7.out.keep Q9.out.2.2.2 (fun b _ h e => by omega)
              refine ⟨A, c, A2, c2, by rw [← NQ.out, ← NQ2.out]; rfl, by rw [← NQ.out]; exact M8, by rw [← NQ2.out]; exact M9, rdr_monoC Q9.out.2.1 (fun b _ h => h.1.1) HFP.out, Q7.out.2.2.2.trans Q9.out.2.2.2 (fun _ _ h => h)⟩
            · have hgo : 0 < j ∧ bb = false := by have := HG.out; simp at this; exact this
              obtain ⟨h0, rfl⟩ := hgo
              obtain ⟨i, hij⟩ : ∃ i, j = i + 1 := ⟨j - 1, by omega⟩
              have IJ := Lib.hid hij
              clear hij HG
              have FR := Lib.hid (show fuR l j kk false = _ from by rw [IJ.out, fuR, if_neg (by decide)])
              have RA := rnum_any ht.out.1.2.1 8
              generalize (numR l kk false 8).1 = za at *
              generalize (numR l kk false 8).2.1 = ka at *
              generalize (numR l kk false 8).2.2 = ba at *
              go_wp2_with fail
              with_reducible refine RA.mono ?_
              rintro e w4 ⟨rfl, hr⟩
              have Q4 := Lib.hid (ht.out.1.step hr)
              have NQ3 := Lib.hid ht.out.2.2.2
              have hs4 := Q4.out.2.2.2.size
              have OW := Q4.out.1
              rw [← NQ3.out] at OW
              have OWH := Lib.hid OW
              clear hr RA OW
              go_wp2_with (at_builtin; refine wpList_append_gen _ rfl _ _ _ _ rfl w3.heap.size 3 i1 _ 1 8 Try.underlying43 hi1 hw0 hw1 hw2 rfl _ q2 _ rfl (OWH.out.alloc _) _ 1 [.int .i64 za] rfl (lit_src Try.underlying43 _ 1 rfl (by decide) (by intro u hu; simp at hu; subst hu; rfl)) ?c1 ?c2 ?c3 ?_)
              case c1 => unfold maxLen; omega
              case c2 => omega
              case c3 => simp; omega
              intro v' w5 ho hk _
              rw [NQ3.out] at ho
              have Q5 := Lib.hid (Q4.out.push za _ ho hk)
              obtain ⟨A5, c5, hv'⟩ := Q5.out.form
              subst hv'
              rw [show (acc ++ [za]).length = q2 + 1 by rw [NQ3.out, List.length_append]; rfl] at *
              clear ho hk
              go_wp2
              go_roundw
              case rel => exact ⟨i, acc ++ [za], ka, ba, q2 + 1, A5, c5, by have := IJ.out; subst this; go_num, by have := IJ.out; omega, by have := IJ.out; omega, rfl, Lib.hid ⟨Q5.out, by rw [← ht.out.2.1, FR.out, List.append_assoc]; rfl, by rw [← ht.out.2.2.1, FR.out], by rw [NQ3.out, List.length_append]; rfl⟩⟩
              case measure => have := IJ.out; simp [intOf]; omega
      · have hgo : 0 < j ∧ bb = false := by have := HG.out; simp at this; exact this
        obtain ⟨h0, rfl⟩ := hgo
        obtain ⟨i, hij⟩ : ∃ i, j = i + 1 := ⟨j - 1, by omega⟩
        have IJ := Lib.hid hij
        clear hij HG
        have FR := Lib.hid (show faR l j kk false = _ from by rw [IJ.out, faR, if_neg (by decide)])
        have RA := rnum_any ht.out.1.2.1 8
        have RB := Lib.hid (fun W G (h : Rdr W p G l (numR l kk false 8).2.1 (numR l kk false 8).2.2) => rnum_any h 8)
        generalize (numR l kk false 8).1 = za at *
        generalize (numR l kk false 8).2.1 = ka at *
        generalize (numR l kk false 8).2.2 = ba at *
        generalize (numR l ka ba 8).1 = zb at *
        generalize (numR l ka ba 8).2.1 = kb at *
        generalize (numR l ka ba 8).2.2 = bb at *
        go_wp2_with fail
        with_reducible refine RA.mono ?_
        rintro e w3 ⟨rfl, hr⟩
        have Q3 := Lib.hid (ht.out.1.step hr)
        clear hr RA
        go_wp2_with fail
        have RC := RB.out _ _ Q3.out.2.1
        with_reducible refine RC.mono ?_
        rintro e w4 ⟨rfl, hr⟩
        have Q4 := Lib.hid (Q3.out.step hr)
        have NQ := Lib.hid ht.out.2.2.2
        have hs4 := Q4.out.2.2.2.size
        have OW := Q4.out.1
        rw [← NQ.out] at OW
        have OWH := Lib.hid OW
        clear hr RB RC Q3 OW
        go_wp2_with (at_builtin; refine wpList_append_gen _ rfl _ _ _ _ rfl w.heap.size 100 i0 _ 2 16 Try.underlying42 hi0 hz0 hz1 hz2 rfl _ q _ rfl (OWH.out.alloc _) _ 1 [.int .i64 za, .int .i64 zb] rfl (lit_src Try.underlying42 _ 2 rfl (by decide) (by intro u hu; simp at hu; rcases hu with rfl | rfl <;> rfl)) ?c1 ?c2 ?c3 ?_)
        case c1 => unfold maxLen; omega
        case c2 => omega
        case c3 => simp; omega
        intro v' w5 ho hk _
        rw [NQ.out] at ho
        have Q5 := Lib.hid (Q4.out.push ⟨za, zb⟩ _ ho hk)
        obtain ⟨A5, c5, hv'⟩ := Q5.out.form
        subst hv'
        rw [show (acc ++ [(⟨za, zb⟩ : Fa)]).length = q + 1 by rw [NQ.out, List.length_append]; rfl] at *
        clear ho hk
        go_wp2
        go_roundw
        case rel => exact ⟨i, acc ++ [⟨za, zb⟩], kb, bb, q + 1, A5, c5, by have := IJ.out; subst this; go_num, by have := IJ.out; omega, by have := IJ.out; omega, rfl, Lib.hid ⟨Q5.out, by rw [← ht.out.2.1, FR.out, List.append_assoc]; rfl, by rw [← ht.out.2.2.1, FR.out], by rw [NQ.out, List.length_append]; rfl⟩⟩
        case measure => have := IJ.out; simp [intOf]; omega
end Go.Proofs.Ythkgchlndfcmpaa

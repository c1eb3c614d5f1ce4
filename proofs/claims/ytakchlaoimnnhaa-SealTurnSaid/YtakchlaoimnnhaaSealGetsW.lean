/- The walk of vivariumlaw03.SealGets: it returns true, old memory unchanged. -/
import Derived.Test.YtakchlaoimnnhaaSealL
namespace Go.Proofs.Ytakchlaoimnnhaa
open Go.RowKit
set_option maxRecDepth 100000
set_option linter.unusedVariables false

/-- Two boxes in memory; old memory unchanged. -/
def Two (w W : World) (p q : Nat) (x y : SV) (u v : Value) : Prop := Bx W (fun b => w.heap.size ≤ b) p x u ∧ Bx W (fun b => w.heap.size ≤ b) q y v ∧ Keep (fun _ => False) w W
theorem Two.same {w W W' : World} {p q : Nat} {x y : SV} {u v : Value} (h : Two w W p q x y u v) (hk : Keep (fun _ => False) W W') : Two w W' p q x y u v := ⟨h.1.same hk, h.2.1.same hk, h.2.2.trans hk (fun _ _ h => h)⟩
set_option maxHeartbeats 4000000 in
theorem sealGets_walk (s : List UInt8) (v : Value) (F : Nat → Prop) (w : World) (hv : By w F v s) :
    Calls Try.prog 8 #[v] w fun e w' => e = .returned (.bool true) ∧ Below w.heap.size w w' := by
  have LIV := Lib.hid live03
  by_cases hbig : 600 < s.length
  · obtain ⟨A, c, rfl, -, hcm, -⟩ := hv
    generalize s.length = n at *
    go_enter Try.func8, Try.ntmps8
    go_wp2_with (go_at_call 30; refine (LIV.out _).mono ?_; rintro e w4 ⟨rfl, hb4⟩)
    go_ret
    exact ⟨rfl, hb4⟩
  have hs : s.length ≤ 600 := by omega
  clear hbig
  have SG := Lib.hid (sget_any s v F w hv (by omega))
  have RG := Lib.hid (fun W (h : Keep (fun _ => False) w W) => refGetS_any s v F W (hv.same h))
  have SE := Lib.hid (fun W (h : Keep (fun _ => False) w W) => sepochs_any s v F W (hv.same h))
  have RE := Lib.hid (fun W (h : Keep (fun _ => False) w W) => refEpochs_any s v F W (hv.same h))
  have ST := Lib.hid (fun W (h : Keep (fun _ => False) w W) => stop_any s v F W (hv.same h))
  have RT := Lib.hid (fun W (h : Keep (fun _ => False) w W) => refTop_any s v F W (hv.same h))
  have RS := Lib.hid (fun W a b Fa Fb (ha : By W Fa a (gotS s).bd) (hb : By W Fb b (gotS s).bd) => rsameS_any (gotS s) (gotS s) a b Fa Fb W ha hb)
  rw [sameS_self] at RS
  have PU := Lib.hid (show okS s = true → ∀ W a Fa, By W Fa a (gotS s).bd → Calls Try.prog 31 #[.agg #[.int .i64 (gotS s).ep, .int .i64 (gotS s).no, .int .i64 (gotS s).kd, a]] W (ByPost W s) from fun h W a Fa ha => by
    have := sput_any (gotS s) a Fa W ha
    have e : sealB (gotS s) = s := by unfold gotS; rw [if_pos h]; exact (okS_iff.1 h).2
    rwa [e] at this)
  have SM := Lib.hid (fun W a Fa (ha : By W Fa a s) (h : Keep (fun _ => False) w W) => same_any s s a v Fa F W ha (hv.same h))
  rw [decide_eq_true rfl] at SM
  obtain ⟨A, c, rfl, -, hcm, -⟩ := hv
  generalize gotS s = x at *
  generalize okS s = ok at *
  generalize epochZ s 0 = z0 at *
  generalize epochZ s 504 = z1 at *
  generalize topZ s = z2 at *
  generalize s.length = n at *
  have e0 : (z0 != z0) = false := by simp
  have e1 : (z1 != z1) = false := by simp
  have e2 : (z2 != z2) = false := by simp
  have e3 : (ok != ok) = false := by simp
  go_enter Try.func8, Try.ntmps8
  go_wp2_with fail
  refine SG.out.mono ?_
  rintro e w1 ⟨A1, n1, c1, rfl, hy1, hb1⟩
  have H1 := Lib.hid (And.intro hy1 (Keep.of_below' hb1))
  clear hy1 hb1
  go_wp2_with fail
  refine (RG.out _ (H1.out.2.alloc _)).mono ?_
  rintro e w2 ⟨A2, n2, c2, rfl, hy2, hb2⟩
  have H2 := Lib.hid (show Two w (w2.alloc (.cells #[.int .i64 x.ep, .int .i64 x.no, .int .i64 x.kd, .slice A2 n2 c2] 50)) w1.heap.size w2.heap.size x x (.slice A1 n1 c1) (.slice A2 n2 c2) from
    ⟨((Bx.new H1.out.1).same (Keep.of_below' hb2)).same ((Keep.refl _ w2).alloc _), Bx.new (hy2.mono (fun b _ h => by simp at h; have := H1.out.2.size; omega)), (K.to (H1.out.2.alloc _) hb2).alloc _⟩)
  clear hy2 hb2
  go_upto_region 5 with fail
  refine wp_world (S := fun W => Two w W w1.heap.size w2.heap.size x x (.slice A1 n1 c1) (.slice A2 n2 c2)) H2.out ?_
  intro W hW
  have HW := Lib.hid hW
  clear hW H2 H1
  generalize w1.heap.size = p at *
  generalize w2.heap.size = q at *
  go_wp2_with fail
  refine (SE.out _ HW.out.2.2).mono ?_
  rintro e w3 ⟨rfl, rfl⟩
  go_wp2_with fail
  refine (RE.out _ HW.out.2.2).mono ?_
  rintro e w3 ⟨rfl, rfl⟩
  obtain ⟨x0, x1, x2, x3⟩ := HW.out.1.cells
  obtain ⟨y0, y1, y2, y3⟩ := HW.out.2.1.cells
  go_wp2_with fail
  refine (RS.out _ _ _ _ _ HW.out.1.2 HW.out.2.1.2).mono ?_
  rintro e w3 ⟨rfl, hb3⟩
  have H3 := Lib.hid (HW.out.same (Keep.of_below' hb3))
  clear hb3 HW x0 x1 x2 x3 y0 y1 y2 y3
  go_wp2_with fail
  refine (ST.out _ H3.out.2.2).mono ?_
  rintro e w4 ⟨rfl, rfl⟩
  go_wp2_with fail
  refine (RT.out _ H3.out.2.2).mono ?_
  rintro e w4 ⟨rfl, rfl⟩
  obtain ⟨x0, x1, x2, x3⟩ := H3.out.1.cells
  cases ok
  · go_wp2_with fail
    refine (LIV.out _).mono ?_
    rintro e w4 ⟨rfl, hb4⟩
    go_wp2
    go_ret
    exact ⟨rfl, H3.out.2.2.to_below'.trans (hb4.mono H3.out.2.2.size)⟩
  · go_wp2_with fail
    refine (PU.out trivial _ _ _ H3.out.1.2).mono ?_
    rintro e w4 ⟨A4, n4, c4, rfl, hy4, hb4⟩
    have H4 := Lib.hid (And.intro hy4 (K.to H3.out.2.2 hb4))
    clear hy4 hb4 x0 x1 x2 x3
    go_wp2_with fail
    refine (SM.out _ _ _ H4.out.1 H4.out.2).mono ?_
    rintro e w5 ⟨rfl, rfl⟩
    go_wp2_with fail
    refine (LIV.out _).mono ?_
    rintro e w5 ⟨rfl, hb5⟩
    go_wp2
    go_ret
    exact ⟨rfl, H4.out.2.to_below'.trans (hb5.mono H4.out.2.size)⟩
end Go.Proofs.Ytakchlaoimnnhaa

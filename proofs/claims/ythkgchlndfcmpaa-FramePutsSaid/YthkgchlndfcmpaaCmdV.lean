/- Contract of cmd.Get. -/
import Derived.Test.YthkgchlndfcmpaaCmdU
import Derived.RegionTactic
namespace Go.Proofs.Ythkgchlndfcmpaa
open Go.RowKit
set_option maxRecDepth 100000
set_option linter.unusedVariables false

def zeroC : Cmd := ⟨0, false, 0, 0, 0, []⟩
def rs0 : RS := ⟨0, false, 0⟩
/-- What cmd.Get answers: the command, the next place, the error. -/
def getP (b : List UInt8) (at_ : Int) : Cmd × Int × Int :=
  if at_ < 0 ∨ (b.length : Int) < at_ then (zeroC, 0, 2)
  else if (cmdS (b.drop at_.toNat) rs0).2.e ≠ 0 then (zeroC, 0, (cmdS (b.drop at_.toNat) rs0).2.e)
  else ((cmdS (b.drop at_.toNat) rs0).1, (b.length : Int) - (((b.drop at_.toNat).length : Int) - (cmdS (b.drop at_.toNat) rs0).2.k), 0)
def GetPost (W : World) (r : Cmd × Int × Int) (e : Ending) (w' : World) : Prop :=
  ∃ A n c, e = .returned (.tuple #[cmdV r.1 (.slice A n c), .int .i64 r.2.1, .int .i64 r.2.2]) ∧ By w' (fun b => W.heap.size ≤ b) (.slice A n c) r.1.l ∧ Below W.heap.size W w'
theorem results_cmd3 {fn : Func} {p u v : Tmp} (h : fn.results = #[.cell p 39, .tmp u, .tmp v]) (tmps : Array Value) (w : World) (g : Nat) (c0 c1 c2 c3 c4 c5 : Value)
    (hp : tmps.getD p undef = .pointer (some ⟨g, 0, none⟩)) (hg : w.heap[g]? = some (.cells #[c0, c1, c2, c3, c4, c5] 39 (0, 0))) (a b : Value) (ha : tmps.getD u undef = a) (hb : tmps.getD v undef = b) :
    (results fn tmps).run Try.prog w = .ok (.tuple #[.agg #[c0, c1, c2, c3, c4, c5], a, b]) w := by
  have hr := run_loadVar_row (P := Try.prog) w g 39 39 _ (0, 0) _ hg under_cmd rfl size_cmd
  have hp' : tmps[p]?.getD undef = .pointer (some ⟨g, 0, none⟩) := by simpa using hp
  have ha' : tmps[u]?.getD undef = a := by simpa using ha
  have hb' : tmps[v]?.getD undef = b := by simpa using hb
  simp [results, h, hp', ha', hb', asAddr, hr]
theorem By.zero (W : World) (F : Nat → Prop) (A : Option Addr) : By W F (.slice A 0 0) [] := ⟨A, 0, rfl, Nat.le_refl _, Nat.zero_le _, fun _ => rfl, (Rd.nil W F A : Rd W F A 0 [])⟩
set_option maxHeartbeats 4000000 in
theorem cget_any (b : List UInt8) (v : Value) (F : Nat → Prop) (at_ : Int) (w : World) (hv : By w F v b) (hn : b.length ≤ 1099511627776) (hlo : -9223372036854775808 ≤ at_) (hhi : at_ ≤ 9223372036854775807) :
    Calls Try.prog 125 #[v, .int .i64 at_] w (GetPost w (getP b at_)) := by
  by_cases hat : at_ < 0 ∨ (b.length : Int) < at_
  · have E := Lib.hid (show getP b at_ = (zeroC, 0, 2) by unfold getP; rw [if_pos hat])
    obtain ⟨A, c, rfl, -⟩ := hv
    rw [E.out]
    generalize b.length = n at *
    by_cases h0 : at_ < 0
    · clear hat
      go_enter Try.func125, Try.ntmps125
      go_wp2
      exact bodyPost_ret (results_cmd3 rfl _ _ w.heap.size _ _ _ _ _ _ rfl (heap_alloc_new w _) _ _ rfl rfl) rfl ⟨none, 0, 0, rfl, By.nil _ _, by exact (by repeat first | exact Below.refl _ _ | refine Below.setCell ?_ (by first | omega | (simp; done) | (simp; omega)) _ | refine Below.alloc ?_ (by first | omega | (simp; done) | (simp; omega)) _ | refine Below.drew ?_ | refine below_drewN ?_ _ | assumption)⟩
    · have h1 : (n : Int) < at_ := hat.resolve_left h0
      clear hat
      go_enter Try.func125, Try.ntmps125
      go_wp2
      exact bodyPost_ret (results_cmd3 rfl _ _ w.heap.size _ _ _ _ _ _ rfl (heap_alloc_new w _) _ _ rfl rfl) rfl ⟨none, 0, 0, rfl, By.nil _ _, by exact (by repeat first | exact Below.refl _ _ | refine Below.setCell ?_ (by first | omega | (simp; done) | (simp; omega)) _ | refine Below.alloc ?_ (by first | omega | (simp; done) | (simp; omega)) _ | refine Below.drew ?_ | refine below_drewN ?_ _ | assumption)⟩
  obtain ⟨a, rfl⟩ := Int.eq_ofNat_of_zero_le (show 0 ≤ at_ by omega)
  have ha : a ≤ b.length := by omega
  obtain ⟨A, c, rfl, hbc, hcm, hnil, -⟩ := id hv
  obtain ⟨rest, hrest⟩ : ∃ rest, rest = b.drop a := ⟨_, rfl⟩
  have hrl : rest.length = b.length - a := by rw [hrest, List.length_drop]
  obtain ⟨q, hq⟩ : ∃ q, q = cmdS rest rs0 := ⟨_, rfl⟩
  have EE := Lib.hid (show q.2.e ≠ 0 → getP b a = (zeroC, 0, q.2.e) from fun h => by unfold getP; rw [if_neg hat, Int.toNat_natCast, ← hrest, ← hq, if_pos h])
  have EO := Lib.hid (show q.2.e = 0 → getP b a = (q.1, (b.length : Int) - ((rest.length : Int) - q.2.k), 0) from fun h => by unfold getP; rw [if_neg hat, Int.toNat_natCast, ← hrest, ← hq, if_neg (fun h2 => h2 h)])
  obtain ⟨A', hA'⟩ : ∃ A' : Option Addr, A' = if c = a then A else A.map (fun x => x.add a) := ⟨_, rfl⟩
  have RB := Lib.hid (show ∀ W, Keep (fun _ => False) w W → By W F (.slice A' (b.length - a) (c - a)) rest from fun W hk => by
    by_cases hc : c = a
    · have hz : rest = [] := by rw [hrest]; exact List.drop_eq_nil_of_le (by omega)
      rw [hA', if_pos hc, hz, show b.length - a = 0 by omega, show c - a = 0 by omega]
      exact By.zero W F A
    · have := (hv.keep hk (fun _ _ _ h => h)).piece (A' := A') (lo := a) (m := b.length - a) (c' := c - a) (by omega) (fun _ x hx => by rw [hA', if_neg hc, hx]; rfl) (by omega) (by omega) (fun hh => by
        rw [hA', if_neg hc] at hh
        rcases A with _ | x
        · have := hnil rfl; omega
        · cases hh)
      rw [hrest]
      rwa [List.take_of_length_le (by rw [List.length_drop]; omega)] at this)
  have RD := Lib.hid (fun W (hk : Keep (fun _ => False) w W) => read_any rest _ F W (RB.out W hk) (by omega))
  have GP := Lib.hid (show ∀ r, GetPost w r = GetPost w r from fun _ => rfl)
  have f0 : (0 : Int) ≤ (a : Int) := by omega
  have f1 : (a : Int) ≤ (b.length : Int) := by omega
  have HQ := Lib.hid hq
  have hrl2 : (rest.length : Int) = (b.length : Int) - a := by omega
  have HRL := Lib.hid hrl2
  clear hv hrest hrl hq hrl2 hnil hat
  generalize getP b (a : Int) = res at *
  generalize b.length = n at *
  have f2 : (a : Int) ≤ (c : Int) := by omega
  have hac : a ≤ c := by omega
  obtain ⟨y, s⟩ := q
  by_cases hc : c = a
  case' pos => rw [if_pos hc] at hA'; subst hA'; rw [show c - a = 0 by omega] at RD RB
  case' neg => rw [if_neg hc] at hA'; subst hA'
  all_goals
    go_enter Try.func125, Try.ntmps125
    go_wp2_with fail
    refine (RD.out _ (by exact (by repeat first | exact Keep.refl _ _ | refine Keep.alloc ?_ _ | refine Keep.drew ?_ | refine Keep.drewN ?_ _))).mono ?_
    rintro e w1 ⟨rp, rfl, hr, hrp, hb⟩
    have C1 := Lib.hid (show CRd (w1.alloc (.cells #[.pointer (some ⟨rp, 0, none⟩), .int .i64 0] 161)) w1.heap.size rp (fun x => w.heap.size < x ∧ x ≠ rp ∧ x < w1.heap.size) rest rs0 ∧ (w1.alloc (.cells #[.pointer (some ⟨rp, 0, none⟩), .int .i64 0] 161)).heap[w.heap.size]? = some (.cells #[.int .i64 0, .bool false, .int .i64 0, .int .i64 0, .int .i64 0, .slice none 0 0] 39 (0, 0)) ∧ Below w.heap.size w (w1.alloc (.cells #[.pointer (some ⟨rp, 0, none⟩), .int .i64 0] 161)) from
      have hsz := hb.size
      have hz : w.heap.size < w1.heap.size := by simp at hsz; omega
      have hrp2 : rp < w1.heap.size := by obtain ⟨vs, hh, _⟩ := hr; exact (Array.getElem?_eq_some_iff.1 hh).1
      have hrd : Rdr w1 rp (fun x => w.heap.size < x ∧ x ≠ rp ∧ x < w1.heap.size) rest 0 false := rdr_mono2 hr (fun x hx hh => ⟨by have := hh.1; simp at this; omega, hh.2, hx⟩) (by omega)
      ⟨⟨heap_alloc_new w1 _, rdr_keep hrd ((Keep.refl (fun _ => False) w1).alloc _) (fun h => h) (fun _ _ _ h => h), by omega, by omega⟩, (heap_alloc_old w1 _ hz).trans ((hb.block w.heap.size (by simp)).trans (heap_alloc_new w _)), (((Below.refl _ w).alloc (Nat.le_refl _) _).trans (hb.mono (by simp))).alloc (by omega) _⟩)
    have PZ := Lib.hid (show w.heap.size < w1.heap.size ∧ w.heap.size < rp by have := hb.size; simp at this hrp; omega)
    clear hr hrp hb RD
    have CM := Lib.hid (ccmd_any C1.out.1)
    rw [← HQ.out] at CM
    generalize hP : w1.heap.size = P at *
    go_wp2_with fail
    refine CM.out.mono ?_
    rintro e w2 ⟨A2, n2, c2, rfl, hy2, hc2⟩
    unfold cmdV
    have hr2 := (hc2.2.block w.heap.size (Array.getElem?_eq_some_iff.1 C1.out.2.1).1 (by have := PZ.out; omega)).trans C1.out.2.1
    obtain ⟨r0, r1, r2, r3, r4, r5, rf⟩ := cells6 hr2
    have K6 := keepS6 w2 w.heap.size (.int .i64 y.do_) (.bool y.loc) (.int .i64 y.idx) (.int .i64 y.gen) (.int .i64 y.comp) (.slice A2 n2 c2)
    have H2 := Lib.hid (show CRd (((((((w2.setCell ⟨w.heap.size, 0, none⟩ (.int .i64 y.do_)).setCell ⟨w.heap.size, 1, none⟩ (.bool y.loc)).setCell ⟨w.heap.size, 2, none⟩ (.int .i64 y.idx)).setCell ⟨w.heap.size, 3, none⟩ (.int .i64 y.gen)).setCell ⟨w.heap.size, 4, none⟩ (.int .i64 y.comp)).setCell ⟨w.heap.size, 5, none⟩ (.slice A2 n2 c2))) P rp (fun x => w.heap.size < x ∧ x ≠ rp ∧ x < P) rest s ∧ (((((((w2.setCell ⟨w.heap.size, 0, none⟩ (.int .i64 y.do_)).setCell ⟨w.heap.size, 1, none⟩ (.bool y.loc)).setCell ⟨w.heap.size, 2, none⟩ (.int .i64 y.idx)).setCell ⟨w.heap.size, 3, none⟩ (.int .i64 y.gen)).setCell ⟨w.heap.size, 4, none⟩ (.int .i64 y.comp)).setCell ⟨w.heap.size, 5, none⟩ (.slice A2 n2 c2))).heap[w.heap.size]? = some (.cells #[.int .i64 y.do_, .bool y.loc, .int .i64 y.idx, .int .i64 y.gen, .int .i64 y.comp, .slice A2 n2 c2] 39 (0, 0)) ∧ By (((((((w2.setCell ⟨w.heap.size, 0, none⟩ (.int .i64 y.do_)).setCell ⟨w.heap.size, 1, none⟩ (.bool y.loc)).setCell ⟨w.heap.size, 2, none⟩ (.int .i64 y.idx)).setCell ⟨w.heap.size, 3, none⟩ (.int .i64 y.gen)).setCell ⟨w.heap.size, 4, none⟩ (.int .i64 y.comp)).setCell ⟨w.heap.size, 5, none⟩ (.slice A2 n2 c2))) (fun x => w.heap.size < x) (.slice A2 n2 c2) y.l ∧ Below w.heap.size w (((((((w2.setCell ⟨w.heap.size, 0, none⟩ (.int .i64 y.do_)).setCell ⟨w.heap.size, 1, none⟩ (.bool y.loc)).setCell ⟨w.heap.size, 2, none⟩ (.int .i64 y.idx)).setCell ⟨w.heap.size, 3, none⟩ (.int .i64 y.gen)).setCell ⟨w.heap.size, 4, none⟩ (.int .i64 y.comp)).setCell ⟨w.heap.size, 5, none⟩ (.slice A2 n2 c2))) from
      have pz := PZ.out
      ⟨⟨(K6.block P (Array.getElem?_eq_some_iff.1 hc2.1.1).1 (by omega)).trans hc2.1.1, rdr_keep hc2.1.2.1 K6 (by omega) (fun x _ h e => by omega), hc2.1.2.2.1, hc2.1.2.2.2⟩, stored6 hr2 _ _ _ _ _ _,
        (hy2.mono (G := fun x => w.heap.size < x) (fun x _ h => by simp [hP] at h; omega)).keep K6 (fun x _ h e => by omega), (((Keep.of_below C1.out.2.2).trans hc2.2 (fun x _ e => by omega)).trans K6 (fun x _ e => by omega)).to_below (Nat.le_refl _)⟩)
    clear K6 hy2 hc2 hr2
    go_upto_region 5 with fail
    refine wp_world (S := fun X => CRd X P rp (fun x => w.heap.size < x ∧ x ≠ rp ∧ x < P) rest s ∧ X.heap[w.heap.size]? = some (.cells #[.int .i64 y.do_, .bool y.loc, .int .i64 y.idx, .int .i64 y.gen, .int .i64 y.comp, .slice A2 n2 c2] 39 (0, 0)) ∧ By X (fun x => w.heap.size < x) (.slice A2 n2 c2) y.l ∧ Below w.heap.size w X) H2.out ?_
    clear H2 r0 r1 r2 r3 r4 r5 rf CM C1
    intro X hX
    have HX := Lib.hid hX
    clear hX
    obtain ⟨c0, c1, cf⟩ := cells2 HX.out.1.1
    obtain ⟨r0, r1, r2, r3, r4, r5, rf⟩ := cells6 HX.out.2.1
    have pz := PZ.out.1
    have cPr : P ≠ w.heap.size := by omega
    have cPr2 : w.heap.size ≠ P := by omega
    clear pz
    by_cases he : s.e = 0
    · have e1 : (s.e != 0) = false := by simp [he]
      have EOh := EO.out he
      have LF := Lib.hid (fun W' (hk : Keep (fun x => x = w.heap.size) X W') => rleft_any (rdr_keep HX.out.1.2.1 hk (by have := PZ.out; omega) (fun x _ h e => by omega)))
      have hkl : s.k ≤ rest.length := by obtain ⟨_, _, _, _, h, _⟩ := HX.out.1.2.1; exact h
      have hrl := HRL.out
      clear e1
      clear EO EE
      generalize s.k = sk at *
      generalize rest.length = rl at *
      have ew : IntKind.i64.wrap ((n : Int) - ((rl : Int) - sk)) = (n : Int) - ((rl : Int) - sk) := IntWalk.i64_in _ (by omega)
      have EH := Lib.hid EOh
      clear EOh hrl
      have hr7 := Lib.hid (show ∀ W', Keep (fun x => x = w.heap.size) X W' → W'.heap[w.heap.size]? = some (.cells #[.int .i64 y.do_, .bool y.loc, .int .i64 y.idx, .int .i64 y.gen, .int .i64 y.comp, .slice A2 n2 c2] 39 (0, 0)) → (W'.cell? ⟨w.heap.size, 0, none⟩ = some (.int .i64 y.do_) ∧ W'.cell? ⟨w.heap.size, 1, none⟩ = some (.bool y.loc) ∧ W'.cell? ⟨w.heap.size, 2, none⟩ = some (.int .i64 y.idx) ∧ W'.cell? ⟨w.heap.size, 3, none⟩ = some (.int .i64 y.gen) ∧ W'.cell? ⟨w.heap.size, 4, none⟩ = some (.int .i64 y.comp) ∧ W'.cell? ⟨w.heap.size, 5, none⟩ = some (.slice A2 n2 c2) ∧ W'.cell? ⟨P, 0, none⟩ = some (.pointer (some ⟨rp, 0, none⟩)) ∧ Keep (fun x => x = w.heap.size) X W') from fun W' hk hh => ⟨(cells6 hh).1, (cells6 hh).2.1, (cells6 hh).2.2.1, (cells6 hh).2.2.2.1, (cells6 hh).2.2.2.2.1, (cells6 hh).2.2.2.2.2.1, hk.cell cPr c0, hk⟩)
      go_upto_region 7 with fail
      go_region_held3 (fun W' => W'.cell? ⟨w.heap.size, 0, none⟩ = some (.int .i64 y.do_) ∧ W'.cell? ⟨w.heap.size, 1, none⟩ = some (.bool y.loc) ∧ W'.cell? ⟨w.heap.size, 2, none⟩ = some (.int .i64 y.idx) ∧ W'.cell? ⟨w.heap.size, 3, none⟩ = some (.int .i64 y.gen) ∧ W'.cell? ⟨w.heap.size, 4, none⟩ = some (.int .i64 y.comp) ∧ W'.cell? ⟨w.heap.size, 5, none⟩ = some (.slice A2 n2 c2) ∧ W'.cell? ⟨P, 0, none⟩ = some (.pointer (some ⟨rp, 0, none⟩)) ∧ Keep (fun x => x = w.heap.size) X W') ((refine hr7.out _ ?_ ?_; (focus (repeat (with_reducible refine Keep.drew ?_)); first | (with_reducible exact Keep.refl _ _) | (with_reducible exact keepS6 _ _ _ _ _ _ _ _)); (focus (try simp only [heap_drew']); first | (with_reducible exact HX.out.2.1) | (with_reducible exact stored6 HX.out.2.1 _ _ _ _ _ _))))
        (first
          | (go_at_call 90; (with_reducible refine (LF.out _ (by repeat first | exact Keep.refl _ _ | refine Keep.drew ?_)).mono ?_); rintro e w7 ⟨rfl, rfl⟩)
          | fail)
      go_wp2
      have KK := keepS6 X w.heap.size (.int .i64 y.do_) (.bool y.loc) (.int .i64 y.idx) (.int .i64 y.gen) (.int .i64 y.comp) (.slice A2 n2 c2)
      have HS := stored6 HX.out.2.1 (.int .i64 y.do_) (.bool y.loc) (.int .i64 y.idx) (.int .i64 y.gen) (.int .i64 y.comp) (.slice A2 n2 c2)
      generalize ((((((X.setCell ⟨w.heap.size, 0, none⟩ (.int .i64 y.do_)).setCell ⟨w.heap.size, 1, none⟩ (.bool y.loc)).setCell ⟨w.heap.size, 2, none⟩ (.int .i64 y.idx)).setCell ⟨w.heap.size, 3, none⟩ (.int .i64 y.gen)).setCell ⟨w.heap.size, 4, none⟩ (.int .i64 y.comp)).setCell ⟨w.heap.size, 5, none⟩ (.slice A2 n2 c2)) = W7 at KK HS ⊢
      refine bodyPost_ret (results_cmd3 rfl _ _ w.heap.size _ _ _ _ _ _ rfl (show W7.drew.drew.heap[w.heap.size]? = _ from HS) _ _ rfl rfl) rfl ?_
      rw [EH.out]
      exact ⟨A2, n2, c2, rfl, (HX.out.2.2.1.keep KK.drew.drew (fun x _ h e => by omega)).mono (fun x _ h => by omega), ((Keep.of_below HX.out.2.2.2).trans KK.drew.drew (fun x _ e => by omega)).to_below (Nat.le_refl _)⟩
    · have e1 : (s.e != 0) = true := by simp [he]
      have EH := Lib.hid (EE.out he)
      clear he EO EE
      go_upto_region 6 with fail
      go_region
      go_wp2
      have KK := keepS6 X w.heap.size (.int .i64 0) (.bool false) (.int .i64 0) (.int .i64 0) (.int .i64 0) (.slice none 0 0)
      have HS := stored6 HX.out.2.1 (.int .i64 0) (.bool false) (.int .i64 0) (.int .i64 0) (.int .i64 0) (.slice none 0 0)
      generalize ((((((X.setCell ⟨w.heap.size, 0, none⟩ (.int .i64 0)).setCell ⟨w.heap.size, 1, none⟩ (.bool false)).setCell ⟨w.heap.size, 2, none⟩ (.int .i64 0)).setCell ⟨w.heap.size, 3, none⟩ (.int .i64 0)).setCell ⟨w.heap.size, 4, none⟩ (.int .i64 0)).setCell ⟨w.heap.size, 5, none⟩ (.slice none 0 0)) = W7 at KK HS ⊢
      refine bodyPost_ret (results_cmd3 rfl _ _ w.heap.size _ _ _ _ _ _ rfl (show W7.drew.heap[w.heap.size]? = _ from HS) _ _ rfl rfl) rfl ?_
      rw [EH.out]
      exact ⟨none, 0, 0, rfl, By.nil _ _, ((Keep.of_below HX.out.2.2.2).trans KK.drew (fun x _ e => by omega)).to_below (Nat.le_refl _)⟩
end Go.Proofs.Ythkgchlndfcmpaa

/- Contract of vivariumref11.Despawn. -/
import Derived.Test.YtglliendhbkkhaaGreatDoorRf8
namespace Go.Proofs.YtglliendhbkkhaaGreatDoor
open Go.RowKit
set_option maxRecDepth 100000
set_option linter.unusedVariables false
set_option linter.unusedSimpArgs false

theorem keep_size2 {X W W' : World} (h : Keep (fun _ => False) W W') (hk : Keep (fun _ => False) X W) : X.heap.size ≤ W.heap.size := hk.size
def AlI (W : World) (p : Nat) : Prop := W.heap[p]? = some (.cells #[.int .i64 0, .int .i64 0, .slice none 0 0, .slice none 0 0] 93 (0, 0))
theorem AlI.new (W : World) : AlI (W.alloc (.cells #[.int .i64 0, .int .i64 0, .slice none 0 0, .slice none 0 0] 93 (0, 0))) W.heap.size := heap_alloc_new W _
theorem AlI.lt {W : World} {p : Nat} (h : AlI W p) : p < W.heap.size := (Array.getElem?_eq_some_iff.1 h).1
theorem AlI.drew {W : World} {p : Nat} (h : AlI W p) : AlI W.drew p := h
theorem AlI.keep {W W' : World} {p : Nat} (h : AlI W p) (hk : Keep (fun _ => False) W W') : AlI W' p ∧ p < W.heap.size := ⟨(hk.block _ h.lt (fun h => h)).trans h, h.lt⟩
/-- Names that were told, in a box of their own. -/
def DsCut (w X : World) (F : Nat → Prop) (ents lim : Int) (G2 Fr : List Int) (xp : Nat) (A : Option Addr) (ca : Nat) (B : Option Addr) (cb : Nat) (wx : World) : Prop :=
  wx.heap[xp]? = some (.cells #[.int .i64 ents, .int .i64 lim, .slice A G2.length ca, .slice B Fr.length cb] 93 (0, 0)) ∧ Sl wx (fun b => FL F w b ∨ X.heap.size ≤ b) 1 (.slice A G2.length ca) G2.length (iv G2) ∧ Sl wx (fun b => FL F w b ∨ X.heap.size ≤ b) 1 (.slice B Fr.length cb) Fr.length (iv Fr) ∧ Keep (fun _ => False) X wx ∧ X.heap.size ≤ xp
section
variable {w X w5 : World} {F : Nat → Prop} {ents lim : Int} {G2 Fr : List Int} {xp : Nat} {A B : Option Addr} {ca cb n : Nat}
theorem DsCut.mk1 (hX : X.heap.size ≤ n) (hw : w.heap.size ≤ X.heap.size) (hk : Keep (fun _ => False) X w5) (hn : X.heap.size ≤ w5.heap.size) (h1 : Sl w5 (fun b => n ≤ b) 1 (.slice A G2.length ca) G2.length (iv G2)) (h2 : Sl w5 (fun b => FL F w b ∨ n ≤ b) 1 (.slice B Fr.length cb) Fr.length (iv Fr)) :
    DsCut w X F ents lim G2 Fr w5.heap.size A ca B cb (w5.alloc (.cells #[.int .i64 ents, .int .i64 lim, .slice A G2.length ca, .slice B Fr.length cb] 93 (0, 0))) := by
  have ka := (Keep.refl (fun _ => False) w5).alloc (.cells #[.int .i64 ents, .int .i64 lim, .slice A G2.length ca, .slice B Fr.length cb] 93 (0, 0))
  exact ⟨heap_alloc_new w5 _, (h1.keep ka (fun _ _ _ h => h)).mono (fun b _ h => .inr (Nat.le_trans hX h)), (h2.keep ka (fun _ _ _ h => h)).mono (fun b _ h => h.imp_right (fun h => Nat.le_trans hX h)), hk.trans ka (fun _ _ h => h), hn⟩
theorem DsCut.mk2 (hX : X.heap.size ≤ xp) (hxn : xp < n) (hw : w.heap.size ≤ X.heap.size) (hk : Keep (fun _ => False) X w5) (al : AlI w5 xp) (h1 : Sl w5 (fun b => n ≤ b) 1 (.slice A G2.length ca) G2.length (iv G2)) (h2 : Sl w5 (fun b => FL F w b ∨ n ≤ b) 1 (.slice B Fr.length cb) Fr.length (iv Fr)) :
    DsCut w X F ents lim G2 Fr xp A ca B cb ((((w5.setCell ⟨xp, 0, none⟩ (.int .i64 ents)).setCell ⟨xp, 1, none⟩ (.int .i64 lim)).setCell ⟨xp, 2, none⟩ (.slice A G2.length ca)).setCell ⟨xp, 3, none⟩ (.slice B Fr.length cb)) := by
  have ka := keep4 w5 xp (.int .i64 ents) (.int .i64 lim) (.slice A G2.length ca) (.slice B Fr.length cb)
  refine ⟨heap_4J al _ _ _ _, (h1.keep ka (fun b _ h e => by have : b = xp := e; have : n ≤ b := h; omega)).mono (fun b _ h => .inr (by have : n ≤ b := h; omega)), (h2.keep ka (fun b _ h e => by
    have e' : b = xp := e
    rcases h with h | h
    · have := h.2; omega
    · omega)).mono (fun b _ h => h.imp_right (fun h => by omega)), hk.trans ka (fun b hb h => by have : b = xp := h; omega), hX⟩
theorem DsCut.drew {wx : World} (h : DsCut w X F ents lim G2 Fr xp A ca B cb wx) : DsCut w X F ents lim G2 Fr xp A ca B cb wx.drew :=
  ⟨by rw [heap_drew']; exact h.1, h.2.1.keep (S := fun _ => False) ((Keep.refl _ _).drew) (fun _ _ _ h => h), h.2.2.1.keep (S := fun _ => False) ((Keep.refl _ _).drew) (fun _ _ _ h => h), h.2.2.2.1.drew, h.2.2.2.2⟩
end
theorem StM.of3 {w X W : World} {F : Nat → Prop} {p : Nat} {x y z : Value} {g f : List Int} {e : List EnZ} (h1 : Sl W (fun b => FL F w b ∨ X.heap.size ≤ b) 1 x g.length (iv g)) (h2 : Sl W (fun b => FL F w b ∨ X.heap.size ≤ b) 1 y f.length (iv f)) (h3 : NS entN W (fun b => FL F w b ∨ X.heap.size ≤ b) z e) (hp : w.heap.size ≤ p) (hX : p < X.heap.size) : StM W (SN F w p) (.agg #[x, y, z]) ⟨g, f, e⟩ := by
  have mv : ∀ b, FL F w b ∨ X.heap.size ≤ b → SN F w p b := fun b h => h.elim (fun h => h.sn hp) (fun h => ⟨.inr (by omega), by omega⟩)
  exact ⟨x, y, z, rfl, h1.mono (fun b _ h => mv b h), h2.mono (fun b _ h => mv b h), h3.mono (fun b _ h => mv b h)⟩
/-- What is known of one that stands: its name is one of those alive. -/
def AlvOk (lim : Int) (s : SZ) (x : IdZ) : Prop := ∀ p, placeR s x = some p → ∃ i : Nat, x.ix = (i : Int) ∧ i < s.gens.length ∧ x.gen = s.gens.getD i 0 ∧ ¬ (i : Int) ∈ s.free ∧ 0 ≤ s.gens.getD i 0 ∧ s.gens.getD i 0 < lim
set_option maxHeartbeats 3000000 in
theorem r11_despawn (c : Cf) (uc : Value) (G : Nat → Prop) (s : SZ) (x : IdZ) (u : Value) (F : Nat → Prop) (w : World) (hc : CL w G uc c.l) (hu : StM w F u s) (h24 : s.ents.length ≤ 1024) (hok : AlvOk c.gens s x) (hlim : c.gens ≤ 1099511627776) (hgl : s.gens.length ≤ 1000000) (hfl : s.free.length ≤ 1000000) :
    Calls Tryz.prog 59 #[confV c uc, u, .agg #[.int .i64 x.ix, .int .i64 x.gen]] w fun e w' => ∃ u', e = .returned (.tuple #[u', .int .i64 (despawnR c.gens s x).2]) ∧ StM w' (SF F w) u' (despawnR c.gens s x).1 ∧ Keep (fun _ => False) w w' := by
  have PL := Lib.hid (fun X (hk : Keep (fun _ => False) w X) => r11_placeI s x u F X (hu.same hk))
  obtain ⟨Au, cu, rfl, -⟩ := hc
  obtain ⟨A1, c1, A2, c2, A3, c3, rfl, h1, h2, h3, h4, h5, h6, g1, g2, g3⟩ := hu.form
  have HU := Lib.hid hu
  have HE := Lib.hid (show NS entN w (FL F w) (.slice A3 s.ents.length c3) s.ents from g3.mono (fun b hb h => ⟨h, hb⟩))
  have NM := Lib.hid (fun X => r11_names c Au A1 A2 A3 c.l.length cu s.gens.length c1 s.free.length c2 s.ents.length c3 X)
  obtain ⟨R, hR⟩ : ∃ R, despawnR c.gens s x = R := ⟨_, rfl⟩
  rw [hR]
  have G0 := Lib.hid (show placeR s x = none → R = (s, 5) from fun h => by rw [← hR]; unfold despawnR; rw [h])
  have GV := Lib.hid (show ∀ p, placeR s x = some p → ∃ G2 Fr, R = (⟨G2, Fr, s.ents.eraseIdx p⟩, 0) ∧ ∀ X, Keep (fun _ => False) w X → Calls Tryz.prog 110 #[inV c.ents c.gens (.slice A1 s.gens.length c1) (.slice A2 s.free.length c2), .agg #[.int .i64 x.ix, .int .i64 x.gen]] X fun e w' => ∃ A ca B cb, e = .returned (.tuple #[inV c.ents c.gens (.slice A G2.length ca) (.slice B Fr.length cb), .int .i64 0]) ∧ Sl w' (fun b => X.heap.size ≤ b) 1 (.slice A G2.length ca) G2.length (iv G2) ∧ Sl w' (fun b => FL F w b ∨ X.heap.size ≤ b) 1 (.slice B Fr.length cb) Fr.length (iv Fr) ∧ Keep (fun _ => False) X w' from fun p hp => by
    obtain ⟨i, e1, e2, e3, e4, e5, e6⟩ := hok p hp
    refine ⟨s.gens.set i (s.gens.getD i 0 + 1), if s.gens.getD i 0 + 1 < c.gens then s.free ++ [(i : Int)] else s.free, ?_, fun X hk => ?_⟩
    · rw [← hR]
      unfold despawnR
      rw [hp, e1, e3, Int.toNat_natCast]
    · rw [e1, e3]
      refine (r6_give c.ents c.gens s.gens s.free _ _ (FL F w) i X ((g1.mono (G := FL F w) (fun b hb h => ⟨h, hb⟩)).keep hk (fun _ _ _ h => h)) ((g2.mono (G := FL F w) (fun b hb h => ⟨h, hb⟩)).keep hk (fun _ _ _ h => h)) e2 e4 e6 e5 hlim hgl hfl).mono ?_
      rintro e w' ⟨A, ca, B, cb, rfl, f1, f2, f3⟩
      refine ⟨A, ca, B, cb, ?_, ?_, f2.mono (fun b _ h => h.imp_left (fun h => h.1)), f3⟩
      · rw [List.length_set]
      · rw [List.length_set]; exact f1)
  unfold inV at GV NM
  unfold maxLen at *
  unfold confV at *
  obtain ⟨pi, hpi⟩ : ∃ pi, placeI s x = pi := ⟨_, rfl⟩
  have P0 := Lib.hid (show placeR s x = none → pi = -1 from fun h => hpi.symm.trans (placeI_none h))
  have P1 := Lib.hid (show ∀ p, placeR s x = some p → pi = (p : Int) ∧ p < s.ents.length from fun p h => by
    have := placeI_some h
    rw [hpi] at this; exact ⟨this.1, this.2.1⟩)
  rw [hpi] at PL
  generalize c.l.length = nl at *
  obtain ⟨n, hn⟩ : ∃ n, s.ents.length = n := ⟨_, rfl⟩
  have HN := Lib.hid hn
  rw [hn] at HE P1 PL h5 HU h24 NM ⊢
  clear hn hR hpi hu g1 g2 g3 h1 h2 h3 h4 hok hlim hgl hfl
  generalize s.gens.length = n1 at *
  generalize s.free.length = n2 at *
  go_enter Tryz.func59, Tryz.ntmps59
  go_upto_region 1 with fail
  refine wp_world (S := fun X => X.heap[w.heap.size]? = some (.cells #[.int .i64 c.log, .int .i64 c.pages, .int .i64 c.ents, .int .i64 c.gens, .slice Au nl cu] 24 (0, 0)) ∧ X.heap[w.heap.size + 1]? = some (.cells #[.slice A1 n1 c1, .slice A2 n2 c2, .slice A3 n c3] 28 (0, 0)) ∧ X.heap[w.heap.size + 1 + 1]? = some (.cells #[.int .i64 x.ix, .int .i64 x.gen] 40 (0, 0)) ∧ X.heap[w.heap.size + 1 + 1 + 1]? = some (.cells #[.slice none 0 0, .slice none 0 0, .slice none 0 0] 28 (0, 0)) ∧ Keep (fun _ => False) w X) ⟨(by (try simp only [heap_drew']); (try simp only [World.heap_drewN]); repeat (first | exact heap_alloc_at _ _ _ (by first | rfl | simp) | rw [Below.heap_alloc _ _ _ (by first | (simp; done) | (simp; omega))])), (by (try simp only [heap_drew']); (try simp only [World.heap_drewN]); repeat (first | exact heap_alloc_at _ _ _ (by first | rfl | simp) | rw [Below.heap_alloc _ _ _ (by first | (simp; done) | (simp; omega))])), (by (try simp only [heap_drew']); (try simp only [World.heap_drewN]); repeat (first | exact heap_alloc_at _ _ _ (by first | rfl | simp) | rw [Below.heap_alloc _ _ _ (by first | (simp; done) | (simp; omega))])), (by (try simp only [heap_drew']); (try simp only [World.heap_drewN]); repeat (first | exact heap_alloc_at _ _ _ (by first | rfl | simp) | rw [Below.heap_alloc _ _ _ (by first | (simp; done) | (simp; omega))])), by exact (by repeat first | (with_reducible assumption) | (with_reducible exact Keep.refl _ _) | (with_reducible refine Keep.alloc ?_ _) | (with_reducible refine Keep.drew ?_) | (with_reducible refine Keep.drewN ?_ _) | (with_reducible refine Keep.setCell ?_ (.inl (by first | omega | (simp; done) | (simp; omega) | fail)) _))⟩ ?_
  rintro X ⟨b1, b2, b3, b4, hkX⟩
  have HX := Lib.hid (And.intro b1 (And.intro b2 (And.intro b3 (And.intro b4 hkX))))
  have zX : w.heap.size + 1 + 1 + 1 < X.heap.size := (Array.getElem?_eq_some_iff.1 b4).1
  have AT := Lib.hid (show ∀ Y, Keep (fun _ => False) X Y → Y.heap[w.heap.size]? = some (.cells #[.int .i64 c.log, .int .i64 c.pages, .int .i64 c.ents, .int .i64 c.gens, .slice Au nl cu] 24 (0, 0)) ∧ Y.heap[w.heap.size + 1]? = some (.cells #[.slice A1 n1 c1, .slice A2 n2 c2, .slice A3 n c3] 28 (0, 0)) ∧ Y.heap[w.heap.size + 1 + 1]? = some (.cells #[.int .i64 x.ix, .int .i64 x.gen] 40 (0, 0)) ∧ Y.heap[w.heap.size + 1 + 1 + 1]? = some (.cells #[.slice none 0 0, .slice none 0 0, .slice none 0 0] 28 (0, 0)) ∧ Keep (fun _ => False) w Y from fun Y hk => ⟨(hk.block _ (by omega) (fun h => h)).trans b1, (hk.block _ (by omega) (fun h => h)).trans b2, (hk.block _ (by omega) (fun h => h)).trans b3, (hk.block _ (by omega) (fun h => h)).trans b4, hkX.trans hk (fun _ _ h => h)⟩)
  obtain ⟨x0, x1, x2, xf⟩ := cells3 b2
  obtain ⟨y0, y1, yf⟩ := cells2 b3
  clear b1 b2 b3 b4
  go_wp2_with fail
  with_reducible refine (PL.out X hkX).mono ?_
  rintro e w1 ⟨rfl, k1⟩
  have B1 := Lib.hid (AT.out w1 k1)
  have HK1 := Lib.hid k1
  clear k1 x0 x1 x2 xf y0 y1 yf hkX
  obtain ⟨x0, x1, x2, xf⟩ := cells3 B1.out.2.1
  cases hpl : placeR s x with
  | none =>
    obtain rfl := P0.out hpl
    have RS := Lib.hid (G0.out hpl)
    have hlt : (-1 : Int) < 0 := by omega
    clear hpl
    obtain ⟨z0, z1, z2, zf⟩ := cells3 B1.out.2.2.2.1
    go_wp2
    refine bodyPost_ret (results_st2 Tryz.results59 _ _ (w.heap.size + 1 + 1 + 1) (.slice A1 n1 c1) (.slice A2 n2 c2) (.slice A3 n c3) ?_ ?_ (.int .i64 5) ?_) ?_ ⟨.agg #[.slice A1 n1 c1, .slice A2 n2 c2, .slice A3 n c3], ?_, ?_, ?_⟩
    · rfl
    · exact heap_3J B1.out.2.2.2.1 _ _ _
    · rfl
    · rfl
    · rw [RS.out]
    · rw [RS.out]; exact (HU.out.err B1.out.2.2.2.2 (by omega)).1
    · exact (HU.out.err B1.out.2.2.2.2 (by omega)).2
  | some p =>
    obtain ⟨rfl, hp2⟩ := P1.out p hpl
    obtain ⟨G2, Fr, RS0, GV2⟩ := GV.out p hpl
    have RS := Lib.hid RS0
    have GV3 := Lib.hid GV2
    have hlt : ¬ ((p : Int) < 0) := by omega
    clear hpl RS0 GV2
    obtain ⟨v0, v1, v2, v3, v4, vf⟩ := cells5 B1.out.1
    obtain ⟨y0, y1, yf⟩ := cells2 B1.out.2.2.1
    have CE := Lib.hid (show ∀ W', Keep (fun _ => False) w1 W' → ((W'.cell? ⟨w.heap.size, 0, none⟩ = some (.int .i64 c.log) ∧ W'.cell? ⟨w.heap.size, 1, none⟩ = some (.int .i64 c.pages) ∧ W'.cell? ⟨w.heap.size, 2, none⟩ = some (.int .i64 c.ents) ∧ W'.cell? ⟨w.heap.size, 3, none⟩ = some (.int .i64 c.gens) ∧ W'.cell? ⟨w.heap.size, 4, none⟩ = some (.slice Au nl cu)) ∧ (W'.cell? ⟨w.heap.size + 1, 0, none⟩ = some (.slice A1 n1 c1) ∧ W'.cell? ⟨w.heap.size + 1, 1, none⟩ = some (.slice A2 n2 c2) ∧ W'.cell? ⟨w.heap.size + 1, 2, none⟩ = some (.slice A3 n c3)) ∧ (W'.cell? ⟨w.heap.size + 1 + 1, 0, none⟩ = some (.int .i64 x.ix) ∧ W'.cell? ⟨w.heap.size + 1 + 1, 1, none⟩ = some (.int .i64 x.gen))) ∧ Keep (fun _ => False) w1 W' from fun W' hk => ⟨⟨⟨hk.cell (fun h => h) v0, hk.cell (fun h => h) v1, hk.cell (fun h => h) v2, hk.cell (fun h => h) v3, hk.cell (fun h => h) v4⟩, ⟨hk.cell (fun h => h) x0, hk.cell (fun h => h) x1, hk.cell (fun h => h) x2⟩, ⟨hk.cell (fun h => h) y0, hk.cell (fun h => h) y1⟩⟩, hk⟩)
    clear v0 v1 v2 v3 v4 vf x0 x1 x2 xf y0 y1 yf
    go_upto_region 4 with fail
    have zw1 := HK1.out.size
    go_cut [9] (fun t wx => ∃ xp A ca B cb, t = .pointer (some ⟨xp, 0, none⟩) ∧ Hid (DsCut w w1 F c.ents c.gens G2 Fr xp A ca B cb wx))
    case first =>
      go_region_held3 (fun W' => ((W'.cell? ⟨w.heap.size, 0, none⟩ = some (.int .i64 c.log) ∧ W'.cell? ⟨w.heap.size, 1, none⟩ = some (.int .i64 c.pages) ∧ W'.cell? ⟨w.heap.size, 2, none⟩ = some (.int .i64 c.ents) ∧ W'.cell? ⟨w.heap.size, 3, none⟩ = some (.int .i64 c.gens) ∧ W'.cell? ⟨w.heap.size, 4, none⟩ = some (.slice Au nl cu)) ∧ (W'.cell? ⟨w.heap.size + 1, 0, none⟩ = some (.slice A1 n1 c1) ∧ W'.cell? ⟨w.heap.size + 1, 1, none⟩ = some (.slice A2 n2 c2) ∧ W'.cell? ⟨w.heap.size + 1, 2, none⟩ = some (.slice A3 n c3)) ∧ (W'.cell? ⟨w.heap.size + 1 + 1, 0, none⟩ = some (.int .i64 x.ix) ∧ W'.cell? ⟨w.heap.size + 1 + 1, 1, none⟩ = some (.int .i64 x.gen))) ∧ Keep (fun _ => False) w1 W') (exact CE.out _ (by exact (by repeat first | (with_reducible assumption) | (with_reducible exact Keep.refl _ _) | (with_reducible refine Keep.alloc ?_ _) | (with_reducible refine Keep.drew ?_) | (with_reducible refine Keep.drewN ?_ _) | (with_reducible refine Keep.setCell ?_ (.inl (by first | omega | (simp; done) | (simp; omega) | fail)) _)))) (first
        | (go_at_call 111; (with_reducible refine (NM.out _).mono ?_); rintro e w4 ⟨rfl, hk4⟩; have k4 : Keep (fun _ => False) w1 w4 := Keep.trans (T := fun _ => False) (by exact (by repeat first | (with_reducible assumption) | (with_reducible exact Keep.refl _ _) | (with_reducible refine Keep.alloc ?_ _) | (with_reducible refine Keep.drew ?_) | (with_reducible refine Keep.drewN ?_ _) | (with_reducible refine Keep.setCell ?_ (.inl (by first | omega | (simp; done) | (simp; omega) | fail)) _))) hk4 (fun _ _ h => h); have z4 := k4.size; (first | (have aa := AlI.keep (AlI.new _) hk4; obtain ⟨AL4, al4⟩ := aa) | (have aa := AlI.keep (AlI.drew (AlI.new _)) hk4; obtain ⟨AL4, al4⟩ := aa) | skip); clear hk4)
        | (go_at_call 110; (with_reducible refine (GV3.out _ (by exact B1.out.2.2.2.2.trans (T := fun _ => False) (by exact (by repeat first | (with_reducible assumption) | (with_reducible exact Keep.refl _ _) | (with_reducible refine Keep.alloc ?_ _) | (with_reducible refine Keep.drew ?_) | (with_reducible refine Keep.drewN ?_ _) | (with_reducible refine Keep.setCell ?_ (.inl (by first | omega | (simp; done) | (simp; omega) | fail)) _))) (fun _ _ h => h))).mono ?_); rintro e w5 ⟨A7, ca, B7, cb, rfl, hs7, hf7, hk5⟩; have k5 : Keep (fun _ => False) w1 w5 := Keep.trans (T := fun _ => False) (by exact (by repeat first | (with_reducible assumption) | (with_reducible exact Keep.refl _ _) | (with_reducible refine Keep.alloc ?_ _) | (with_reducible refine Keep.drew ?_) | (with_reducible refine Keep.drewN ?_ _) | (with_reducible refine Keep.setCell ?_ (.inl (by first | omega | (simp; done) | (simp; omega) | fail)) _))) hk5 (fun _ _ h => h); have k45 : Keep (fun _ => False) w4 w5 := Keep.trans (T := fun _ => False) (by exact (by repeat first | (with_reducible assumption) | (with_reducible exact Keep.refl _ _) | (with_reducible refine Keep.alloc ?_ _) | (with_reducible refine Keep.drew ?_) | (with_reducible refine Keep.drewN ?_ _) | (with_reducible refine Keep.setCell ?_ (.inl (by first | omega | (simp; done) | (simp; omega) | fail)) _))) hk5 (fun _ _ h => h); have z5 := k5.size; have z7 := keep_size2 (X := w1) hk5 (by exact (by repeat first | (with_reducible assumption) | (with_reducible exact Keep.refl _ _) | (with_reducible refine Keep.alloc ?_ _) | (with_reducible refine Keep.drew ?_) | (with_reducible refine Keep.drewN ?_ _) | (with_reducible refine Keep.setCell ?_ (.inl (by first | omega | (simp; done) | (simp; omega) | fail)) _))); have HS7 := Lib.hid hs7; have HF7 := Lib.hid hf7; (first | (have aa := AlI.keep AL4 k45; obtain ⟨AL5, al5⟩ := aa) | (have aa := AlI.keep (AlI.new _) hk5; obtain ⟨AL5, al5⟩ := aa) | (have aa := AlI.keep (AlI.drew (AlI.new _)) hk5; obtain ⟨AL5, al5⟩ := aa) | skip); (first | (have cc := cells4 AL5; obtain ⟨r0, r1, r2, r3, rf⟩ := cc) | skip); clear hk5 hs7 hf7)
        | fail)
      all_goals
        go_wp2_with fail
        go_meet
        refine ⟨_, A7, ca, B7, cb, rfl, Lib.hid ?_⟩
        first
          | with_reducible exact DsCut.mk1 z7 (by omega) k5 z5 HS7.out HF7.out
          | with_reducible exact DsCut.mk2 (by omega) al5 (by omega) k5 AL5 HS7.out HF7.out
    case rest =>
      obtain ⟨xp, A7, ca, B7, cb, rfl, hds⟩ := hcut
      have HDS := Lib.hid hds.out
      have hw1c := hds.out.2.2.2.1.size
      have BC := Lib.hid (show ∀ Y, Keep (fun _ => False) wc Y → Y.heap[xp]? = some (.cells #[.int .i64 c.ents, .int .i64 c.gens, .slice A7 G2.length ca, .slice B7 Fr.length cb] 93 (0, 0)) ∧ Y.heap[w.heap.size + 1]? = some (.cells #[.slice A1 n1 c1, .slice A2 n2 c2, .slice A3 n c3] 28 (0, 0)) ∧ Y.heap[w.heap.size + 1 + 1 + 1]? = some (.cells #[.slice none 0 0, .slice none 0 0, .slice none 0 0] 28 (0, 0)) ∧ Keep (fun _ => False) w Y from fun Y hk => by
        obtain ⟨-, a2, -, a4, a5⟩ := AT.out Y (HK1.out.trans (hds.out.2.2.2.1.trans hk (fun _ _ h => h)) (fun _ _ h => h))
        exact ⟨(hk.block _ (Array.getElem?_eq_some_iff.1 hds.out.1).1 (fun h => h)).trans hds.out.1, a2, a4, a5⟩)
      have BC0 := Lib.hid (BC.out wc (Keep.refl _ _))
      obtain ⟨x0, x1, x2, xf⟩ := cells3 BC0.out.2.1
      have hi3 : (p : Int) ≤ (n : Int) := by omega
      have h02 : (0 : Int) ≤ (p : Int) := by omega
      have HP3 := Lib.hid (show NS entN wc (FL F w) (.slice A3 n c3) s.ents from HE.out.same BC0.out.2.2.2)
      obtain ⟨ie, hie, ie0, ie1, ie2⟩ := info_parts info_ent
      have LT := Lib.hid (show (s.ents.take p).length = p by rw [List.length_take, HN.out]; omega)
      have x2a : ∀ o, (wc.alloc o).cell? ⟨w.heap.size + 1, 2, none⟩ = some (.slice A3 n c3) := fun o => ((Keep.refl (fun _ => False) wc).alloc o).cell (fun h => h) x2
      go_wp2_with (first
        | (at_builtin; refine wpList_joins (by rfl) _ _ _ (by rfl) entN (FL F w) (FL F w) wc.heap.size 89 ie _ 40 Tryz.underlying26 hie ie0 ie1 ie2 rfl _ [] (s.ents.take p) 0 p rfl LT.out (by rfl) ⟨[], rfl, own_zeroA _ _ _ _ _, fun i x v h => by simp at h⟩ A3 c3 (by rfl) ?_ (fun b _ h => ⟨h, fun e => by cases e⟩) (by unfold maxLen; omega) (by omega) (by simp) ?_)
        | fail)
      · exact (HP3.out.front (by rw [HN.out]; omega)).same ((Keep.refl _ wc).alloc _)
      intro A8 c8 w8 hn8 hk8 ho8
      have k8 : Keep (fun _ => False) wc w8 := ((Keep.refl (fun _ => False) wc).alloc (.cells #[] 89 (0, 0))).trans hk8 (fun b hb e => by cases e)
      have HK36 := Lib.hid k8
      have HN6 := Lib.hid hn8
      have B8 := Lib.hid (BC.out w8 k8)
      have HP6 := Lib.hid (HP3.out.same k8)
      clear hn8 hk8 ho8 k8 x0 x1 x2 xf x2a
      obtain ⟨x0, x1, x2, xf⟩ := cells3 B8.out.2.1
      obtain ⟨z0, z1, z2, zf⟩ := cells3 B8.out.2.2.1
      obtain ⟨v0, v1, v2, v3, vf⟩ := cells4 B8.out.1
      obtain ⟨m, hm⟩ : ∃ m : Nat, (p : Int) + 1 = (m : Int) := ⟨p + 1, by omega⟩
      have hmw : IntKind.i64.wrap (m : Int) = (m : Int) := IntWalk.i64_in _ (by omega)
      have m1 : (m : Int) ≤ (n : Int) := by omega
      have m2 : (0 : Int) ≤ (m : Int) := by omega
      have m3 : m ≤ n := by omega
      have m4 : m ≤ c3 := by omega
      have ER := Lib.hid (show s.ents.take p ++ s.ents.drop m = s.ents.eraseIdx p by rw [List.eraseIdx_eq_take_drop_succ, show p + 1 = m by omega])
      go_upto_region 6 with fail
      rcases Nat.lt_or_ge m c3 with hcm | hcm
      · have hne : ¬ c3 = m := by omega
        go_cut [7] (fun t wx => t = .int .i64 0 ∧ Hid (StEnd w F (w.heap.size + 1 + 1 + 1) ⟨G2, Fr, s.ents.eraseIdx p⟩ wx))
        case first =>
          go_region_law (first
            | (refine step_joins (by rfl) _ _ _ (by rfl) entN (FL F w) (FL F w) wc.heap.size 89 ie _ 40 Tryz.underlying26 hie ie0 ie1 ie2 rfl _ (s.ents.take p) (s.ents.drop m) p (n - m) LT.out (by rw [List.length_drop, HN.out]; try omega) (by rfl) (HN6.out.keep (S := fun _ => False) (by exact (by repeat first | (with_reducible assumption) | (with_reducible exact Keep.refl _ _) | (with_reducible refine Keep.alloc ?_ _) | (with_reducible refine Keep.drew ?_) | (with_reducible refine Keep.drewN ?_ _) | (with_reducible refine Keep.setCell ?_ (.inl (by first | omega | (simp; done) | (simp; omega) | fail)) _))) (fun _ _ h => h) (fun _ _ _ _ h => h)) (Option.map (fun x => x.add (m * 3)) A3) (c3 - m) (by rfl) (by have h9 := (HP6.out.same (by exact (by repeat first | (with_reducible assumption) | (with_reducible exact Keep.refl _ _) | (with_reducible refine Keep.alloc ?_ _) | (with_reducible refine Keep.drew ?_) | (with_reducible refine Keep.drewN ?_ _) | (with_reducible refine Keep.setCell ?_ (.inl (by first | omega | (simp; done) | (simp; omega) | fail)) _)))).rest (m := m) (by rw [HN.out]; omega); rw [if_neg hne] at h9; exact h9) (fun b _ h => ⟨h, fun e => by have := (HN6.out.own_lt e).1; have := h.2; omega⟩) (by unfold maxLen; omega) (by omega) (by have := HK36.out.size; simp; omega) ?_; intro A9 c9 w9 hn9 hk9 ho9; have HK9 := Lib.hid (HK36.out.trans (Keep.trans (T := fun k => ownB (Value.slice A8 p c8) = some k) (by exact (by repeat first | (with_reducible assumption) | (with_reducible exact Keep.refl _ _) | (with_reducible refine Keep.alloc ?_ _) | (with_reducible refine Keep.drew ?_) | (with_reducible refine Keep.drewN ?_ _) | (with_reducible refine Keep.setCell ?_ (.inl (by first | omega | (simp; done) | (simp; omega) | fail)) _))) hk9 (fun _ _ h => h)) (fun b hb e => by have := (HN6.out.own_lt e).1; omega)); have B9 := Lib.hid (BC.out w9 HK9.out); have HP9 := Lib.hid (show NS entN w9 (fun b => FL F w b ∨ wc.heap.size ≤ b) (.slice A9 (p + (n - m)) c9) (s.ents.eraseIdx p) from by rw [← ER.out]; exact hn9.ns); clear hn9 hk9 ho9 x0 x1 x2 xf z0 z1 z2 zf v0 v1 v2 v3 vf; obtain ⟨x0, x1, x2, xf⟩ := cells3 B9.out.2.1; obtain ⟨z0, z1, z2, zf⟩ := cells3 B9.out.2.2.1; obtain ⟨v0, v1, v2, v3, vf⟩ := cells4 B9.out.1)
            | fail)
          all_goals
            go_wp2_with fail
            go_meet
            refine ⟨by rfl, ?_⟩
            have st := StM.of3 (p := w.heap.size + 1 + 1 + 1) (X := w1) (HDS.out.2.1.keep HK9.out (fun _ _ _ h => h)) (HDS.out.2.2.1.keep HK9.out (fun _ _ _ h => h)) (HP9.out.mono (fun b _ h => h.imp_right (fun h => Nat.le_trans hw1c h))) (by omega) (by omega)
            first
              | with_reducible exact Lib.hid (StEnd.mk st B9.out.2.2.1 B9.out.2.2.2 (by omega))
              | with_reducible exact Lib.hid (StEnd.mk st B9.out.2.2.1 B9.out.2.2.2 (by omega)).drew
        case rest =>
          obtain ⟨rfl, hend⟩ := hcut
          obtain ⟨E1, q1, d1, E2, q2, d2, E3, q3, d3, hb, hst, hkw⟩ := hend.out
          go_wp2
          refine bodyPost_ret (results_st2 Tryz.results59 _ _ (w.heap.size + 1 + 1 + 1) (.slice E1 q1 d1) (.slice E2 q2 d2) (.slice E3 q3 d3) ?_ ?_ (.int .i64 0) ?_) ?_ ⟨.agg #[.slice E1 q1 d1, .slice E2 q2 d2, .slice E3 q3 d3], ?_, ?_, ?_⟩
          · rfl
          · exact hb
          · rfl
          · rfl
          · rw [RS.out]
          · rw [RS.out]; exact hst
          · exact hkw
      · obtain rfl : m = c3 := by omega
        go_cut [7] (fun t wx => t = .int .i64 0 ∧ Hid (StEnd w F (w.heap.size + 1 + 1 + 1) ⟨G2, Fr, s.ents.eraseIdx p⟩ wx))
        case first =>
          go_region_law (first
            | (refine step_joins (by rfl) _ _ _ (by rfl) entN (FL F w) (FL F w) wc.heap.size 89 ie _ 40 Tryz.underlying26 hie ie0 ie1 ie2 rfl _ (s.ents.take p) (s.ents.drop m) p 0 LT.out (by rw [List.length_drop, HN.out]; try omega) (by rfl) (HN6.out.keep (S := fun _ => False) (by exact (by repeat first | (with_reducible assumption) | (with_reducible exact Keep.refl _ _) | (with_reducible refine Keep.alloc ?_ _) | (with_reducible refine Keep.drew ?_) | (with_reducible refine Keep.drewN ?_ _) | (with_reducible refine Keep.setCell ?_ (.inl (by first | omega | (simp; done) | (simp; omega) | fail)) _))) (fun _ _ h => h) (fun _ _ _ _ h => h)) A3 0 (by rfl) (by have h9 := (HP6.out.same (by exact (by repeat first | (with_reducible assumption) | (with_reducible exact Keep.refl _ _) | (with_reducible refine Keep.alloc ?_ _) | (with_reducible refine Keep.drew ?_) | (with_reducible refine Keep.drewN ?_ _) | (with_reducible refine Keep.setCell ?_ (.inl (by first | omega | (simp; done) | (simp; omega) | fail)) _)))).rest (m := m) (by rw [HN.out]; omega); rw [if_pos rfl, Nat.sub_self, show n - m = 0 by omega] at h9; exact h9) (fun b _ h => ⟨h, fun e => by have := (HN6.out.own_lt e).1; have := h.2; omega⟩) (by unfold maxLen; omega) (by omega) (by have := HK36.out.size; simp; omega) ?_; intro A9 c9 w9 hn9 hk9 ho9; have HK9 := Lib.hid (HK36.out.trans (Keep.trans (T := fun k => ownB (Value.slice A8 p c8) = some k) (by exact (by repeat first | (with_reducible assumption) | (with_reducible exact Keep.refl _ _) | (with_reducible refine Keep.alloc ?_ _) | (with_reducible refine Keep.drew ?_) | (with_reducible refine Keep.drewN ?_ _) | (with_reducible refine Keep.setCell ?_ (.inl (by first | omega | (simp; done) | (simp; omega) | fail)) _))) hk9 (fun _ _ h => h)) (fun b hb e => by have := (HN6.out.own_lt e).1; omega)); have B9 := Lib.hid (BC.out w9 HK9.out); have HP9 := Lib.hid (show NS entN w9 (fun b => FL F w b ∨ wc.heap.size ≤ b) (.slice A9 p c9) (s.ents.eraseIdx p) from by rw [← ER.out]; exact hn9.ns); clear hn9 hk9 ho9 x0 x1 x2 xf z0 z1 z2 zf v0 v1 v2 v3 vf; obtain ⟨x0, x1, x2, xf⟩ := cells3 B9.out.2.1; obtain ⟨z0, z1, z2, zf⟩ := cells3 B9.out.2.2.1; obtain ⟨v0, v1, v2, v3, vf⟩ := cells4 B9.out.1)
            | fail)
          all_goals
            go_wp2_with fail
            go_meet
            refine ⟨by rfl, ?_⟩
            have st := StM.of3 (p := w.heap.size + 1 + 1 + 1) (X := w1) (HDS.out.2.1.keep HK9.out (fun _ _ _ h => h)) (HDS.out.2.2.1.keep HK9.out (fun _ _ _ h => h)) (HP9.out.mono (fun b _ h => h.imp_right (fun h => Nat.le_trans hw1c h))) (by omega) (by omega)
            first
              | with_reducible exact Lib.hid (StEnd.mk st B9.out.2.2.1 B9.out.2.2.2 (by omega))
              | with_reducible exact Lib.hid (StEnd.mk st B9.out.2.2.1 B9.out.2.2.2 (by omega)).drew
        case rest =>
          obtain ⟨rfl, hend⟩ := hcut
          obtain ⟨E1, q1, d1, E2, q2, d2, E3, q3, d3, hb, hst, hkw⟩ := hend.out
          go_wp2
          refine bodyPost_ret (results_st2 Tryz.results59 _ _ (w.heap.size + 1 + 1 + 1) (.slice E1 q1 d1) (.slice E2 q2 d2) (.slice E3 q3 d3) ?_ ?_ (.int .i64 0) ?_) ?_ ⟨.agg #[.slice E1 q1 d1, .slice E2 q2 d2, .slice E3 q3 d3], ?_, ?_, ?_⟩
          · rfl
          · exact hb
          · rfl
          · rfl
          · rw [RS.out]
          · rw [RS.out]; exact hst
          · exact hkw
end Go.Proofs.YtglliendhbkkhaaGreatDoor
